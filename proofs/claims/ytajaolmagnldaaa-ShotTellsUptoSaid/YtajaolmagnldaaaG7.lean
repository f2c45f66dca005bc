/- The functions that a law reaches, each with the contract of what it computes over plain data; printed by program, no condition. -/
import Derived.Test.YtajaolmagnldaaaG7b
set_option maxRecDepth 100000
set_option maxHeartbeats 4000000
set_option linter.unusedVariables false
set_option linter.unusedSimpArgs false
namespace Go.Proofs.Ga
open Go.Proofs.Dl
-- 38 glazier/glazierplain.Trees
def d38 : FnDef := ⟨71, [.tmp 4],
  (.seq
  (.ops [
    ⟨some 4, .mv (.c (.one (.p (.bool false)))), none⟩] [0, 1])
  (.seq
  (.seq
  (.ops [
    ⟨some 6, .mv (.t 0), none⟩,
    ⟨some 7, .len false (.t 6), none⟩,
    ⟨some 8, .mv (.t 1), none⟩,
    ⟨some 9, .len false (.t 8), none⟩,
    ⟨some 10, .bin 0 .neq (.t 7) (.t 9), none⟩] [0, 1, 10])
  (.cond (.t 10)
    (.seq
    (.ops [
      ⟨some 4, .mv (.c (.one (.p (.bool false)))), none⟩] [4])
    .ret)
    .skip))
  (.seq
  (.seq
  (.ops [
    ⟨some 5, .mv (.c (.one (.p (.int .i64 0)))), none⟩] [0, 1, 5])
  (.block 0
    (.loop
      (.seq
      (.seq
      (.ops [
        ⟨some 11, .mv (.t 5), none⟩,
        ⟨some 12, .mv (.t 0), none⟩,
        ⟨some 13, .len false (.t 12), none⟩,
        ⟨some 14, .bin 0 .lss (.t 11) (.t 13), none⟩] [0, 1, 5, 14])
      (.cond (.t 14)
        .skip
        (.exit 0)))
      (.seq
      (.block 1
        (.seq
        (.drawn [
          ⟨⟨some 17, .mv (.t 0), none⟩, [], false⟩,
          ⟨⟨some 18, .mv (.t 5), none⟩, [], false⟩,
          ⟨⟨some 19, .iaddr 6 (.t 17) (.t 18), none⟩, [0, 1], false⟩,
          ⟨⟨some 20, .faddr 0 (.t 19), none⟩, [0, 1, 2], false⟩,
          ⟨⟨some 21, .load 2 true (.t 20), none⟩, [0, 1, 2, 3], false⟩,
          ⟨⟨some 22, .mv (.t 1), none⟩, [], false⟩,
          ⟨⟨some 23, .mv (.t 5), none⟩, [], false⟩,
          ⟨⟨some 24, .iaddr 6 (.t 22) (.t 23), none⟩, [5, 6], false⟩,
          ⟨⟨some 25, .faddr 0 (.t 24), none⟩, [5, 6, 7], false⟩,
          ⟨⟨some 26, .load 2 true (.t 25), none⟩, [5, 6, 7, 8], false⟩,
          ⟨⟨some 27, .call 106 [(.t 21), (.t 26)], none⟩, [0, 1, 2, 3, 4, 5, 6, 7, 8, 9], true⟩,
          ⟨⟨some 28, .un .not (.t 27), none⟩, [0, 1, 2, 3, 4, 5, 6, 7, 8, 9, 10], false⟩,
          ⟨⟨some 29, .mv (.t 28), none⟩, [0, 1, 2, 3, 4, 5, 6, 7, 8, 9, 10, 11], false⟩,
          ⟨⟨some 30, .mv (.t 0), some (29, false)⟩, [0, 1, 2, 3, 4, 5, 6, 7, 8, 9, 10, 11, 12], false⟩,
          ⟨⟨some 31, .mv (.t 5), some (29, false)⟩, [0, 1, 2, 3, 4, 5, 6, 7, 8, 9, 10, 11, 12], false⟩,
          ⟨⟨some 32, .iaddr 6 (.t 30) (.t 31), some (29, false)⟩, [0, 1, 2, 3, 4, 5, 6, 7, 8, 9, 10, 11, 12, 13, 14], false⟩,
          ⟨⟨some 33, .faddr 4 (.t 32), some (29, false)⟩, [0, 1, 2, 3, 4, 5, 6, 7, 8, 9, 10, 11, 12, 13, 14, 15], false⟩,
          ⟨⟨some 34, .load 2 true (.t 33), some (29, false)⟩, [0, 1, 2, 3, 4, 5, 6, 7, 8, 9, 10, 11, 12, 13, 14, 15, 16], false⟩,
          ⟨⟨some 35, .mv (.t 1), some (29, false)⟩, [0, 1, 2, 3, 4, 5, 6, 7, 8, 9, 10, 11, 12], false⟩,
          ⟨⟨some 36, .mv (.t 5), some (29, false)⟩, [0, 1, 2, 3, 4, 5, 6, 7, 8, 9, 10, 11, 12], false⟩,
          ⟨⟨some 37, .iaddr 6 (.t 35) (.t 36), some (29, false)⟩, [0, 1, 2, 3, 4, 5, 6, 7, 8, 9, 10, 11, 12, 18, 19], false⟩,
          ⟨⟨some 38, .faddr 4 (.t 37), some (29, false)⟩, [0, 1, 2, 3, 4, 5, 6, 7, 8, 9, 10, 11, 12, 18, 19, 20], false⟩,
          ⟨⟨some 39, .load 2 true (.t 38), some (29, false)⟩, [0, 1, 2, 3, 4, 5, 6, 7, 8, 9, 10, 11, 12, 18, 19, 20, 21], false⟩,
          ⟨⟨some 40, .call 106 [(.t 34), (.t 39)], some (29, false)⟩, [0, 1, 2, 3, 4, 5, 6, 7, 8, 9, 10, 11, 12, 13, 14, 15, 16, 17, 18, 19, 20, 21, 22], true⟩,
          ⟨⟨some 41, .un .not (.t 40), some (29, false)⟩, [0, 1, 2, 3, 4, 5, 6, 7, 8, 9, 10, 11, 12, 13, 14, 15, 16, 17, 18, 19, 20, 21, 22, 23], false⟩,
          ⟨⟨some 42, .pick (.t 29) (.c (.one (.p (.bool true)))) (.t 41), none⟩, [0, 1, 2, 3, 4, 5, 6, 7, 8, 9, 10, 11, 12, 13, 14, 15, 16, 17, 18, 19, 20, 21, 22, 23, 24], false⟩,
          ⟨⟨some 43, .mv (.t 42), none⟩, [0, 1, 2, 3, 4, 5, 6, 7, 8, 9, 10, 11, 12, 13, 14, 15, 16, 17, 18, 19, 20, 21, 22, 23, 24, 25], false⟩,
          ⟨⟨some 44, .mv (.t 0), some (43, false)⟩, [0, 1, 2, 3, 4, 5, 6, 7, 8, 9, 10, 11, 12, 13, 14, 15, 16, 17, 18, 19, 20, 21, 22, 23, 24, 25, 26], false⟩,
          ⟨⟨some 45, .mv (.t 5), some (43, false)⟩, [0, 1, 2, 3, 4, 5, 6, 7, 8, 9, 10, 11, 12, 13, 14, 15, 16, 17, 18, 19, 20, 21, 22, 23, 24, 25, 26], false⟩,
          ⟨⟨some 46, .iaddr 6 (.t 44) (.t 45), some (43, false)⟩, [0, 1, 2, 3, 4, 5, 6, 7, 8, 9, 10, 11, 12, 13, 14, 15, 16, 17, 18, 19, 20, 21, 22, 23, 24, 25, 26, 27, 28], false⟩,
          ⟨⟨some 47, .faddr 2 (.t 46), some (43, false)⟩, [0, 1, 2, 3, 4, 5, 6, 7, 8, 9, 10, 11, 12, 13, 14, 15, 16, 17, 18, 19, 20, 21, 22, 23, 24, 25, 26, 27, 28, 29], false⟩,
          ⟨⟨some 48, .load 1 false (.t 47), some (43, false)⟩, [0, 1, 2, 3, 4, 5, 6, 7, 8, 9, 10, 11, 12, 13, 14, 15, 16, 17, 18, 19, 20, 21, 22, 23, 24, 25, 26, 27, 28, 29, 30], false⟩,
          ⟨⟨some 49, .mv (.t 1), some (43, false)⟩, [0, 1, 2, 3, 4, 5, 6, 7, 8, 9, 10, 11, 12, 13, 14, 15, 16, 17, 18, 19, 20, 21, 22, 23, 24, 25, 26], false⟩,
          ⟨⟨some 50, .mv (.t 5), some (43, false)⟩, [0, 1, 2, 3, 4, 5, 6, 7, 8, 9, 10, 11, 12, 13, 14, 15, 16, 17, 18, 19, 20, 21, 22, 23, 24, 25, 26], false⟩,
          ⟨⟨some 51, .iaddr 6 (.t 49) (.t 50), some (43, false)⟩, [0, 1, 2, 3, 4, 5, 6, 7, 8, 9, 10, 11, 12, 13, 14, 15, 16, 17, 18, 19, 20, 21, 22, 23, 24, 25, 26, 32, 33], false⟩,
          ⟨⟨some 52, .faddr 2 (.t 51), some (43, false)⟩, [0, 1, 2, 3, 4, 5, 6, 7, 8, 9, 10, 11, 12, 13, 14, 15, 16, 17, 18, 19, 20, 21, 22, 23, 24, 25, 26, 32, 33, 34], false⟩,
          ⟨⟨some 53, .load 1 false (.t 52), some (43, false)⟩, [0, 1, 2, 3, 4, 5, 6, 7, 8, 9, 10, 11, 12, 13, 14, 15, 16, 17, 18, 19, 20, 21, 22, 23, 24, 25, 26, 32, 33, 34, 35], false⟩,
          ⟨⟨some 54, .call 74 [(.t 48), (.t 53)], some (43, false)⟩, [0, 1, 2, 3, 4, 5, 6, 7, 8, 9, 10, 11, 12, 13, 14, 15, 16, 17, 18, 19, 20, 21, 22, 23, 24, 25, 26, 27, 28, 29, 30, 31, 32, 33, 34, 35, 36], true⟩,
          ⟨⟨some 55, .un .not (.t 54), some (43, false)⟩, [0, 1, 2, 3, 4, 5, 6, 7, 8, 9, 10, 11, 12, 13, 14, 15, 16, 17, 18, 19, 20, 21, 22, 23, 24, 25, 26, 27, 28, 29, 30, 31, 32, 33, 34, 35, 36, 37], false⟩,
          ⟨⟨some 56, .pick (.t 43) (.c (.one (.p (.bool true)))) (.t 55), none⟩, [0, 1, 2, 3, 4, 5, 6, 7, 8, 9, 10, 11, 12, 13, 14, 15, 16, 17, 18, 19, 20, 21, 22, 23, 24, 25, 26, 27, 28, 29, 30, 31, 32, 33, 34, 35, 36, 37, 38], false⟩,
          ⟨⟨some 57, .mv (.t 56), none⟩, [0, 1, 2, 3, 4, 5, 6, 7, 8, 9, 10, 11, 12, 13, 14, 15, 16, 17, 18, 19, 20, 21, 22, 23, 24, 25, 26, 27, 28, 29, 30, 31, 32, 33, 34, 35, 36, 37, 38, 39], false⟩,
          ⟨⟨some 58, .mv (.t 0), some (57, false)⟩, [0, 1, 2, 3, 4, 5, 6, 7, 8, 9, 10, 11, 12, 13, 14, 15, 16, 17, 18, 19, 20, 21, 22, 23, 24, 25, 26, 27, 28, 29, 30, 31, 32, 33, 34, 35, 36, 37, 38, 39, 40], false⟩,
          ⟨⟨some 59, .mv (.t 5), some (57, false)⟩, [0, 1, 2, 3, 4, 5, 6, 7, 8, 9, 10, 11, 12, 13, 14, 15, 16, 17, 18, 19, 20, 21, 22, 23, 24, 25, 26, 27, 28, 29, 30, 31, 32, 33, 34, 35, 36, 37, 38, 39, 40], false⟩,
          ⟨⟨some 60, .iaddr 6 (.t 58) (.t 59), some (57, false)⟩, [0, 1, 2, 3, 4, 5, 6, 7, 8, 9, 10, 11, 12, 13, 14, 15, 16, 17, 18, 19, 20, 21, 22, 23, 24, 25, 26, 27, 28, 29, 30, 31, 32, 33, 34, 35, 36, 37, 38, 39, 40, 41, 42], false⟩,
          ⟨⟨some 61, .faddr 3 (.t 60), some (57, false)⟩, [0, 1, 2, 3, 4, 5, 6, 7, 8, 9, 10, 11, 12, 13, 14, 15, 16, 17, 18, 19, 20, 21, 22, 23, 24, 25, 26, 27, 28, 29, 30, 31, 32, 33, 34, 35, 36, 37, 38, 39, 40, 41, 42, 43], false⟩,
          ⟨⟨some 62, .load 1 false (.t 61), some (57, false)⟩, [0, 1, 2, 3, 4, 5, 6, 7, 8, 9, 10, 11, 12, 13, 14, 15, 16, 17, 18, 19, 20, 21, 22, 23, 24, 25, 26, 27, 28, 29, 30, 31, 32, 33, 34, 35, 36, 37, 38, 39, 40, 41, 42, 43, 44], false⟩,
          ⟨⟨some 63, .mv (.t 1), some (57, false)⟩, [0, 1, 2, 3, 4, 5, 6, 7, 8, 9, 10, 11, 12, 13, 14, 15, 16, 17, 18, 19, 20, 21, 22, 23, 24, 25, 26, 27, 28, 29, 30, 31, 32, 33, 34, 35, 36, 37, 38, 39, 40], false⟩,
          ⟨⟨some 64, .mv (.t 5), some (57, false)⟩, [0, 1, 2, 3, 4, 5, 6, 7, 8, 9, 10, 11, 12, 13, 14, 15, 16, 17, 18, 19, 20, 21, 22, 23, 24, 25, 26, 27, 28, 29, 30, 31, 32, 33, 34, 35, 36, 37, 38, 39, 40], false⟩,
          ⟨⟨some 65, .iaddr 6 (.t 63) (.t 64), some (57, false)⟩, [0, 1, 2, 3, 4, 5, 6, 7, 8, 9, 10, 11, 12, 13, 14, 15, 16, 17, 18, 19, 20, 21, 22, 23, 24, 25, 26, 27, 28, 29, 30, 31, 32, 33, 34, 35, 36, 37, 38, 39, 40, 46, 47], false⟩,
          ⟨⟨some 66, .faddr 3 (.t 65), some (57, false)⟩, [0, 1, 2, 3, 4, 5, 6, 7, 8, 9, 10, 11, 12, 13, 14, 15, 16, 17, 18, 19, 20, 21, 22, 23, 24, 25, 26, 27, 28, 29, 30, 31, 32, 33, 34, 35, 36, 37, 38, 39, 40, 46, 47, 48], false⟩,
          ⟨⟨some 67, .load 1 false (.t 66), some (57, false)⟩, [0, 1, 2, 3, 4, 5, 6, 7, 8, 9, 10, 11, 12, 13, 14, 15, 16, 17, 18, 19, 20, 21, 22, 23, 24, 25, 26, 27, 28, 29, 30, 31, 32, 33, 34, 35, 36, 37, 38, 39, 40, 46, 47, 48, 49], false⟩,
          ⟨⟨some 68, .call 38 [(.t 62), (.t 67)], some (57, false)⟩, [0, 1, 2, 3, 4, 5, 6, 7, 8, 9, 10, 11, 12, 13, 14, 15, 16, 17, 18, 19, 20, 21, 22, 23, 24, 25, 26, 27, 28, 29, 30, 31, 32, 33, 34, 35, 36, 37, 38, 39, 40, 41, 42, 43, 44, 45, 46, 47, 48, 49, 50], true⟩,
          ⟨⟨some 69, .un .not (.t 68), some (57, false)⟩, [0, 1, 2, 3, 4, 5, 6, 7, 8, 9, 10, 11, 12, 13, 14, 15, 16, 17, 18, 19, 20, 21, 22, 23, 24, 25, 26, 27, 28, 29, 30, 31, 32, 33, 34, 35, 36, 37, 38, 39, 40, 41, 42, 43, 44, 45, 46, 47, 48, 49, 50, 51], false⟩,
          ⟨⟨some 70, .pick (.t 57) (.c (.one (.p (.bool true)))) (.t 69), none⟩, [0, 1, 2, 3, 4, 5, 6, 7, 8, 9, 10, 11, 12, 13, 14, 15, 16, 17, 18, 19, 20, 21, 22, 23, 24, 25, 26, 27, 28, 29, 30, 31, 32, 33, 34, 35, 36, 37, 38, 39, 40, 41, 42, 43, 44, 45, 46, 47, 48, 49, 50, 51, 52], false⟩] [[], [10], [10, 23], [10, 23, 37], [10, 23, 37, 51]] [0, 1, 5, 70])
        (.cond (.t 70)
          (.seq
          (.ops [
            ⟨some 4, .mv (.c (.one (.p (.bool false)))), none⟩] [4])
          .ret)
          .skip)))
      (.ops [
        ⟨some 15, .mv (.t 5), none⟩,
        ⟨some 16, .bin 0 .add (.t 15) (.c (.one (.p (.int .i64 1)))), none⟩,
        ⟨some 5, .mv (.t 16), none⟩] [0, 1, 5]))))))
  (.seq
  (.ops [
    ⟨some 4, .mv (.c (.one (.p (.bool true)))), none⟩] [4])
  .ret))))⟩
theorem m38 : mFn Try.prog d38 Try.f38 = true := by kernel_rfl
def glazierplain_Trees.A (a_2261 : (List api_Tree)) (b_2262 : (List api_Tree)) : List Vv := [.one (.p (.sl 6 (a_2261.map enR_api_Tree))), .one (.p (.sl 6 (b_2262.map enR_api_Tree)))]
def glazierplain_Trees.S0 (a_2261 : (List api_Tree)) (b_2262 : (List api_Tree)) : Sto := []
def glazierplain_Trees.R (a_2261 : (List api_Tree)) (b_2262 : (List api_Tree)) (r_0 : Bool) : Vv := .one (.p (.bool r_0))
def glazierplain_Trees.S1 (a_2261 : (List api_Tree)) (b_2262 : (List api_Tree)) (r_0 : Bool) : Sto := []
def glazierplain_Trees.rs : List Rv := d38.res
def glazierplain_Trees.b : Sx := d38.body
mutual
def glazierplain_Trees_l1 : Nat → (List api_Tree) → (List api_Tree) → Int → Option ((Unit) ⊕ (Unit))
  | 0, _, _, _ => none
  | k + 1, a_2674, b_2675, i_2676 => (if i_2676 < (a_2674.length : Int) then ((idx a_2674 i_2676).bind fun x_2695 => ((idx b_2675 i_2676).bind fun x_2696 => ((glazierplain_Str.f k x_2695.Tag x_2696.Tag).bind fun t_2697 => (if (!t_2697) = true then (some (.inl ())) else ((idx a_2674 i_2676).bind fun x_2699 => ((idx b_2675 i_2676).bind fun x_2700 => ((glazierplain_Str.f k x_2699.Text x_2700.Text).bind fun t_2701 => (if (!t_2701) = true then (some (.inl ())) else ((idx a_2674 i_2676).bind fun x_2703 => ((idx b_2675 i_2676).bind fun x_2704 => ((glazierplain_Attrs.f k x_2703.Attrs x_2704.Attrs).bind fun t_2705 => (if (!t_2705) = true then (some (.inl ())) else ((idx a_2674 i_2676).bind fun x_2707 => ((idx b_2675 i_2676).bind fun x_2708 => ((glazierplain_Trees.f k x_2707.Kids x_2708.Kids).bind fun t_2709 => (if (!t_2709) = true then (some (.inl ())) else (glazierplain_Trees_l1 k a_2674 b_2675 (w64 (i_2676 + 1))))))))))))))))))) else (some (.inr ())))
def glazierplain_Trees.f : Nat → (List api_Tree) → (List api_Tree) → Option (Bool)
  | 0, _, _ => none
  | k + 1, a_2261, b_2262 => (if (a_2261.length : Int) ≠ (b_2262.length : Int) then (some false) else (Option.bind (glazierplain_Trees_l1 k a_2261 b_2262 0) (Sum.elim (fun x_2712 => (some false)) (fun x_2713 => (some true)))))
end
def glazierplain_Trees_l1.S (k : Nat) : Prop := ∀ (a_2674 : (List api_Tree)) (b_2675 : (List api_Tree)) (i_2676 : Int) (v : (Unit) ⊕ (Unit)), glazierplain_Trees_l1 k a_2674 b_2675 i_2676 = some v → ∀ (res : Vv) (st : Sto), (∀ x_0, v = (.inl x_0) → ∀ k, RunE Try.prog ⟨0, glazierplain_Trees.rs, res, st⟩ (.st .ret k) [(4, .one (.p (.bool false)))] []) → (∀ x_0, v = (.inr x_0) → RunE Try.prog ⟨0, glazierplain_Trees.rs, res, st⟩ (koAfter glazierplain_Trees.b [1, 1, 0, 1]) [] []) → RunE Try.prog ⟨0, glazierplain_Trees.rs, res, st⟩ (koLoop glazierplain_Trees.b [1, 1, 0, 1, 0]) [(0, .one (.p (.sl 6 (a_2674.map enR_api_Tree)))), (1, .one (.p (.sl 6 (b_2675.map enR_api_Tree)))), (5, .one (.p (.int .i64 i_2676)))] []
def glazierplain_Trees.S (k : Nat) : Prop := ∀ (a_2261 : (List api_Tree)) (b_2262 : (List api_Tree)) (r : Bool), glazierplain_Trees.f k a_2261 b_2262 = some r → OkS Try.prog 38 (glazierplain_Trees.A a_2261 b_2262) (glazierplain_Trees.S0 a_2261 b_2262) (glazierplain_Trees.R a_2261 b_2262 r) (glazierplain_Trees.S1 a_2261 b_2262 r)
theorem glazierplain_Trees_l1.z : glazierplain_Trees_l1.S 0 := fun _ _ _ v h => none_some h
theorem glazierplain_Trees.z : glazierplain_Trees.S 0 := fun _ _ r h => none_some h
theorem glazierplain_Trees_l1.step (k : Nat) (ih_glazierplain_Trees_l1 : glazierplain_Trees_l1.S k) (ih_glazierplain_Trees : glazierplain_Trees.S k) : glazierplain_Trees_l1.S (k + 1) := by
  have ih := ih_glazierplain_Trees_l1
  intro a_2674 b_2675 i_2676 v h res st c0 c1
  rw [glazierplain_Trees_l1] at h
  rcases ite_some h with ⟨c_2694, h⟩ | ⟨c_2694, h⟩
  · obtain ⟨x_2695, hx_2695, h⟩ := bind_some h
    obtain ⟨x_2696, hx_2696, h⟩ := bind_some h
    obtain ⟨t_2697, ht_2697, h⟩ := bind_some h
    rcases ite_some h with ⟨c_2698, h⟩ | ⟨c_2698, h⟩
    · obtain rfl := Option.some.inj h
      exact pathE 484 [.n a_2674.length, .b true, .dr 0 [[], [], [.c (en_api_Tree x_2695)], [], [], [], [], [.c (en_api_Tree x_2696)], [], [], [.call [] (glazierplain_Str.R x_2695.Tag x_2696.Tag t_2697) (glazierplain_Str.S1 x_2695.Tag x_2696.Tag t_2697)], [], [.lt true], [.b true], [.b true], [.b true], [.b true], [.b true], [.b true], [.b true], [.b true], [.b true], [.b true], [.b true], [.b true], [], [], [.b true], [.b true], [.b true], [.b true], [.b true], [.b true], [.b true], [.b true], [.b true], [.b true], [.b true], [.b true], [], [], [.b true], [.b true], [.b true], [.b true], [.b true], [.b true], [.b true], [.b true], [.b true], [.b true], [.b true], [.b true], []] [.one (.p (.sl 6 (a_2674.map enR_api_Tree))), .one (.p (.int .i64 i_2676)), .one (.cptr [.str x_2695.Tag.Text, .sl 2 (x_2695.Tag.Runs.map en_api_Run), .sl 4 (x_2695.Attrs.map en_api_Attr), .sl 6 (x_2695.Kids.map enR_api_Tree), .str x_2695.Text.Text, .sl 2 (x_2695.Text.Runs.map en_api_Run)]), .one (.cptr [.str x_2695.Tag.Text, .sl 2 (x_2695.Tag.Runs.map en_api_Run), .sl 4 (x_2695.Attrs.map en_api_Attr), .sl 6 (x_2695.Kids.map enR_api_Tree), .str x_2695.Text.Text, .sl 2 (x_2695.Text.Runs.map en_api_Run)]), .agg [.p (.str x_2695.Tag.Text), .p (.sl 2 (x_2695.Tag.Runs.map en_api_Run))], .one (.p (.sl 6 (b_2675.map enR_api_Tree))), .one (.p (.int .i64 i_2676)), .one (.cptr [.str x_2696.Tag.Text, .sl 2 (x_2696.Tag.Runs.map en_api_Run), .sl 4 (x_2696.Attrs.map en_api_Attr), .sl 6 (x_2696.Kids.map enR_api_Tree), .str x_2696.Text.Text, .sl 2 (x_2696.Text.Runs.map en_api_Run)]), .one (.cptr [.str x_2696.Tag.Text, .sl 2 (x_2696.Tag.Runs.map en_api_Run), .sl 4 (x_2696.Attrs.map en_api_Attr), .sl 6 (x_2696.Kids.map enR_api_Tree), .str x_2696.Text.Text, .sl 2 (x_2696.Text.Runs.map en_api_Run)]), .agg [.p (.str x_2696.Tag.Text), .p (.sl 2 (x_2696.Tag.Runs.map en_api_Run))], .one (.p (.bool t_2697)), .one (.p (.bool (!t_2697))), .one (.p (.bool true)), .tup [], .tup [], .tup [], .tup [], .tup [], .tup [], .tup [], .tup [], .tup [], .tup [], .tup [], .tup [], .one (.p (.bool true)), .one (.p (.bool true)), .tup [], .tup [], .tup [], .tup [], .tup [], .tup [], .tup [], .tup [], .tup [], .tup [], .tup [], .tup [], .one (.p (.bool true)), .one (.p (.bool true)), .tup [], .tup [], .tup [], .tup [], .tup [], .tup [], .tup [], .tup [], .tup [], .tup [], .tup [], .tup [], .one (.p (.bool true))] [[], [], [], [], [], [], [], [], [], [], [], [], [], [], [], [], [], [], [], [], [], [], [], [], [], [], [], [], [], [], [], [], [], [], [], [], [], [], [], [], [], [], [], [], [], [], [], [], [], [], [], [], [], []], .b true, .i 4, .keep [4], .stop] (ai (len_ob enR_api_Tree a_2674) <| ai (decide_eq_true c_2694) <| ai (idx_obR enR_api_Tree en_api_Tree enR_api_Tree_eq hx_2695) <| ai (idx_obR enR_api_Tree en_api_Tree enR_api_Tree_eq hx_2696) <| ai (glazierplain_Str.ok k x_2695.Tag x_2696.Tag t_2697 ht_2697) <| ai c_2698 <| ai rT <| ai rT <| ai rT <| ai rT <| ai rT <| ai rT <| ai rT <| ai rT <| ai rT <| ai rT <| ai rT <| ai rT <| ai rT <| ai rT <| ai rT <| ai rT <| ai rT <| ai rT <| ai rT <| ai rT <| ai rT <| ai rT <| ai rT <| ai rT <| ai rT <| ai rT <| ai rT <| ai rT <| ai rT <| ai rT <| ai rT <| ai rT <| ai rT <| ai rT <| ai rT <| ai rT <| ai (drE glazierplain_Trees.b [1, 1, 0, 1, 0, 0, 1, 0, 0, 0] [.one (.p (.sl 6 (a_2674.map enR_api_Tree))), .one (.p (.int .i64 i_2676)), .one (.cptr [.str x_2695.Tag.Text, .sl 2 (x_2695.Tag.Runs.map en_api_Run), .sl 4 (x_2695.Attrs.map en_api_Attr), .sl 6 (x_2695.Kids.map enR_api_Tree), .str x_2695.Text.Text, .sl 2 (x_2695.Text.Runs.map en_api_Run)]), .one (.cptr [.str x_2695.Tag.Text, .sl 2 (x_2695.Tag.Runs.map en_api_Run), .sl 4 (x_2695.Attrs.map en_api_Attr), .sl 6 (x_2695.Kids.map enR_api_Tree), .str x_2695.Text.Text, .sl 2 (x_2695.Text.Runs.map en_api_Run)]), .agg [.p (.str x_2695.Tag.Text), .p (.sl 2 (x_2695.Tag.Runs.map en_api_Run))], .one (.p (.sl 6 (b_2675.map enR_api_Tree))), .one (.p (.int .i64 i_2676)), .one (.cptr [.str x_2696.Tag.Text, .sl 2 (x_2696.Tag.Runs.map en_api_Run), .sl 4 (x_2696.Attrs.map en_api_Attr), .sl 6 (x_2696.Kids.map enR_api_Tree), .str x_2696.Text.Text, .sl 2 (x_2696.Text.Runs.map en_api_Run)]), .one (.cptr [.str x_2696.Tag.Text, .sl 2 (x_2696.Tag.Runs.map en_api_Run), .sl 4 (x_2696.Attrs.map en_api_Attr), .sl 6 (x_2696.Kids.map enR_api_Tree), .str x_2696.Text.Text, .sl 2 (x_2696.Text.Runs.map en_api_Run)]), .agg [.p (.str x_2696.Tag.Text), .p (.sl 2 (x_2696.Tag.Runs.map en_api_Run))], .one (.p (.bool t_2697)), .one (.p (.bool (!t_2697))), .one (.p (.bool true)), .tup [], .tup [], .tup [], .tup [], .tup [], .tup [], .tup [], .tup [], .tup [], .tup [], .tup [], .tup [], .one (.p (.bool true)), .one (.p (.bool true)), .tup [], .tup [], .tup [], .tup [], .tup [], .tup [], .tup [], .tup [], .tup [], .tup [], .tup [], .tup [], .one (.p (.bool true)), .one (.p (.bool true)), .tup [], .tup [], .tup [], .tup [], .tup [], .tup [], .tup [], .tup [], .tup [], .tup [], .tup [], .tup [], .one (.p (.bool true))] [[], [], [], [], [], [], [], [], [], [], [], [], [], [], [], [], [], [], [], [], [], [], [], [], [], [], [], [], [], [], [], [], [], [], [], [], [], [], [], [], [], [], [], [], [], [], [], [], [], [], [], [], [], []] ([] ++ List.replicate 0 .res)) <| ai rT <| ((c0 () rfl) (koAfter glazierplain_Trees.b [1, 1, 0, 1, 0, 0, 1, 0, 0, 1, 0, 1]))) (by kernel_rfl)
    · obtain ⟨x_2699, hx_2699, h⟩ := bind_some h
      obtain ⟨x_2700, hx_2700, h⟩ := bind_some h
      obtain ⟨t_2701, ht_2701, h⟩ := bind_some h
      rcases ite_some h with ⟨c_2702, h⟩ | ⟨c_2702, h⟩
      · obtain rfl := Option.some.inj h
        exact pathE 484 [.n a_2674.length, .b true, .dr 0 [[], [], [.c (en_api_Tree x_2695)], [], [], [], [], [.c (en_api_Tree x_2696)], [], [], [.call [] (glazierplain_Str.R x_2695.Tag x_2696.Tag t_2697) (glazierplain_Str.S1 x_2695.Tag x_2696.Tag t_2697)], [], [.lt false], [.b false], [.b false], [.b false, .c (en_api_Tree x_2699)], [.b false], [.b false], [.b false], [.b false], [.b false, .c (en_api_Tree x_2700)], [.b false], [.b false], [.b false, .call [] (glazierplain_Str.R x_2699.Text x_2700.Text t_2701) (glazierplain_Str.S1 x_2699.Text x_2700.Text t_2701)], [.b false], [], [.lt true], [.b true], [.b true], [.b true], [.b true], [.b true], [.b true], [.b true], [.b true], [.b true], [.b true], [.b true], [.b true], [], [], [.b true], [.b true], [.b true], [.b true], [.b true], [.b true], [.b true], [.b true], [.b true], [.b true], [.b true], [.b true], []] [.one (.p (.sl 6 (a_2674.map enR_api_Tree))), .one (.p (.int .i64 i_2676)), .one (.cptr [.str x_2695.Tag.Text, .sl 2 (x_2695.Tag.Runs.map en_api_Run), .sl 4 (x_2695.Attrs.map en_api_Attr), .sl 6 (x_2695.Kids.map enR_api_Tree), .str x_2695.Text.Text, .sl 2 (x_2695.Text.Runs.map en_api_Run)]), .one (.cptr [.str x_2695.Tag.Text, .sl 2 (x_2695.Tag.Runs.map en_api_Run), .sl 4 (x_2695.Attrs.map en_api_Attr), .sl 6 (x_2695.Kids.map enR_api_Tree), .str x_2695.Text.Text, .sl 2 (x_2695.Text.Runs.map en_api_Run)]), .agg [.p (.str x_2695.Tag.Text), .p (.sl 2 (x_2695.Tag.Runs.map en_api_Run))], .one (.p (.sl 6 (b_2675.map enR_api_Tree))), .one (.p (.int .i64 i_2676)), .one (.cptr [.str x_2696.Tag.Text, .sl 2 (x_2696.Tag.Runs.map en_api_Run), .sl 4 (x_2696.Attrs.map en_api_Attr), .sl 6 (x_2696.Kids.map enR_api_Tree), .str x_2696.Text.Text, .sl 2 (x_2696.Text.Runs.map en_api_Run)]), .one (.cptr [.str x_2696.Tag.Text, .sl 2 (x_2696.Tag.Runs.map en_api_Run), .sl 4 (x_2696.Attrs.map en_api_Attr), .sl 6 (x_2696.Kids.map enR_api_Tree), .str x_2696.Text.Text, .sl 2 (x_2696.Text.Runs.map en_api_Run)]), .agg [.p (.str x_2696.Tag.Text), .p (.sl 2 (x_2696.Tag.Runs.map en_api_Run))], .one (.p (.bool t_2697)), .one (.p (.bool (!t_2697))), .one (.p (.bool false)), .one (.p (.sl 6 (a_2674.map enR_api_Tree))), .one (.p (.int .i64 i_2676)), .one (.cptr [.str x_2699.Tag.Text, .sl 2 (x_2699.Tag.Runs.map en_api_Run), .sl 4 (x_2699.Attrs.map en_api_Attr), .sl 6 (x_2699.Kids.map enR_api_Tree), .str x_2699.Text.Text, .sl 2 (x_2699.Text.Runs.map en_api_Run)]), .one (.cptr [.str x_2699.Text.Text, .sl 2 (x_2699.Text.Runs.map en_api_Run)]), .agg [.p (.str x_2699.Text.Text), .p (.sl 2 (x_2699.Text.Runs.map en_api_Run))], .one (.p (.sl 6 (b_2675.map enR_api_Tree))), .one (.p (.int .i64 i_2676)), .one (.cptr [.str x_2700.Tag.Text, .sl 2 (x_2700.Tag.Runs.map en_api_Run), .sl 4 (x_2700.Attrs.map en_api_Attr), .sl 6 (x_2700.Kids.map enR_api_Tree), .str x_2700.Text.Text, .sl 2 (x_2700.Text.Runs.map en_api_Run)]), .one (.cptr [.str x_2700.Text.Text, .sl 2 (x_2700.Text.Runs.map en_api_Run)]), .agg [.p (.str x_2700.Text.Text), .p (.sl 2 (x_2700.Text.Runs.map en_api_Run))], .one (.p (.bool t_2701)), .one (.p (.bool (!t_2701))), .one (.p (.bool (!t_2701))), .one (.p (.bool true)), .tup [], .tup [], .tup [], .tup [], .tup [], .tup [], .tup [], .tup [], .tup [], .tup [], .tup [], .tup [], .one (.p (.bool true)), .one (.p (.bool true)), .tup [], .tup [], .tup [], .tup [], .tup [], .tup [], .tup [], .tup [], .tup [], .tup [], .tup [], .tup [], .one (.p (.bool true))] [[], [], [], [], [], [], [], [], [], [], [], [], [], [], [], [], [], [], [], [], [], [], [], [], [], [], [], [], [], [], [], [], [], [], [], [], [], [], [], [], [], [], [], [], [], [], [], [], [], [], [], [], [], []], .b true, .i 4, .keep [4], .stop] (ai (len_ob enR_api_Tree a_2674) <| ai (decide_eq_true c_2694) <| ai (idx_obR enR_api_Tree en_api_Tree enR_api_Tree_eq hx_2695) <| ai (idx_obR enR_api_Tree en_api_Tree enR_api_Tree_eq hx_2696) <| ai (glazierplain_Str.ok k x_2695.Tag x_2696.Tag t_2697 ht_2697) <| ai (bool_false c_2698) <| ai rF <| ai rF <| ai rF <| ai (idx_obR enR_api_Tree en_api_Tree enR_api_Tree_eq hx_2699) <| ai rF <| ai rF <| ai rF <| ai rF <| ai rF <| ai (idx_obR enR_api_Tree en_api_Tree enR_api_Tree_eq hx_2700) <| ai rF <| ai rF <| ai rF <| ai (glazierplain_Str.ok k x_2699.Text x_2700.Text t_2701 ht_2701) <| ai rF <| ai c_2702 <| ai rT <| ai rT <| ai rT <| ai rT <| ai rT <| ai rT <| ai rT <| ai rT <| ai rT <| ai rT <| ai rT <| ai rT <| ai rT <| ai rT <| ai rT <| ai rT <| ai rT <| ai rT <| ai rT <| ai rT <| ai rT <| ai rT <| ai rT <| ai rT <| ai (drE glazierplain_Trees.b [1, 1, 0, 1, 0, 0, 1, 0, 0, 0] [.one (.p (.sl 6 (a_2674.map enR_api_Tree))), .one (.p (.int .i64 i_2676)), .one (.cptr [.str x_2695.Tag.Text, .sl 2 (x_2695.Tag.Runs.map en_api_Run), .sl 4 (x_2695.Attrs.map en_api_Attr), .sl 6 (x_2695.Kids.map enR_api_Tree), .str x_2695.Text.Text, .sl 2 (x_2695.Text.Runs.map en_api_Run)]), .one (.cptr [.str x_2695.Tag.Text, .sl 2 (x_2695.Tag.Runs.map en_api_Run), .sl 4 (x_2695.Attrs.map en_api_Attr), .sl 6 (x_2695.Kids.map enR_api_Tree), .str x_2695.Text.Text, .sl 2 (x_2695.Text.Runs.map en_api_Run)]), .agg [.p (.str x_2695.Tag.Text), .p (.sl 2 (x_2695.Tag.Runs.map en_api_Run))], .one (.p (.sl 6 (b_2675.map enR_api_Tree))), .one (.p (.int .i64 i_2676)), .one (.cptr [.str x_2696.Tag.Text, .sl 2 (x_2696.Tag.Runs.map en_api_Run), .sl 4 (x_2696.Attrs.map en_api_Attr), .sl 6 (x_2696.Kids.map enR_api_Tree), .str x_2696.Text.Text, .sl 2 (x_2696.Text.Runs.map en_api_Run)]), .one (.cptr [.str x_2696.Tag.Text, .sl 2 (x_2696.Tag.Runs.map en_api_Run), .sl 4 (x_2696.Attrs.map en_api_Attr), .sl 6 (x_2696.Kids.map enR_api_Tree), .str x_2696.Text.Text, .sl 2 (x_2696.Text.Runs.map en_api_Run)]), .agg [.p (.str x_2696.Tag.Text), .p (.sl 2 (x_2696.Tag.Runs.map en_api_Run))], .one (.p (.bool t_2697)), .one (.p (.bool (!t_2697))), .one (.p (.bool false)), .one (.p (.sl 6 (a_2674.map enR_api_Tree))), .one (.p (.int .i64 i_2676)), .one (.cptr [.str x_2699.Tag.Text, .sl 2 (x_2699.Tag.Runs.map en_api_Run), .sl 4 (x_2699.Attrs.map en_api_Attr), .sl 6 (x_2699.Kids.map enR_api_Tree), .str x_2699.Text.Text, .sl 2 (x_2699.Text.Runs.map en_api_Run)]), .one (.cptr [.str x_2699.Text.Text, .sl 2 (x_2699.Text.Runs.map en_api_Run)]), .agg [.p (.str x_2699.Text.Text), .p (.sl 2 (x_2699.Text.Runs.map en_api_Run))], .one (.p (.sl 6 (b_2675.map enR_api_Tree))), .one (.p (.int .i64 i_2676)), .one (.cptr [.str x_2700.Tag.Text, .sl 2 (x_2700.Tag.Runs.map en_api_Run), .sl 4 (x_2700.Attrs.map en_api_Attr), .sl 6 (x_2700.Kids.map enR_api_Tree), .str x_2700.Text.Text, .sl 2 (x_2700.Text.Runs.map en_api_Run)]), .one (.cptr [.str x_2700.Text.Text, .sl 2 (x_2700.Text.Runs.map en_api_Run)]), .agg [.p (.str x_2700.Text.Text), .p (.sl 2 (x_2700.Text.Runs.map en_api_Run))], .one (.p (.bool t_2701)), .one (.p (.bool (!t_2701))), .one (.p (.bool (!t_2701))), .one (.p (.bool true)), .tup [], .tup [], .tup [], .tup [], .tup [], .tup [], .tup [], .tup [], .tup [], .tup [], .tup [], .tup [], .one (.p (.bool true)), .one (.p (.bool true)), .tup [], .tup [], .tup [], .tup [], .tup [], .tup [], .tup [], .tup [], .tup [], .tup [], .tup [], .tup [], .one (.p (.bool true))] [[], [], [], [], [], [], [], [], [], [], [], [], [], [], [], [], [], [], [], [], [], [], [], [], [], [], [], [], [], [], [], [], [], [], [], [], [], [], [], [], [], [], [], [], [], [], [], [], [], [], [], [], [], []] ([] ++ List.replicate 0 .res)) <| ai rT <| ((c0 () rfl) (koAfter glazierplain_Trees.b [1, 1, 0, 1, 0, 0, 1, 0, 0, 1, 0, 1]))) (by kernel_rfl)
      · obtain ⟨x_2703, hx_2703, h⟩ := bind_some h
        obtain ⟨x_2704, hx_2704, h⟩ := bind_some h
        obtain ⟨t_2705, ht_2705, h⟩ := bind_some h
        rcases ite_some h with ⟨c_2706, h⟩ | ⟨c_2706, h⟩
        · obtain rfl := Option.some.inj h
          exact pathE 484 [.n a_2674.length, .b true, .dr 0 [[], [], [.c (en_api_Tree x_2695)], [], [], [], [], [.c (en_api_Tree x_2696)], [], [], [.call [] (glazierplain_Str.R x_2695.Tag x_2696.Tag t_2697) (glazierplain_Str.S1 x_2695.Tag x_2696.Tag t_2697)], [], [.lt false], [.b false], [.b false], [.b false, .c (en_api_Tree x_2699)], [.b false], [.b false], [.b false], [.b false], [.b false, .c (en_api_Tree x_2700)], [.b false], [.b false], [.b false, .call [] (glazierplain_Str.R x_2699.Text x_2700.Text t_2701) (glazierplain_Str.S1 x_2699.Text x_2700.Text t_2701)], [.b false], [], [.lt false], [.b false], [.b false], [.b false, .c (en_api_Tree x_2703)], [.b false], [.b false], [.b false], [.b false], [.b false, .c (en_api_Tree x_2704)], [.b false], [.b false], [.b false, .call [] (glazierplain_Attrs.R x_2703.Attrs x_2704.Attrs t_2705) (glazierplain_Attrs.S1 x_2703.Attrs x_2704.Attrs t_2705)], [.b false], [], [.lt true], [.b true], [.b true], [.b true], [.b true], [.b true], [.b true], [.b true], [.b true], [.b true], [.b true], [.b true], [.b true], []] [.one (.p (.sl 6 (a_2674.map enR_api_Tree))), .one (.p (.int .i64 i_2676)), .one (.cptr [.str x_2695.Tag.Text, .sl 2 (x_2695.Tag.Runs.map en_api_Run), .sl 4 (x_2695.Attrs.map en_api_Attr), .sl 6 (x_2695.Kids.map enR_api_Tree), .str x_2695.Text.Text, .sl 2 (x_2695.Text.Runs.map en_api_Run)]), .one (.cptr [.str x_2695.Tag.Text, .sl 2 (x_2695.Tag.Runs.map en_api_Run), .sl 4 (x_2695.Attrs.map en_api_Attr), .sl 6 (x_2695.Kids.map enR_api_Tree), .str x_2695.Text.Text, .sl 2 (x_2695.Text.Runs.map en_api_Run)]), .agg [.p (.str x_2695.Tag.Text), .p (.sl 2 (x_2695.Tag.Runs.map en_api_Run))], .one (.p (.sl 6 (b_2675.map enR_api_Tree))), .one (.p (.int .i64 i_2676)), .one (.cptr [.str x_2696.Tag.Text, .sl 2 (x_2696.Tag.Runs.map en_api_Run), .sl 4 (x_2696.Attrs.map en_api_Attr), .sl 6 (x_2696.Kids.map enR_api_Tree), .str x_2696.Text.Text, .sl 2 (x_2696.Text.Runs.map en_api_Run)]), .one (.cptr [.str x_2696.Tag.Text, .sl 2 (x_2696.Tag.Runs.map en_api_Run), .sl 4 (x_2696.Attrs.map en_api_Attr), .sl 6 (x_2696.Kids.map enR_api_Tree), .str x_2696.Text.Text, .sl 2 (x_2696.Text.Runs.map en_api_Run)]), .agg [.p (.str x_2696.Tag.Text), .p (.sl 2 (x_2696.Tag.Runs.map en_api_Run))], .one (.p (.bool t_2697)), .one (.p (.bool (!t_2697))), .one (.p (.bool false)), .one (.p (.sl 6 (a_2674.map enR_api_Tree))), .one (.p (.int .i64 i_2676)), .one (.cptr [.str x_2699.Tag.Text, .sl 2 (x_2699.Tag.Runs.map en_api_Run), .sl 4 (x_2699.Attrs.map en_api_Attr), .sl 6 (x_2699.Kids.map enR_api_Tree), .str x_2699.Text.Text, .sl 2 (x_2699.Text.Runs.map en_api_Run)]), .one (.cptr [.str x_2699.Text.Text, .sl 2 (x_2699.Text.Runs.map en_api_Run)]), .agg [.p (.str x_2699.Text.Text), .p (.sl 2 (x_2699.Text.Runs.map en_api_Run))], .one (.p (.sl 6 (b_2675.map enR_api_Tree))), .one (.p (.int .i64 i_2676)), .one (.cptr [.str x_2700.Tag.Text, .sl 2 (x_2700.Tag.Runs.map en_api_Run), .sl 4 (x_2700.Attrs.map en_api_Attr), .sl 6 (x_2700.Kids.map enR_api_Tree), .str x_2700.Text.Text, .sl 2 (x_2700.Text.Runs.map en_api_Run)]), .one (.cptr [.str x_2700.Text.Text, .sl 2 (x_2700.Text.Runs.map en_api_Run)]), .agg [.p (.str x_2700.Text.Text), .p (.sl 2 (x_2700.Text.Runs.map en_api_Run))], .one (.p (.bool t_2701)), .one (.p (.bool (!t_2701))), .one (.p (.bool (!t_2701))), .one (.p (.bool false)), .one (.p (.sl 6 (a_2674.map enR_api_Tree))), .one (.p (.int .i64 i_2676)), .one (.cptr [.str x_2703.Tag.Text, .sl 2 (x_2703.Tag.Runs.map en_api_Run), .sl 4 (x_2703.Attrs.map en_api_Attr), .sl 6 (x_2703.Kids.map enR_api_Tree), .str x_2703.Text.Text, .sl 2 (x_2703.Text.Runs.map en_api_Run)]), .one (.cptr [.sl 4 (x_2703.Attrs.map en_api_Attr), .sl 6 (x_2703.Kids.map enR_api_Tree), .str x_2703.Text.Text, .sl 2 (x_2703.Text.Runs.map en_api_Run)]), .one (.p (.sl 4 (x_2703.Attrs.map en_api_Attr))), .one (.p (.sl 6 (b_2675.map enR_api_Tree))), .one (.p (.int .i64 i_2676)), .one (.cptr [.str x_2704.Tag.Text, .sl 2 (x_2704.Tag.Runs.map en_api_Run), .sl 4 (x_2704.Attrs.map en_api_Attr), .sl 6 (x_2704.Kids.map enR_api_Tree), .str x_2704.Text.Text, .sl 2 (x_2704.Text.Runs.map en_api_Run)]), .one (.cptr [.sl 4 (x_2704.Attrs.map en_api_Attr), .sl 6 (x_2704.Kids.map enR_api_Tree), .str x_2704.Text.Text, .sl 2 (x_2704.Text.Runs.map en_api_Run)]), .one (.p (.sl 4 (x_2704.Attrs.map en_api_Attr))), .one (.p (.bool t_2705)), .one (.p (.bool (!t_2705))), .one (.p (.bool (!t_2705))), .one (.p (.bool true)), .tup [], .tup [], .tup [], .tup [], .tup [], .tup [], .tup [], .tup [], .tup [], .tup [], .tup [], .tup [], .one (.p (.bool true))] [[], [], [], [], [], [], [], [], [], [], [], [], [], [], [], [], [], [], [], [], [], [], [], [], [], [], [], [], [], [], [], [], [], [], [], [], [], [], [], [], [], [], [], [], [], [], [], [], [], [], [], [], [], []], .b true, .i 4, .keep [4], .stop] (ai (len_ob enR_api_Tree a_2674) <| ai (decide_eq_true c_2694) <| ai (idx_obR enR_api_Tree en_api_Tree enR_api_Tree_eq hx_2695) <| ai (idx_obR enR_api_Tree en_api_Tree enR_api_Tree_eq hx_2696) <| ai (glazierplain_Str.ok k x_2695.Tag x_2696.Tag t_2697 ht_2697) <| ai (bool_false c_2698) <| ai rF <| ai rF <| ai rF <| ai (idx_obR enR_api_Tree en_api_Tree enR_api_Tree_eq hx_2699) <| ai rF <| ai rF <| ai rF <| ai rF <| ai rF <| ai (idx_obR enR_api_Tree en_api_Tree enR_api_Tree_eq hx_2700) <| ai rF <| ai rF <| ai rF <| ai (glazierplain_Str.ok k x_2699.Text x_2700.Text t_2701 ht_2701) <| ai rF <| ai (bool_false c_2702) <| ai rF <| ai rF <| ai rF <| ai (idx_obR enR_api_Tree en_api_Tree enR_api_Tree_eq hx_2703) <| ai rF <| ai rF <| ai rF <| ai rF <| ai rF <| ai (idx_obR enR_api_Tree en_api_Tree enR_api_Tree_eq hx_2704) <| ai rF <| ai rF <| ai rF <| ai (glazierplain_Attrs.ok k x_2703.Attrs x_2704.Attrs t_2705 ht_2705) <| ai rF <| ai c_2706 <| ai rT <| ai rT <| ai rT <| ai rT <| ai rT <| ai rT <| ai rT <| ai rT <| ai rT <| ai rT <| ai rT <| ai rT <| ai (drE glazierplain_Trees.b [1, 1, 0, 1, 0, 0, 1, 0, 0, 0] [.one (.p (.sl 6 (a_2674.map enR_api_Tree))), .one (.p (.int .i64 i_2676)), .one (.cptr [.str x_2695.Tag.Text, .sl 2 (x_2695.Tag.Runs.map en_api_Run), .sl 4 (x_2695.Attrs.map en_api_Attr), .sl 6 (x_2695.Kids.map enR_api_Tree), .str x_2695.Text.Text, .sl 2 (x_2695.Text.Runs.map en_api_Run)]), .one (.cptr [.str x_2695.Tag.Text, .sl 2 (x_2695.Tag.Runs.map en_api_Run), .sl 4 (x_2695.Attrs.map en_api_Attr), .sl 6 (x_2695.Kids.map enR_api_Tree), .str x_2695.Text.Text, .sl 2 (x_2695.Text.Runs.map en_api_Run)]), .agg [.p (.str x_2695.Tag.Text), .p (.sl 2 (x_2695.Tag.Runs.map en_api_Run))], .one (.p (.sl 6 (b_2675.map enR_api_Tree))), .one (.p (.int .i64 i_2676)), .one (.cptr [.str x_2696.Tag.Text, .sl 2 (x_2696.Tag.Runs.map en_api_Run), .sl 4 (x_2696.Attrs.map en_api_Attr), .sl 6 (x_2696.Kids.map enR_api_Tree), .str x_2696.Text.Text, .sl 2 (x_2696.Text.Runs.map en_api_Run)]), .one (.cptr [.str x_2696.Tag.Text, .sl 2 (x_2696.Tag.Runs.map en_api_Run), .sl 4 (x_2696.Attrs.map en_api_Attr), .sl 6 (x_2696.Kids.map enR_api_Tree), .str x_2696.Text.Text, .sl 2 (x_2696.Text.Runs.map en_api_Run)]), .agg [.p (.str x_2696.Tag.Text), .p (.sl 2 (x_2696.Tag.Runs.map en_api_Run))], .one (.p (.bool t_2697)), .one (.p (.bool (!t_2697))), .one (.p (.bool false)), .one (.p (.sl 6 (a_2674.map enR_api_Tree))), .one (.p (.int .i64 i_2676)), .one (.cptr [.str x_2699.Tag.Text, .sl 2 (x_2699.Tag.Runs.map en_api_Run), .sl 4 (x_2699.Attrs.map en_api_Attr), .sl 6 (x_2699.Kids.map enR_api_Tree), .str x_2699.Text.Text, .sl 2 (x_2699.Text.Runs.map en_api_Run)]), .one (.cptr [.str x_2699.Text.Text, .sl 2 (x_2699.Text.Runs.map en_api_Run)]), .agg [.p (.str x_2699.Text.Text), .p (.sl 2 (x_2699.Text.Runs.map en_api_Run))], .one (.p (.sl 6 (b_2675.map enR_api_Tree))), .one (.p (.int .i64 i_2676)), .one (.cptr [.str x_2700.Tag.Text, .sl 2 (x_2700.Tag.Runs.map en_api_Run), .sl 4 (x_2700.Attrs.map en_api_Attr), .sl 6 (x_2700.Kids.map enR_api_Tree), .str x_2700.Text.Text, .sl 2 (x_2700.Text.Runs.map en_api_Run)]), .one (.cptr [.str x_2700.Text.Text, .sl 2 (x_2700.Text.Runs.map en_api_Run)]), .agg [.p (.str x_2700.Text.Text), .p (.sl 2 (x_2700.Text.Runs.map en_api_Run))], .one (.p (.bool t_2701)), .one (.p (.bool (!t_2701))), .one (.p (.bool (!t_2701))), .one (.p (.bool false)), .one (.p (.sl 6 (a_2674.map enR_api_Tree))), .one (.p (.int .i64 i_2676)), .one (.cptr [.str x_2703.Tag.Text, .sl 2 (x_2703.Tag.Runs.map en_api_Run), .sl 4 (x_2703.Attrs.map en_api_Attr), .sl 6 (x_2703.Kids.map enR_api_Tree), .str x_2703.Text.Text, .sl 2 (x_2703.Text.Runs.map en_api_Run)]), .one (.cptr [.sl 4 (x_2703.Attrs.map en_api_Attr), .sl 6 (x_2703.Kids.map enR_api_Tree), .str x_2703.Text.Text, .sl 2 (x_2703.Text.Runs.map en_api_Run)]), .one (.p (.sl 4 (x_2703.Attrs.map en_api_Attr))), .one (.p (.sl 6 (b_2675.map enR_api_Tree))), .one (.p (.int .i64 i_2676)), .one (.cptr [.str x_2704.Tag.Text, .sl 2 (x_2704.Tag.Runs.map en_api_Run), .sl 4 (x_2704.Attrs.map en_api_Attr), .sl 6 (x_2704.Kids.map enR_api_Tree), .str x_2704.Text.Text, .sl 2 (x_2704.Text.Runs.map en_api_Run)]), .one (.cptr [.sl 4 (x_2704.Attrs.map en_api_Attr), .sl 6 (x_2704.Kids.map enR_api_Tree), .str x_2704.Text.Text, .sl 2 (x_2704.Text.Runs.map en_api_Run)]), .one (.p (.sl 4 (x_2704.Attrs.map en_api_Attr))), .one (.p (.bool t_2705)), .one (.p (.bool (!t_2705))), .one (.p (.bool (!t_2705))), .one (.p (.bool true)), .tup [], .tup [], .tup [], .tup [], .tup [], .tup [], .tup [], .tup [], .tup [], .tup [], .tup [], .tup [], .one (.p (.bool true))] [[], [], [], [], [], [], [], [], [], [], [], [], [], [], [], [], [], [], [], [], [], [], [], [], [], [], [], [], [], [], [], [], [], [], [], [], [], [], [], [], [], [], [], [], [], [], [], [], [], [], [], [], [], []] ([] ++ List.replicate 0 .res)) <| ai rT <| ((c0 () rfl) (koAfter glazierplain_Trees.b [1, 1, 0, 1, 0, 0, 1, 0, 0, 1, 0, 1]))) (by kernel_rfl)
        · obtain ⟨x_2707, hx_2707, h⟩ := bind_some h
          obtain ⟨x_2708, hx_2708, h⟩ := bind_some h
          obtain ⟨t_2709, ht_2709, h⟩ := bind_some h
          refine pathE 460 [.n a_2674.length, .b true, .dr 0 [[], [], [.c (en_api_Tree x_2695)], [], [], [], [], [.c (en_api_Tree x_2696)], [], [], [.call [] (glazierplain_Str.R x_2695.Tag x_2696.Tag t_2697) (glazierplain_Str.S1 x_2695.Tag x_2696.Tag t_2697)], [], [.lt false], [.b false], [.b false], [.b false, .c (en_api_Tree x_2699)], [.b false], [.b false], [.b false], [.b false], [.b false, .c (en_api_Tree x_2700)], [.b false], [.b false], [.b false, .call [] (glazierplain_Str.R x_2699.Text x_2700.Text t_2701) (glazierplain_Str.S1 x_2699.Text x_2700.Text t_2701)], [.b false], [], [.lt false], [.b false], [.b false], [.b false, .c (en_api_Tree x_2703)], [.b false], [.b false], [.b false], [.b false], [.b false, .c (en_api_Tree x_2704)], [.b false], [.b false], [.b false, .call [] (glazierplain_Attrs.R x_2703.Attrs x_2704.Attrs t_2705) (glazierplain_Attrs.S1 x_2703.Attrs x_2704.Attrs t_2705)], [.b false], [], [.lt false], [.b false], [.b false], [.b false, .c (en_api_Tree x_2707)], [.b false], [.b false], [.b false], [.b false], [.b false, .c (en_api_Tree x_2708)], [.b false], [.b false], [.b false, .call [] (glazierplain_Trees.R x_2707.Kids x_2708.Kids t_2709) (glazierplain_Trees.S1 x_2707.Kids x_2708.Kids t_2709)], [.b false], []] [.one (.p (.sl 6 (a_2674.map enR_api_Tree))), .one (.p (.int .i64 i_2676)), .one (.cptr [.str x_2695.Tag.Text, .sl 2 (x_2695.Tag.Runs.map en_api_Run), .sl 4 (x_2695.Attrs.map en_api_Attr), .sl 6 (x_2695.Kids.map enR_api_Tree), .str x_2695.Text.Text, .sl 2 (x_2695.Text.Runs.map en_api_Run)]), .one (.cptr [.str x_2695.Tag.Text, .sl 2 (x_2695.Tag.Runs.map en_api_Run), .sl 4 (x_2695.Attrs.map en_api_Attr), .sl 6 (x_2695.Kids.map enR_api_Tree), .str x_2695.Text.Text, .sl 2 (x_2695.Text.Runs.map en_api_Run)]), .agg [.p (.str x_2695.Tag.Text), .p (.sl 2 (x_2695.Tag.Runs.map en_api_Run))], .one (.p (.sl 6 (b_2675.map enR_api_Tree))), .one (.p (.int .i64 i_2676)), .one (.cptr [.str x_2696.Tag.Text, .sl 2 (x_2696.Tag.Runs.map en_api_Run), .sl 4 (x_2696.Attrs.map en_api_Attr), .sl 6 (x_2696.Kids.map enR_api_Tree), .str x_2696.Text.Text, .sl 2 (x_2696.Text.Runs.map en_api_Run)]), .one (.cptr [.str x_2696.Tag.Text, .sl 2 (x_2696.Tag.Runs.map en_api_Run), .sl 4 (x_2696.Attrs.map en_api_Attr), .sl 6 (x_2696.Kids.map enR_api_Tree), .str x_2696.Text.Text, .sl 2 (x_2696.Text.Runs.map en_api_Run)]), .agg [.p (.str x_2696.Tag.Text), .p (.sl 2 (x_2696.Tag.Runs.map en_api_Run))], .one (.p (.bool t_2697)), .one (.p (.bool (!t_2697))), .one (.p (.bool false)), .one (.p (.sl 6 (a_2674.map enR_api_Tree))), .one (.p (.int .i64 i_2676)), .one (.cptr [.str x_2699.Tag.Text, .sl 2 (x_2699.Tag.Runs.map en_api_Run), .sl 4 (x_2699.Attrs.map en_api_Attr), .sl 6 (x_2699.Kids.map enR_api_Tree), .str x_2699.Text.Text, .sl 2 (x_2699.Text.Runs.map en_api_Run)]), .one (.cptr [.str x_2699.Text.Text, .sl 2 (x_2699.Text.Runs.map en_api_Run)]), .agg [.p (.str x_2699.Text.Text), .p (.sl 2 (x_2699.Text.Runs.map en_api_Run))], .one (.p (.sl 6 (b_2675.map enR_api_Tree))), .one (.p (.int .i64 i_2676)), .one (.cptr [.str x_2700.Tag.Text, .sl 2 (x_2700.Tag.Runs.map en_api_Run), .sl 4 (x_2700.Attrs.map en_api_Attr), .sl 6 (x_2700.Kids.map enR_api_Tree), .str x_2700.Text.Text, .sl 2 (x_2700.Text.Runs.map en_api_Run)]), .one (.cptr [.str x_2700.Text.Text, .sl 2 (x_2700.Text.Runs.map en_api_Run)]), .agg [.p (.str x_2700.Text.Text), .p (.sl 2 (x_2700.Text.Runs.map en_api_Run))], .one (.p (.bool t_2701)), .one (.p (.bool (!t_2701))), .one (.p (.bool (!t_2701))), .one (.p (.bool false)), .one (.p (.sl 6 (a_2674.map enR_api_Tree))), .one (.p (.int .i64 i_2676)), .one (.cptr [.str x_2703.Tag.Text, .sl 2 (x_2703.Tag.Runs.map en_api_Run), .sl 4 (x_2703.Attrs.map en_api_Attr), .sl 6 (x_2703.Kids.map enR_api_Tree), .str x_2703.Text.Text, .sl 2 (x_2703.Text.Runs.map en_api_Run)]), .one (.cptr [.sl 4 (x_2703.Attrs.map en_api_Attr), .sl 6 (x_2703.Kids.map enR_api_Tree), .str x_2703.Text.Text, .sl 2 (x_2703.Text.Runs.map en_api_Run)]), .one (.p (.sl 4 (x_2703.Attrs.map en_api_Attr))), .one (.p (.sl 6 (b_2675.map enR_api_Tree))), .one (.p (.int .i64 i_2676)), .one (.cptr [.str x_2704.Tag.Text, .sl 2 (x_2704.Tag.Runs.map en_api_Run), .sl 4 (x_2704.Attrs.map en_api_Attr), .sl 6 (x_2704.Kids.map enR_api_Tree), .str x_2704.Text.Text, .sl 2 (x_2704.Text.Runs.map en_api_Run)]), .one (.cptr [.sl 4 (x_2704.Attrs.map en_api_Attr), .sl 6 (x_2704.Kids.map enR_api_Tree), .str x_2704.Text.Text, .sl 2 (x_2704.Text.Runs.map en_api_Run)]), .one (.p (.sl 4 (x_2704.Attrs.map en_api_Attr))), .one (.p (.bool t_2705)), .one (.p (.bool (!t_2705))), .one (.p (.bool (!t_2705))), .one (.p (.bool false)), .one (.p (.sl 6 (a_2674.map enR_api_Tree))), .one (.p (.int .i64 i_2676)), .one (.cptr [.str x_2707.Tag.Text, .sl 2 (x_2707.Tag.Runs.map en_api_Run), .sl 4 (x_2707.Attrs.map en_api_Attr), .sl 6 (x_2707.Kids.map enR_api_Tree), .str x_2707.Text.Text, .sl 2 (x_2707.Text.Runs.map en_api_Run)]), .one (.cptr [.sl 6 (x_2707.Kids.map enR_api_Tree), .str x_2707.Text.Text, .sl 2 (x_2707.Text.Runs.map en_api_Run)]), .one (.p (.sl 6 (x_2707.Kids.map enR_api_Tree))), .one (.p (.sl 6 (b_2675.map enR_api_Tree))), .one (.p (.int .i64 i_2676)), .one (.cptr [.str x_2708.Tag.Text, .sl 2 (x_2708.Tag.Runs.map en_api_Run), .sl 4 (x_2708.Attrs.map en_api_Attr), .sl 6 (x_2708.Kids.map enR_api_Tree), .str x_2708.Text.Text, .sl 2 (x_2708.Text.Runs.map en_api_Run)]), .one (.cptr [.sl 6 (x_2708.Kids.map enR_api_Tree), .str x_2708.Text.Text, .sl 2 (x_2708.Text.Runs.map en_api_Run)]), .one (.p (.sl 6 (x_2708.Kids.map enR_api_Tree))), .one (.p (.bool t_2709)), .one (.p (.bool (!t_2709))), .one (.p (.bool (!t_2709)))] [[], [], [], [], [], [], [], [], [], [], [], [], [], [], [], [], [], [], [], [], [], [], [], [], [], [], [], [], [], [], [], [], [], [], [], [], [], [], [], [], [], [], [], [], [], [], [], [], [], [], [], [], [], []], .keep [0, 1, 5, 70], .stop] (ai (len_ob enR_api_Tree a_2674) <| ai (decide_eq_true c_2694) <| ai (idx_obR enR_api_Tree en_api_Tree enR_api_Tree_eq hx_2695) <| ai (idx_obR enR_api_Tree en_api_Tree enR_api_Tree_eq hx_2696) <| ai (glazierplain_Str.ok k x_2695.Tag x_2696.Tag t_2697 ht_2697) <| ai (bool_false c_2698) <| ai rF <| ai rF <| ai rF <| ai (idx_obR enR_api_Tree en_api_Tree enR_api_Tree_eq hx_2699) <| ai rF <| ai rF <| ai rF <| ai rF <| ai rF <| ai (idx_obR enR_api_Tree en_api_Tree enR_api_Tree_eq hx_2700) <| ai rF <| ai rF <| ai rF <| ai (glazierplain_Str.ok k x_2699.Text x_2700.Text t_2701 ht_2701) <| ai rF <| ai (bool_false c_2702) <| ai rF <| ai rF <| ai rF <| ai (idx_obR enR_api_Tree en_api_Tree enR_api_Tree_eq hx_2703) <| ai rF <| ai rF <| ai rF <| ai rF <| ai rF <| ai (idx_obR enR_api_Tree en_api_Tree enR_api_Tree_eq hx_2704) <| ai rF <| ai rF <| ai rF <| ai (glazierplain_Attrs.ok k x_2703.Attrs x_2704.Attrs t_2705 ht_2705) <| ai rF <| ai (bool_false c_2706) <| ai rF <| ai rF <| ai rF <| ai (idx_obR enR_api_Tree en_api_Tree enR_api_Tree_eq hx_2707) <| ai rF <| ai rF <| ai rF <| ai rF <| ai rF <| ai (idx_obR enR_api_Tree en_api_Tree enR_api_Tree_eq hx_2708) <| ai rF <| ai rF <| ai rF <| ai (ih_glazierplain_Trees x_2707.Kids x_2708.Kids t_2709 ht_2709) <| ai rF <| ai (drE glazierplain_Trees.b [1, 1, 0, 1, 0, 0, 1, 0, 0, 0] [.one (.p (.sl 6 (a_2674.map enR_api_Tree))), .one (.p (.int .i64 i_2676)), .one (.cptr [.str x_2695.Tag.Text, .sl 2 (x_2695.Tag.Runs.map en_api_Run), .sl 4 (x_2695.Attrs.map en_api_Attr), .sl 6 (x_2695.Kids.map enR_api_Tree), .str x_2695.Text.Text, .sl 2 (x_2695.Text.Runs.map en_api_Run)]), .one (.cptr [.str x_2695.Tag.Text, .sl 2 (x_2695.Tag.Runs.map en_api_Run), .sl 4 (x_2695.Attrs.map en_api_Attr), .sl 6 (x_2695.Kids.map enR_api_Tree), .str x_2695.Text.Text, .sl 2 (x_2695.Text.Runs.map en_api_Run)]), .agg [.p (.str x_2695.Tag.Text), .p (.sl 2 (x_2695.Tag.Runs.map en_api_Run))], .one (.p (.sl 6 (b_2675.map enR_api_Tree))), .one (.p (.int .i64 i_2676)), .one (.cptr [.str x_2696.Tag.Text, .sl 2 (x_2696.Tag.Runs.map en_api_Run), .sl 4 (x_2696.Attrs.map en_api_Attr), .sl 6 (x_2696.Kids.map enR_api_Tree), .str x_2696.Text.Text, .sl 2 (x_2696.Text.Runs.map en_api_Run)]), .one (.cptr [.str x_2696.Tag.Text, .sl 2 (x_2696.Tag.Runs.map en_api_Run), .sl 4 (x_2696.Attrs.map en_api_Attr), .sl 6 (x_2696.Kids.map enR_api_Tree), .str x_2696.Text.Text, .sl 2 (x_2696.Text.Runs.map en_api_Run)]), .agg [.p (.str x_2696.Tag.Text), .p (.sl 2 (x_2696.Tag.Runs.map en_api_Run))], .one (.p (.bool t_2697)), .one (.p (.bool (!t_2697))), .one (.p (.bool false)), .one (.p (.sl 6 (a_2674.map enR_api_Tree))), .one (.p (.int .i64 i_2676)), .one (.cptr [.str x_2699.Tag.Text, .sl 2 (x_2699.Tag.Runs.map en_api_Run), .sl 4 (x_2699.Attrs.map en_api_Attr), .sl 6 (x_2699.Kids.map enR_api_Tree), .str x_2699.Text.Text, .sl 2 (x_2699.Text.Runs.map en_api_Run)]), .one (.cptr [.str x_2699.Text.Text, .sl 2 (x_2699.Text.Runs.map en_api_Run)]), .agg [.p (.str x_2699.Text.Text), .p (.sl 2 (x_2699.Text.Runs.map en_api_Run))], .one (.p (.sl 6 (b_2675.map enR_api_Tree))), .one (.p (.int .i64 i_2676)), .one (.cptr [.str x_2700.Tag.Text, .sl 2 (x_2700.Tag.Runs.map en_api_Run), .sl 4 (x_2700.Attrs.map en_api_Attr), .sl 6 (x_2700.Kids.map enR_api_Tree), .str x_2700.Text.Text, .sl 2 (x_2700.Text.Runs.map en_api_Run)]), .one (.cptr [.str x_2700.Text.Text, .sl 2 (x_2700.Text.Runs.map en_api_Run)]), .agg [.p (.str x_2700.Text.Text), .p (.sl 2 (x_2700.Text.Runs.map en_api_Run))], .one (.p (.bool t_2701)), .one (.p (.bool (!t_2701))), .one (.p (.bool (!t_2701))), .one (.p (.bool false)), .one (.p (.sl 6 (a_2674.map enR_api_Tree))), .one (.p (.int .i64 i_2676)), .one (.cptr [.str x_2703.Tag.Text, .sl 2 (x_2703.Tag.Runs.map en_api_Run), .sl 4 (x_2703.Attrs.map en_api_Attr), .sl 6 (x_2703.Kids.map enR_api_Tree), .str x_2703.Text.Text, .sl 2 (x_2703.Text.Runs.map en_api_Run)]), .one (.cptr [.sl 4 (x_2703.Attrs.map en_api_Attr), .sl 6 (x_2703.Kids.map enR_api_Tree), .str x_2703.Text.Text, .sl 2 (x_2703.Text.Runs.map en_api_Run)]), .one (.p (.sl 4 (x_2703.Attrs.map en_api_Attr))), .one (.p (.sl 6 (b_2675.map enR_api_Tree))), .one (.p (.int .i64 i_2676)), .one (.cptr [.str x_2704.Tag.Text, .sl 2 (x_2704.Tag.Runs.map en_api_Run), .sl 4 (x_2704.Attrs.map en_api_Attr), .sl 6 (x_2704.Kids.map enR_api_Tree), .str x_2704.Text.Text, .sl 2 (x_2704.Text.Runs.map en_api_Run)]), .one (.cptr [.sl 4 (x_2704.Attrs.map en_api_Attr), .sl 6 (x_2704.Kids.map enR_api_Tree), .str x_2704.Text.Text, .sl 2 (x_2704.Text.Runs.map en_api_Run)]), .one (.p (.sl 4 (x_2704.Attrs.map en_api_Attr))), .one (.p (.bool t_2705)), .one (.p (.bool (!t_2705))), .one (.p (.bool (!t_2705))), .one (.p (.bool false)), .one (.p (.sl 6 (a_2674.map enR_api_Tree))), .one (.p (.int .i64 i_2676)), .one (.cptr [.str x_2707.Tag.Text, .sl 2 (x_2707.Tag.Runs.map en_api_Run), .sl 4 (x_2707.Attrs.map en_api_Attr), .sl 6 (x_2707.Kids.map enR_api_Tree), .str x_2707.Text.Text, .sl 2 (x_2707.Text.Runs.map en_api_Run)]), .one (.cptr [.sl 6 (x_2707.Kids.map enR_api_Tree), .str x_2707.Text.Text, .sl 2 (x_2707.Text.Runs.map en_api_Run)]), .one (.p (.sl 6 (x_2707.Kids.map enR_api_Tree))), .one (.p (.sl 6 (b_2675.map enR_api_Tree))), .one (.p (.int .i64 i_2676)), .one (.cptr [.str x_2708.Tag.Text, .sl 2 (x_2708.Tag.Runs.map en_api_Run), .sl 4 (x_2708.Attrs.map en_api_Attr), .sl 6 (x_2708.Kids.map enR_api_Tree), .str x_2708.Text.Text, .sl 2 (x_2708.Text.Runs.map en_api_Run)]), .one (.cptr [.sl 6 (x_2708.Kids.map enR_api_Tree), .str x_2708.Text.Text, .sl 2 (x_2708.Text.Runs.map en_api_Run)]), .one (.p (.sl 6 (x_2708.Kids.map enR_api_Tree))), .one (.p (.bool t_2709)), .one (.p (.bool (!t_2709))), .one (.p (.bool (!t_2709)))] [[], [], [], [], [], [], [], [], [], [], [], [], [], [], [], [], [], [], [], [], [], [], [], [], [], [], [], [], [], [], [], [], [], [], [], [], [], [], [], [], [], [], [], [], [], [], [], [], [], [], [], [], [], []] ([] ++ List.replicate 0 .res)) <| (?_ : RunE Try.prog ⟨0, glazierplain_Trees.rs, res, st⟩ (koOf glazierplain_Trees.b .done [1, 1, 0, 1, 0, 0, 1, 0, 0, 1]) [(0, .one (.p (.sl 6 (a_2674.map enR_api_Tree)))), (1, .one (.p (.sl 6 (b_2675.map enR_api_Tree)))), (5, .one (.p (.int .i64 i_2676))), (70, .one (.p (.bool (!t_2709))))] [])) (by kernel_rfl)
          rcases ite_some h with ⟨c_2710, h⟩ | ⟨c_2710, h⟩
          · obtain rfl := Option.some.inj h
            exact pathE 448 [.b true, .i 4, .keep [4], .stop] (ai c_2710 <| ((c0 () rfl) (koAfter glazierplain_Trees.b [1, 1, 0, 1, 0, 0, 1, 0, 0, 1, 0, 1]))) (by kernel_rfl)
          · exact pathE 448 [.b false, .i 7, .keep [0, 1, 5], .stop] (ai (bool_false c_2710) <| (ih a_2674 b_2675 (w64 (i_2676 + 1)) _ h res st c0 c1)) (by kernel_rfl)
  · obtain rfl := Option.some.inj h
    exact pathE 460 [.n a_2674.length, .b false, .i 1, .keep [], .stop] (ai (len_ob enR_api_Tree a_2674) <| ai (decide_eq_false c_2694) <| (c1 () rfl)) (by kernel_rfl)
theorem glazierplain_Trees.step (k : Nat) (ih_glazierplain_Trees_l1 : glazierplain_Trees_l1.S k) (ih_glazierplain_Trees : glazierplain_Trees.S k) : glazierplain_Trees.S (k + 1) := by
  intro a_2261 b_2262 r h
  refine okE Try.func38 m38 rfl rfl rfl ?_
  generalize hr : (glazierplain_Trees.R a_2261 b_2262 r, glazierplain_Trees.S1 a_2261 b_2262 r) = q
  obtain ⟨res, st⟩ := q
  rw [show glazierplain_Trees.R a_2261 b_2262 r = res from congrArg Prod.fst hr, show glazierplain_Trees.S1 a_2261 b_2262 r = st from congrArg Prod.snd hr]
  rw [glazierplain_Trees.f] at h
  rcases ite_some h with ⟨c_2654, h⟩ | ⟨c_2654, h⟩
  · obtain rfl := Option.some.inj h
    exact pathE 460 [.n a_2261.length, .n b_2262.length, .b true, .i 4, .fin []] (ai (len_ob enR_api_Tree a_2261) <| ai (len_ob enR_api_Tree b_2262) <| ai (bne_iff_ne.2 c_2654) <| hr) (by kernel_rfl)
  · obtain ⟨v_2711, hv_2711, h⟩ := bind_some h
    refine pathE 472 [.n a_2261.length, .n b_2262.length, .b false, .i 8, .keep [0, 1, 5], .stop] (ai (len_ob enR_api_Tree a_2261) <| ai (len_ob enR_api_Tree b_2262) <| ai (bne_false c_2654) <| (ih_glazierplain_Trees_l1 a_2261 b_2262 0 v_2711 hv_2711 res st ?_ ?_)) (by kernel_rfl)
    · intro x_2712 hx
      subst hx
      replace h := sum_l h
      intro k
      obtain rfl := Option.some.inj h
      exact pathE 412 [.fin []] (hr) (by kernel_rfl)
    · intro x_2713 hx
      subst hx
      replace h := sum_r h
      obtain rfl := Option.some.inj h
      exact pathE 424 [.i 4, .fin []] (hr) (by kernel_rfl)
theorem glazierplain_Trees.all : ∀ k, glazierplain_Trees_l1.S k ∧ glazierplain_Trees.S k
  | 0 => ⟨glazierplain_Trees_l1.z, glazierplain_Trees.z⟩
  | k + 1 => by
    obtain ⟨a0, a1⟩ := glazierplain_Trees.all k
    exact ⟨glazierplain_Trees_l1.step k a0 a1, glazierplain_Trees.step k a0 a1⟩
theorem glazierplain_Trees_l1.ok (k : Nat) : glazierplain_Trees_l1.S k := (glazierplain_Trees.all k).1
theorem glazierplain_Trees.ok (k : Nat) : glazierplain_Trees.S k := (glazierplain_Trees.all k).2
-- 24 glazier/glazierplain.Ints
def d24 : FnDef := ⟨26, [.tmp 4],
  (.seq
  (.ops [
    ⟨some 4, .mv (.c (.one (.p (.bool false)))), none⟩] [0, 1])
  (.seq
  (.seq
  (.ops [
    ⟨some 6, .mv (.t 0), none⟩,
    ⟨some 7, .len false (.t 6), none⟩,
    ⟨some 8, .mv (.t 1), none⟩,
    ⟨some 9, .len false (.t 8), none⟩,
    ⟨some 10, .bin 0 .neq (.t 7) (.t 9), none⟩] [0, 1, 10])
  (.cond (.t 10)
    (.seq
    (.ops [
      ⟨some 4, .mv (.c (.one (.p (.bool false)))), none⟩] [4])
    .ret)
    .skip))
  (.seq
  (.seq
  (.ops [
    ⟨some 5, .mv (.c (.one (.p (.int .i64 0)))), none⟩] [0, 1, 5])
  (.block 0
    (.loop
      (.seq
      (.seq
      (.ops [
        ⟨some 11, .mv (.t 5), none⟩,
        ⟨some 12, .mv (.t 0), none⟩,
        ⟨some 13, .len false (.t 12), none⟩,
        ⟨some 14, .bin 0 .lss (.t 11) (.t 13), none⟩] [0, 1, 5, 14])
      (.cond (.t 14)
        .skip
        (.exit 0)))
      (.seq
      (.block 1
        (.seq
        (.drawn [
          ⟨⟨some 17, .mv (.t 0), none⟩, [], false⟩,
          ⟨⟨some 18, .mv (.t 5), none⟩, [], false⟩,
          ⟨⟨some 19, .iaddr 1 (.t 17) (.t 18), none⟩, [0, 1], false⟩,
          ⟨⟨some 20, .load 1 false (.t 19), none⟩, [0, 1, 2], false⟩,
          ⟨⟨some 21, .mv (.t 1), none⟩, [], false⟩,
          ⟨⟨some 22, .mv (.t 5), none⟩, [], false⟩,
          ⟨⟨some 23, .iaddr 1 (.t 21) (.t 22), none⟩, [4, 5], false⟩,
          ⟨⟨some 24, .load 1 false (.t 23), none⟩, [4, 5, 6], false⟩,
          ⟨⟨some 25, .bin 0 .neq (.t 20) (.t 24), none⟩, [0, 1, 2, 3, 4, 5, 6, 7], false⟩] [[]] [0, 1, 5, 25])
        (.cond (.t 25)
          (.seq
          (.ops [
            ⟨some 4, .mv (.c (.one (.p (.bool false)))), none⟩] [4])
          .ret)
          .skip)))
      (.ops [
        ⟨some 15, .mv (.t 5), none⟩,
        ⟨some 16, .bin 0 .add (.t 15) (.c (.one (.p (.int .i64 1)))), none⟩,
        ⟨some 5, .mv (.t 16), none⟩] [0, 1, 5]))))))
  (.seq
  (.ops [
    ⟨some 4, .mv (.c (.one (.p (.bool true)))), none⟩] [4])
  .ret))))⟩
theorem m24 : mFn Try.prog d24 Try.f24 = true := by kernel_rfl
def glazierplain_Ints.A (a_2717 : (List Int)) (b_2718 : (List Int)) : List Vv := [.one (.p (.sl 1 (a_2717.map en_i64))), .one (.p (.sl 1 (b_2718.map en_i64)))]
def glazierplain_Ints.S0 (a_2717 : (List Int)) (b_2718 : (List Int)) : Sto := []
def glazierplain_Ints.R (a_2717 : (List Int)) (b_2718 : (List Int)) (r_0 : Bool) : Vv := .one (.p (.bool r_0))
def glazierplain_Ints.S1 (a_2717 : (List Int)) (b_2718 : (List Int)) (r_0 : Bool) : Sto := []
def glazierplain_Ints.rs : List Rv := d24.res
def glazierplain_Ints.b : Sx := d24.body
def glazierplain_Ints_l1 : Nat → (List Int) → (List Int) → Int → Option ((Unit) ⊕ (Unit))
  | 0, _, _, _ => none
  | k + 1, a_2760, b_2761, i_2762 => (if i_2762 < (a_2760.length : Int) then ((idx a_2760 i_2762).bind fun x_2768 => ((idx b_2761 i_2762).bind fun x_2769 => (if x_2768 ≠ x_2769 then (some (.inl ())) else (glazierplain_Ints_l1 k a_2760 b_2761 (w64 (i_2762 + 1)))))) else (some (.inr ())))
def glazierplain_Ints_l1.S (k : Nat) : Prop := ∀ (a_2760 : (List Int)) (b_2761 : (List Int)) (i_2762 : Int) (v : (Unit) ⊕ (Unit)), glazierplain_Ints_l1 k a_2760 b_2761 i_2762 = some v → ∀ (res : Vv) (st : Sto), (∀ x_0, v = (.inl x_0) → ∀ k, RunE Try.prog ⟨0, glazierplain_Ints.rs, res, st⟩ (.st .ret k) [(4, .one (.p (.bool false)))] []) → (∀ x_0, v = (.inr x_0) → RunE Try.prog ⟨0, glazierplain_Ints.rs, res, st⟩ (koAfter glazierplain_Ints.b [1, 1, 0, 1]) [] []) → RunE Try.prog ⟨0, glazierplain_Ints.rs, res, st⟩ (koLoop glazierplain_Ints.b [1, 1, 0, 1, 0]) [(0, .one (.p (.sl 1 (a_2760.map en_i64)))), (1, .one (.p (.sl 1 (b_2761.map en_i64)))), (5, .one (.p (.int .i64 i_2762)))] []
theorem glazierplain_Ints_l1.z : glazierplain_Ints_l1.S 0 := fun _ _ _ v h => none_some h
theorem glazierplain_Ints_l1.step (k : Nat) (ih : glazierplain_Ints_l1.S k) : glazierplain_Ints_l1.S (k + 1) := by
  intro a_2760 b_2761 i_2762 v h res st c0 c1
  rw [glazierplain_Ints_l1] at h
  rcases ite_some h with ⟨c_2767, h⟩ | ⟨c_2767, h⟩
  · obtain ⟨x_2768, hx_2768, h⟩ := bind_some h
    obtain ⟨x_2769, hx_2769, h⟩ := bind_some h
    refine pathE 460 [.n a_2760.length, .b true, .dr 0 [[], [], [.c (en_i64 x_2768)], [], [], [], [.c (en_i64 x_2769)], [], []] [.one (.p (.sl 1 (a_2760.map en_i64))), .one (.p (.int .i64 i_2762)), .one (.cptr [.int .i64 x_2768]), .one (.p (.int .i64 x_2768)), .one (.p (.sl 1 (b_2761.map en_i64))), .one (.p (.int .i64 i_2762)), .one (.cptr [.int .i64 x_2769]), .one (.p (.int .i64 x_2769)), .one (.p (.bool (x_2768 != x_2769)))] [[], [], [], [], [], [], [], [], []], .keep [0, 1, 5, 25], .stop] (ai (len_ob en_i64 a_2760) <| ai (decide_eq_true c_2767) <| ai (idx_ob en_i64 hx_2768) <| ai (idx_ob en_i64 hx_2769) <| ai (drE glazierplain_Ints.b [1, 1, 0, 1, 0, 0, 1, 0, 0, 0] [.one (.p (.sl 1 (a_2760.map en_i64))), .one (.p (.int .i64 i_2762)), .one (.cptr [.int .i64 x_2768]), .one (.p (.int .i64 x_2768)), .one (.p (.sl 1 (b_2761.map en_i64))), .one (.p (.int .i64 i_2762)), .one (.cptr [.int .i64 x_2769]), .one (.p (.int .i64 x_2769)), .one (.p (.bool (x_2768 != x_2769)))] [[], [], [], [], [], [], [], [], []] ([] ++ List.replicate 0 .res)) <| (?_ : RunE Try.prog ⟨0, glazierplain_Ints.rs, res, st⟩ (koOf glazierplain_Ints.b .done [1, 1, 0, 1, 0, 0, 1, 0, 0, 1]) [(0, .one (.p (.sl 1 (a_2760.map en_i64)))), (1, .one (.p (.sl 1 (b_2761.map en_i64)))), (5, .one (.p (.int .i64 i_2762))), (25, .one (.p (.bool (x_2768 != x_2769))))] [])) (by kernel_rfl)
    rcases ite_some h with ⟨c_2770, h⟩ | ⟨c_2770, h⟩
    · obtain rfl := Option.some.inj h
      exact pathE 448 [.b true, .i 4, .keep [4], .stop] (ai (bne_iff_ne.2 c_2770) <| ((c0 () rfl) (koAfter glazierplain_Ints.b [1, 1, 0, 1, 0, 0, 1, 0, 0, 1, 0, 1]))) (by kernel_rfl)
    · exact pathE 448 [.b false, .i 7, .keep [0, 1, 5], .stop] (ai (bne_false c_2770) <| (ih a_2760 b_2761 (w64 (i_2762 + 1)) _ h res st c0 c1)) (by kernel_rfl)
  · obtain rfl := Option.some.inj h
    exact pathE 460 [.n a_2760.length, .b false, .i 1, .keep [], .stop] (ai (len_ob en_i64 a_2760) <| ai (decide_eq_false c_2767) <| (c1 () rfl)) (by kernel_rfl)
theorem glazierplain_Ints_l1.ok : ∀ k, glazierplain_Ints_l1.S k
  | 0 => glazierplain_Ints_l1.z
  | k + 1 => glazierplain_Ints_l1.step k (glazierplain_Ints_l1.ok k)
def glazierplain_Ints.f (k : Nat) (a_2717 : (List Int)) (b_2718 : (List Int)) : Option (Bool) := (if (a_2717.length : Int) ≠ (b_2718.length : Int) then (some false) else (Option.bind (glazierplain_Ints_l1 k a_2717 b_2718 0) (Sum.elim (fun x_2772 => (some false)) (fun x_2773 => (some true)))))
theorem glazierplain_Ints.run (k : Nat) (a_2717 : (List Int)) (b_2718 : (List Int)) (r : Bool) (h : glazierplain_Ints.f k a_2717 b_2718 = some r) (res : Vv) (st : Sto) (hr : (glazierplain_Ints.R a_2717 b_2718 r, glazierplain_Ints.S1 a_2717 b_2718 r) = (res, st)) : RunE Try.prog ⟨0, glazierplain_Ints.rs, res, st⟩ (.st glazierplain_Ints.b .done) (argE 0 (glazierplain_Ints.A a_2717 b_2718)) (glazierplain_Ints.S0 a_2717 b_2718) := by
  unfold glazierplain_Ints.f at h
  rcases ite_some h with ⟨c_2753, h⟩ | ⟨c_2753, h⟩
  · obtain rfl := Option.some.inj h
    exact pathE 460 [.n a_2717.length, .n b_2718.length, .b true, .i 4, .fin []] (ai (len_ob en_i64 a_2717) <| ai (len_ob en_i64 b_2718) <| ai (bne_iff_ne.2 c_2753) <| hr) (by kernel_rfl)
  · obtain ⟨v_2771, hv_2771, h⟩ := bind_some h
    refine pathE 472 [.n a_2717.length, .n b_2718.length, .b false, .i 8, .keep [0, 1, 5], .stop] (ai (len_ob en_i64 a_2717) <| ai (len_ob en_i64 b_2718) <| ai (bne_false c_2753) <| (glazierplain_Ints_l1.ok k a_2717 b_2718 0 v_2771 hv_2771 res st ?_ ?_)) (by kernel_rfl)
    · intro x_2772 hx
      subst hx
      replace h := sum_l h
      intro k
      obtain rfl := Option.some.inj h
      exact pathE 412 [.fin []] (hr) (by kernel_rfl)
    · intro x_2773 hx
      subst hx
      replace h := sum_r h
      obtain rfl := Option.some.inj h
      exact pathE 424 [.i 4, .fin []] (hr) (by kernel_rfl)
theorem glazierplain_Ints.ok (k : Nat) (a_2717 : (List Int)) (b_2718 : (List Int)) (r : Bool) (h : glazierplain_Ints.f k a_2717 b_2718 = some r) : OkS Try.prog 24 (glazierplain_Ints.A a_2717 b_2718) (glazierplain_Ints.S0 a_2717 b_2718) (glazierplain_Ints.R a_2717 b_2718 r) (glazierplain_Ints.S1 a_2717 b_2718 r) := okE Try.func24 m24 rfl rfl rfl (glazierplain_Ints.run k a_2717 b_2718 r h _ _ rfl)
-- 109 glazier/shot.Mount$1
def d109 : FnDef := ⟨22, [.tmp 4],
  (.seq
  (.ops [
    ⟨some 4, .mv (.c (.one (.p (.bool false)))), none⟩] [0, 1, 2])
  (.seq
  (.ops [
    ⟨some 8, .load 1 false (.t 1), none⟩,
    ⟨some 9, .mv (.t 0), none⟩,
    ⟨some 10, .call 34 [(.t 8), (.t 9)], none⟩,
    ⟨some 7, .mv (.t 10), none⟩,
    ⟨some 11, .ext (.t 7) 0, none⟩,
    ⟨some 12, .ext (.t 7) 1, none⟩,
    ⟨some 5, .alloc [.p (.int .i64 0), .p (.int .i64 0), .p (.int .i64 0), .p (.int .i64 0), .p (.str []), .nil 2, .p (.str []), .p (.int .i64 0), .nil 4, .nil 3, .nil 1, .p (.str []), .nil 2], none⟩,
    ⟨none, .store 13 (.t 5) (.t 11), none⟩,
    ⟨some 6, .mv (.t 12), none⟩] [2, 5])
  (.seq
  (.ops [
    ⟨some 13, .faddr 3 (.t 5), none⟩,
    ⟨some 14, .load 1 false (.t 13), none⟩,
    ⟨some 15, .bin 0 .eql (.t 14) (.c (.one (.p (.int .i64 3)))), none⟩,
    ⟨some 16, .mv (.t 15), none⟩,
    ⟨some 17, .faddr 7 (.t 5), some (16, true)⟩,
    ⟨some 18, .load 1 false (.t 17), some (16, true)⟩,
    ⟨some 19, .load 1 false (.t 2), some (16, true)⟩,
    ⟨some 20, .bin 0 .eql (.t 18) (.t 19), some (16, true)⟩,
    ⟨some 21, .pick (.t 16) (.t 20) (.c (.one (.p (.bool false)))), none⟩,
    ⟨some 4, .mv (.t 21), none⟩] [4])
  .ret)))⟩
theorem m109 : mFn Try.prog d109 Try.f109 = true := by kernel_rfl
def shot_Mount_1.A (id_2816 : Int) (o1_2817 : Int) (o2_2818 : Int) (o2_2819 : Int) (o2_2820 : Int) (o2_2821 : Int) (o2_2822 : Int) (o2_2823 : Int) (o2_2824 : Int) (o2_2825 : Int) (o3_2826 : (List (Int × arena_Node))) : List Vv := [.one (.p (.int .i64 id_2816)), .one (.ptr 0 0), .one (.ptr 1 0)]
def shot_Mount_1.S0 (id_2816 : Int) (o1_2817 : Int) (o2_2818 : Int) (o2_2819 : Int) (o2_2820 : Int) (o2_2821 : Int) (o2_2822 : Int) (o2_2823 : Int) (o2_2824 : Int) (o2_2825 : Int) (o3_2826 : (List (Int × arena_Node))) : Sto := [.box [.ptr 2 0], .box [.p (.int .i64 o1_2817)], .box [.mp 3, .p (.int .i64 o2_2818), .p (.int .i64 o2_2819), .p (.int .i64 o2_2820), .p (.int .i64 o2_2821), .p (.int .i64 o2_2822), .p (.int .i64 o2_2823), .p (.int .i64 o2_2824), .p (.int .i64 o2_2825)], .map (enE en_arena_Node o3_2826)]
def shot_Mount_1.R (id_2816 : Int) (o1_2817 : Int) (o2_2818 : Int) (o2_2819 : Int) (o2_2820 : Int) (o2_2821 : Int) (o2_2822 : Int) (o2_2823 : Int) (o2_2824 : Int) (o2_2825 : Int) (o3_2826 : (List (Int × arena_Node))) (r_0 : Bool) : Vv := .one (.p (.bool r_0))
def shot_Mount_1.S1 (id_2816 : Int) (o1_2817 : Int) (o2_2818 : Int) (o2_2819 : Int) (o2_2820 : Int) (o2_2821 : Int) (o2_2822 : Int) (o2_2823 : Int) (o2_2824 : Int) (o2_2825 : Int) (o3_2826 : (List (Int × arena_Node))) (r_0 : Bool) : Sto := [.box [.ptr 2 0], .box [.p (.int .i64 o1_2817)], .box [.mp 3, .p (.int .i64 o2_2818), .p (.int .i64 o2_2819), .p (.int .i64 o2_2820), .p (.int .i64 o2_2821), .p (.int .i64 o2_2822), .p (.int .i64 o2_2823), .p (.int .i64 o2_2824), .p (.int .i64 o2_2825)], .map (enE en_arena_Node o3_2826)]
def shot_Mount_1.rs : List Rv := d109.res
def shot_Mount_1.b : Sx := d109.body
def shot_Mount_1.f (k : Nat) (id_2816 : Int) (o1_2817 : Int) (o3_2826 : (List (Int × arena_Node))) : Option (Bool) := ((arena_Arena_Get.f k id_2816 o3_2826).bind fun t_2831 => (if t_2831.1.Kind = 3 then (some (t_2831.1.Slot == o1_2817)) else (some false)))
theorem shot_Mount_1.run (k : Nat) (id_2816 : Int) (o1_2817 : Int) (o2_2818 : Int) (o2_2819 : Int) (o2_2820 : Int) (o2_2821 : Int) (o2_2822 : Int) (o2_2823 : Int) (o2_2824 : Int) (o2_2825 : Int) (o3_2826 : (List (Int × arena_Node))) (r : Bool) (h : shot_Mount_1.f k id_2816 o1_2817 o3_2826 = some r) (res : Vv) (st : Sto) (hr : (shot_Mount_1.R id_2816 o1_2817 o2_2818 o2_2819 o2_2820 o2_2821 o2_2822 o2_2823 o2_2824 o2_2825 o3_2826 r, shot_Mount_1.S1 id_2816 o1_2817 o2_2818 o2_2819 o2_2820 o2_2821 o2_2822 o2_2823 o2_2824 o2_2825 o3_2826 r) = (res, st)) : RunE Try.prog ⟨4, shot_Mount_1.rs, res, st⟩ (.st shot_Mount_1.b .done) (argE 0 (shot_Mount_1.A id_2816 o1_2817 o2_2818 o2_2819 o2_2820 o2_2821 o2_2822 o2_2823 o2_2824 o2_2825 o3_2826)) (shot_Mount_1.S0 id_2816 o1_2817 o2_2818 o2_2819 o2_2820 o2_2821 o2_2822 o2_2823 o2_2824 o2_2825 o3_2826) := by
  unfold shot_Mount_1.f at h
  obtain ⟨t_2831, ht_2831, h⟩ := bind_some h
  rcases ite_some h with ⟨c_2832, h⟩ | ⟨c_2832, h⟩
  · obtain rfl := Option.some.inj h
    exact pathE 484 [.call [2, 3] (arena_Arena_Get.R id_2816 o2_2818 o2_2819 o2_2820 o2_2821 o2_2822 o2_2823 o2_2824 o2_2825 o3_2826 t_2831) (arena_Arena_Get.S1 id_2816 o2_2818 o2_2819 o2_2820 o2_2821 o2_2822 o2_2823 o2_2824 o2_2825 o3_2826 t_2831), .b true, .b true, .b true, .b true, .i 3, .fin [0, 1, 2, 3]] (ai (arena_Arena_Get.ok k id_2816 o2_2818 o2_2819 o2_2820 o2_2821 o2_2822 o2_2823 o2_2824 o2_2825 o3_2826 t_2831 ht_2831) <| ai (beq_iff_eq.2 c_2832) <| ai rT <| ai rT <| ai rT <| hr) (by kernel_rfl)
  · obtain rfl := Option.some.inj h
    exact pathE 484 [.call [2, 3] (arena_Arena_Get.R id_2816 o2_2818 o2_2819 o2_2820 o2_2821 o2_2822 o2_2823 o2_2824 o2_2825 o3_2826 t_2831) (arena_Arena_Get.S1 id_2816 o2_2818 o2_2819 o2_2820 o2_2821 o2_2822 o2_2823 o2_2824 o2_2825 o3_2826 t_2831), .b false, .b false, .b false, .b false, .i 3, .fin [0, 1, 2, 3]] (ai (arena_Arena_Get.ok k id_2816 o2_2818 o2_2819 o2_2820 o2_2821 o2_2822 o2_2823 o2_2824 o2_2825 o3_2826 t_2831 ht_2831) <| ai (beq_eq_false_iff_ne.2 c_2832) <| ai rF <| ai rF <| ai rF <| hr) (by kernel_rfl)
theorem shot_Mount_1.ok (k : Nat) (id_2816 : Int) (o1_2817 : Int) (o2_2818 : Int) (o2_2819 : Int) (o2_2820 : Int) (o2_2821 : Int) (o2_2822 : Int) (o2_2823 : Int) (o2_2824 : Int) (o2_2825 : Int) (o3_2826 : (List (Int × arena_Node))) (r : Bool) (h : shot_Mount_1.f k id_2816 o1_2817 o3_2826 = some r) : OkS Try.prog 109 (shot_Mount_1.A id_2816 o1_2817 o2_2818 o2_2819 o2_2820 o2_2821 o2_2822 o2_2823 o2_2824 o2_2825 o3_2826) (shot_Mount_1.S0 id_2816 o1_2817 o2_2818 o2_2819 o2_2820 o2_2821 o2_2822 o2_2823 o2_2824 o2_2825 o3_2826) (shot_Mount_1.R id_2816 o1_2817 o2_2818 o2_2819 o2_2820 o2_2821 o2_2822 o2_2823 o2_2824 o2_2825 o3_2826 r) (shot_Mount_1.S1 id_2816 o1_2817 o2_2818 o2_2819 o2_2820 o2_2821 o2_2822 o2_2823 o2_2824 o2_2825 o3_2826 r) := okE Try.func109 m109 rfl rfl rfl (shot_Mount_1.run k id_2816 o1_2817 o2_2818 o2_2819 o2_2820 o2_2821 o2_2822 o2_2823 o2_2824 o2_2825 o3_2826 r h _ _ rfl)
-- 108 slices.IndexFunc[[]int,int]
def d108 : FnDef := ⟨19, [.tmp 4],
  (.seq
  (.ops [
    ⟨some 4, .mv (.c (.one (.p (.int .i64 0)))), none⟩] [0, 1])
  (.seq
  (.seq
  (.ops [
    ⟨some 6, .mv (.t 0), none⟩,
    ⟨some 7, .len false (.t 6), none⟩,
    ⟨some 8, .mv (.c (.one (.p (.int .i64 0)))), none⟩] [0, 1, 7, 8])
  (.block 0
    (.loop
      (.seq
      (.ops [
        ⟨some 9, .bin 0 .lss (.t 8) (.t 7), none⟩] [0, 1, 7, 8, 9])
      (.seq
      (.cond (.t 9)
        .skip
        (.exit 0))
      (.seq
      (.block 1
        (.seq
        (.ops [
          ⟨some 10, .mv (.t 8), none⟩,
          ⟨some 5, .mv (.t 10), none⟩] [0, 1, 5, 7, 8])
        (.seq
        (.ops [
          ⟨some 11, .mv (.t 1), none⟩,
          ⟨some 12, .mv (.t 0), none⟩,
          ⟨some 13, .mv (.t 5), none⟩,
          ⟨some 14, .iaddr 1 (.t 12) (.t 13), none⟩,
          ⟨some 15, .load 1 false (.t 14), none⟩,
          ⟨some 16, .callv (.t 11) [(.t 15)], none⟩] [0, 1, 5, 7, 8, 16])
        (.cond (.t 16)
          (.seq
          (.ops [
            ⟨some 17, .mv (.t 5), none⟩,
            ⟨some 4, .mv (.t 17), none⟩] [4])
          .ret)
          .skip))))
      (.ops [
        ⟨some 18, .bin 0 .add (.t 8) (.c (.one (.p (.int .i64 1)))), none⟩,
        ⟨some 8, .mv (.t 18), none⟩] [0, 1, 7, 8])))))))
  (.seq
  (.ops [
    ⟨some 4, .mv (.c (.one (.p (.int .i64 (-1))))), none⟩] [4])
  .ret)))⟩
theorem m108 : mFn Try.prog d108 Try.f108 = true := by kernel_rfl
def slices_IndexFunc_int_int.A (s_2791 : (List Int)) (o1_2792 : Int) (o2_2793 : Int) (o2_2794 : Int) (o2_2795 : Int) (o2_2796 : Int) (o2_2797 : Int) (o2_2798 : Int) (o2_2799 : Int) (o2_2800 : Int) (o3_2801 : (List (Int × arena_Node))) : List Vv := [.one (.p (.sl 1 (s_2791.map en_i64))), .one (.fn 109 [.ptr 0 0, .ptr 1 0])]
def slices_IndexFunc_int_int.S0 (s_2791 : (List Int)) (o1_2792 : Int) (o2_2793 : Int) (o2_2794 : Int) (o2_2795 : Int) (o2_2796 : Int) (o2_2797 : Int) (o2_2798 : Int) (o2_2799 : Int) (o2_2800 : Int) (o3_2801 : (List (Int × arena_Node))) : Sto := [.box [.ptr 2 0], .box [.p (.int .i64 o1_2792)], .box [.mp 3, .p (.int .i64 o2_2793), .p (.int .i64 o2_2794), .p (.int .i64 o2_2795), .p (.int .i64 o2_2796), .p (.int .i64 o2_2797), .p (.int .i64 o2_2798), .p (.int .i64 o2_2799), .p (.int .i64 o2_2800)], .map (enE en_arena_Node o3_2801)]
def slices_IndexFunc_int_int.R (s_2791 : (List Int)) (o1_2792 : Int) (o2_2793 : Int) (o2_2794 : Int) (o2_2795 : Int) (o2_2796 : Int) (o2_2797 : Int) (o2_2798 : Int) (o2_2799 : Int) (o2_2800 : Int) (o3_2801 : (List (Int × arena_Node))) (r_0 : Int) : Vv := .one (.p (.int .i64 r_0))
def slices_IndexFunc_int_int.S1 (s_2791 : (List Int)) (o1_2792 : Int) (o2_2793 : Int) (o2_2794 : Int) (o2_2795 : Int) (o2_2796 : Int) (o2_2797 : Int) (o2_2798 : Int) (o2_2799 : Int) (o2_2800 : Int) (o3_2801 : (List (Int × arena_Node))) (r_0 : Int) : Sto := [.box [.ptr 2 0], .box [.p (.int .i64 o1_2792)], .box [.mp 3, .p (.int .i64 o2_2793), .p (.int .i64 o2_2794), .p (.int .i64 o2_2795), .p (.int .i64 o2_2796), .p (.int .i64 o2_2797), .p (.int .i64 o2_2798), .p (.int .i64 o2_2799), .p (.int .i64 o2_2800)], .map (enE en_arena_Node o3_2801)]
def slices_IndexFunc_int_int.rs : List Rv := d108.res
def slices_IndexFunc_int_int.b : Sx := d108.body
def slices_IndexFunc_int_int_l1 : Nat → (List Int) → Int → Int → (List (Int × arena_Node)) → Int → Option ((Int) ⊕ (Unit))
  | 0, _, _, _, _, _ => none
  | k + 1, s_2907, u_2908, o1_2910, o3_2919, u_2909 => (if u_2909 < u_2908 then ((idx s_2907 u_2909).bind fun x_2925 => ((shot_Mount_1.f k x_2925 o1_2910 o3_2919).bind fun t_2926 => (if t_2926 = true then (some (.inl u_2909)) else (slices_IndexFunc_int_int_l1 k s_2907 u_2908 o1_2910 o3_2919 (w64 (u_2909 + 1)))))) else (some (.inr ())))
def slices_IndexFunc_int_int_l1.S (k : Nat) : Prop := ∀ (s_2907 : (List Int)) (u_2908 : Int) (o1_2910 : Int) (o2_2911 : Int) (o2_2912 : Int) (o2_2913 : Int) (o2_2914 : Int) (o2_2915 : Int) (o2_2916 : Int) (o2_2917 : Int) (o2_2918 : Int) (o3_2919 : (List (Int × arena_Node))) (u_2909 : Int) (v : (Int) ⊕ (Unit)), slices_IndexFunc_int_int_l1 k s_2907 u_2908 o1_2910 o3_2919 u_2909 = some v → ∀ (res : Vv) (st : Sto), (∀ x_0, v = (.inl x_0) → ∀ k, RunE Try.prog ⟨4, slices_IndexFunc_int_int.rs, res, st⟩ (.st .ret k) [(4, .one (.p (.int .i64 x_0)))] [.box [.ptr 2 0], .box [.p (.int .i64 o1_2910)], .box [.mp 3, .p (.int .i64 o2_2911), .p (.int .i64 o2_2912), .p (.int .i64 o2_2913), .p (.int .i64 o2_2914), .p (.int .i64 o2_2915), .p (.int .i64 o2_2916), .p (.int .i64 o2_2917), .p (.int .i64 o2_2918)], .map (enE en_arena_Node o3_2919)]) → (∀ x_0, v = (.inr x_0) → RunE Try.prog ⟨4, slices_IndexFunc_int_int.rs, res, st⟩ (koAfter slices_IndexFunc_int_int.b [1, 0, 1]) [] [.box [.ptr 2 0], .box [.p (.int .i64 o1_2910)], .box [.mp 3, .p (.int .i64 o2_2911), .p (.int .i64 o2_2912), .p (.int .i64 o2_2913), .p (.int .i64 o2_2914), .p (.int .i64 o2_2915), .p (.int .i64 o2_2916), .p (.int .i64 o2_2917), .p (.int .i64 o2_2918)], .map (enE en_arena_Node o3_2919)]) → RunE Try.prog ⟨4, slices_IndexFunc_int_int.rs, res, st⟩ (koLoop slices_IndexFunc_int_int.b [1, 0, 1, 0]) [(0, .one (.p (.sl 1 (s_2907.map en_i64)))), (1, .one (.fn 109 [.ptr 0 0, .ptr 1 0])), (7, .one (.p (.int .i64 u_2908))), (8, .one (.p (.int .i64 u_2909)))] [.box [.ptr 2 0], .box [.p (.int .i64 o1_2910)], .box [.mp 3, .p (.int .i64 o2_2911), .p (.int .i64 o2_2912), .p (.int .i64 o2_2913), .p (.int .i64 o2_2914), .p (.int .i64 o2_2915), .p (.int .i64 o2_2916), .p (.int .i64 o2_2917), .p (.int .i64 o2_2918)], .map (enE en_arena_Node o3_2919)]
theorem slices_IndexFunc_int_int_l1.z : slices_IndexFunc_int_int_l1.S 0 := fun _ _ _ _ _ _ _ _ _ _ _ _ _ v h => none_some h
theorem slices_IndexFunc_int_int_l1.step (k : Nat) (ih : slices_IndexFunc_int_int_l1.S k) : slices_IndexFunc_int_int_l1.S (k + 1) := by
  intro s_2907 u_2908 o1_2910 o2_2911 o2_2912 o2_2913 o2_2914 o2_2915 o2_2916 o2_2917 o2_2918 o3_2919 u_2909 v h res st c0 c1
  rw [slices_IndexFunc_int_int_l1] at h
  rcases ite_some h with ⟨c_2924, h⟩ | ⟨c_2924, h⟩
  · obtain ⟨x_2925, hx_2925, h⟩ := bind_some h
    obtain ⟨t_2926, ht_2926, h⟩ := bind_some h
    refine pathE 472 [.b true, .c (en_i64 x_2925), .call [0, 1, 2, 3] (shot_Mount_1.R x_2925 o1_2910 o2_2911 o2_2912 o2_2913 o2_2914 o2_2915 o2_2916 o2_2917 o2_2918 o3_2919 t_2926) (shot_Mount_1.S1 x_2925 o1_2910 o2_2911 o2_2912 o2_2913 o2_2914 o2_2915 o2_2916 o2_2917 o2_2918 o3_2919 t_2926), .i 1, .keep [0, 1, 5, 7, 8, 16], .stop] (ai (decide_eq_true c_2924) <| ai (idx_ob en_i64 hx_2925) <| ai (shot_Mount_1.ok k x_2925 o1_2910 o2_2911 o2_2912 o2_2913 o2_2914 o2_2915 o2_2916 o2_2917 o2_2918 o3_2919 t_2926 ht_2926) <| (?_ : RunE Try.prog ⟨4, slices_IndexFunc_int_int.rs, res, st⟩ (koOf slices_IndexFunc_int_int.b .done [1, 0, 1, 0, 0, 1, 1, 0, 0, 1, 1]) [(0, .one (.p (.sl 1 (s_2907.map en_i64)))), (1, .one (.fn 109 [.ptr 0 0, .ptr 1 0])), (5, .one (.p (.int .i64 u_2909))), (7, .one (.p (.int .i64 u_2908))), (8, .one (.p (.int .i64 u_2909))), (16, .one (.p (.bool t_2926)))] [.box [.ptr 2 0], .box [.p (.int .i64 o1_2910)], .box [.mp 3, .p (.int .i64 o2_2911), .p (.int .i64 o2_2912), .p (.int .i64 o2_2913), .p (.int .i64 o2_2914), .p (.int .i64 o2_2915), .p (.int .i64 o2_2916), .p (.int .i64 o2_2917), .p (.int .i64 o2_2918)], .map (enE en_arena_Node o3_2919)])) (by kernel_rfl)
    rcases ite_some h with ⟨c_2927, h⟩ | ⟨c_2927, h⟩
    · obtain rfl := Option.some.inj h
      exact pathE 448 [.b true, .i 5, .keep [4], .stop] (ai c_2927 <| ((c0 u_2909 rfl) (koAfter slices_IndexFunc_int_int.b [1, 0, 1, 0, 0, 1, 1, 0, 0, 1, 1, 0, 1]))) (by kernel_rfl)
    · exact pathE 448 [.b false, .i 6, .keep [0, 1, 7, 8], .stop] (ai (bool_false c_2927) <| (ih s_2907 u_2908 o1_2910 o2_2911 o2_2912 o2_2913 o2_2914 o2_2915 o2_2916 o2_2917 o2_2918 o3_2919 (w64 (u_2909 + 1)) _ h res st c0 c1)) (by kernel_rfl)
  · obtain rfl := Option.some.inj h
    exact pathE 448 [.b false, .i 1, .keep [], .stop] (ai (decide_eq_false c_2924) <| (c1 () rfl)) (by kernel_rfl)
theorem slices_IndexFunc_int_int_l1.ok : ∀ k, slices_IndexFunc_int_int_l1.S k
  | 0 => slices_IndexFunc_int_int_l1.z
  | k + 1 => slices_IndexFunc_int_int_l1.step k (slices_IndexFunc_int_int_l1.ok k)
def slices_IndexFunc_int_int.f (k : Nat) (s_2791 : (List Int)) (o1_2792 : Int) (o3_2801 : (List (Int × arena_Node))) : Option (Int) := (Option.bind (slices_IndexFunc_int_int_l1 k s_2791 (s_2791.length : Int) o1_2792 o3_2801 0) (Sum.elim (fun x_2929 => (some x_2929)) (fun x_2930 => (some (-1)))))
theorem slices_IndexFunc_int_int.run (k : Nat) (s_2791 : (List Int)) (o1_2792 : Int) (o2_2793 : Int) (o2_2794 : Int) (o2_2795 : Int) (o2_2796 : Int) (o2_2797 : Int) (o2_2798 : Int) (o2_2799 : Int) (o2_2800 : Int) (o3_2801 : (List (Int × arena_Node))) (r : Int) (h : slices_IndexFunc_int_int.f k s_2791 o1_2792 o3_2801 = some r) (res : Vv) (st : Sto) (hr : (slices_IndexFunc_int_int.R s_2791 o1_2792 o2_2793 o2_2794 o2_2795 o2_2796 o2_2797 o2_2798 o2_2799 o2_2800 o3_2801 r, slices_IndexFunc_int_int.S1 s_2791 o1_2792 o2_2793 o2_2794 o2_2795 o2_2796 o2_2797 o2_2798 o2_2799 o2_2800 o3_2801 r) = (res, st)) : RunE Try.prog ⟨4, slices_IndexFunc_int_int.rs, res, st⟩ (.st slices_IndexFunc_int_int.b .done) (argE 0 (slices_IndexFunc_int_int.A s_2791 o1_2792 o2_2793 o2_2794 o2_2795 o2_2796 o2_2797 o2_2798 o2_2799 o2_2800 o3_2801)) (slices_IndexFunc_int_int.S0 s_2791 o1_2792 o2_2793 o2_2794 o2_2795 o2_2796 o2_2797 o2_2798 o2_2799 o2_2800 o3_2801) := by
  unfold slices_IndexFunc_int_int.f at h
  obtain ⟨v_2928, hv_2928, h⟩ := bind_some h
  refine pathE 448 [.n s_2791.length, .i 4, .keep [0, 1, 7, 8], .stop] (ai (len_ob en_i64 s_2791) <| (slices_IndexFunc_int_int_l1.ok k s_2791 (s_2791.length : Int) o1_2792 o2_2793 o2_2794 o2_2795 o2_2796 o2_2797 o2_2798 o2_2799 o2_2800 o3_2801 0 v_2928 hv_2928 res st ?_ ?_)) (by kernel_rfl)
  · intro x_2929 hx
    subst hx
    replace h := sum_l h
    intro k
    obtain rfl := Option.some.inj h
    exact pathE 412 [.fin [0, 1, 2, 3]] (hr) (by kernel_rfl)
  · intro x_2930 hx
    subst hx
    replace h := sum_r h
    obtain rfl := Option.some.inj h
    exact pathE 424 [.i 4, .fin [0, 1, 2, 3]] (hr) (by kernel_rfl)
theorem slices_IndexFunc_int_int.ok (k : Nat) (s_2791 : (List Int)) (o1_2792 : Int) (o2_2793 : Int) (o2_2794 : Int) (o2_2795 : Int) (o2_2796 : Int) (o2_2797 : Int) (o2_2798 : Int) (o2_2799 : Int) (o2_2800 : Int) (o3_2801 : (List (Int × arena_Node))) (r : Int) (h : slices_IndexFunc_int_int.f k s_2791 o1_2792 o3_2801 = some r) : OkS Try.prog 108 (slices_IndexFunc_int_int.A s_2791 o1_2792 o2_2793 o2_2794 o2_2795 o2_2796 o2_2797 o2_2798 o2_2799 o2_2800 o3_2801) (slices_IndexFunc_int_int.S0 s_2791 o1_2792 o2_2793 o2_2794 o2_2795 o2_2796 o2_2797 o2_2798 o2_2799 o2_2800 o3_2801) (slices_IndexFunc_int_int.R s_2791 o1_2792 o2_2793 o2_2794 o2_2795 o2_2796 o2_2797 o2_2798 o2_2799 o2_2800 o3_2801 r) (slices_IndexFunc_int_int.S1 s_2791 o1_2792 o2_2793 o2_2794 o2_2795 o2_2796 o2_2797 o2_2798 o2_2799 o2_2800 o3_2801 r) := okE Try.func108 m108 rfl rfl rfl (slices_IndexFunc_int_int.run k s_2791 o1_2792 o2_2793 o2_2794 o2_2795 o2_2796 o2_2797 o2_2798 o2_2799 o2_2800 o3_2801 r h _ _ rfl)
-- 42 glazier/shot.Mount
def d42 : FnDef := ⟨18, [.tmp 4],
  (.seq
  (.ops [
    ⟨some 2, .box (.t 0), none⟩,
    ⟨some 3, .box (.t 1), none⟩,
    ⟨some 4, .mv (.c (.one (.p (.int .i64 0)))), none⟩] [2, 3])
  (.seq
  (.ops [
    ⟨some 7, .load 1 false (.t 2), none⟩,
    ⟨some 8, .call 41 [(.t 7), (.c (.one (.p (.int .i64 0))))], none⟩,
    ⟨some 5, .mv (.t 8), none⟩] [2, 3, 5])
  (.seq
  (.ops [
    ⟨some 9, .mv (.t 5), none⟩,
    ⟨some 10, .mkfn 109 [(.t 2), (.t 3)], none⟩,
    ⟨some 11, .call 108 [(.t 9), (.t 10)], none⟩,
    ⟨some 6, .mv (.t 11), none⟩] [5, 6])
  (.seq
  (.seq
  (.ops [
    ⟨some 12, .mv (.t 6), none⟩,
    ⟨some 13, .bin 0 .lss (.t 12) (.c (.one (.p (.int .i64 0)))), none⟩] [5, 6, 13])
  (.cond (.t 13)
    (.seq
    (.ops [
      ⟨some 4, .mv (.c (.one (.p (.int .i64 0)))), none⟩] [4])
    .ret)
    .skip))
  (.seq
  (.ops [
    ⟨some 14, .mv (.t 5), none⟩,
    ⟨some 15, .mv (.t 6), none⟩,
    ⟨some 16, .iaddr 1 (.t 14) (.t 15), none⟩,
    ⟨some 17, .load 1 false (.t 16), none⟩,
    ⟨some 4, .mv (.t 17), none⟩] [4])
  .ret)))))⟩
theorem m42 : mFn Try.prog d42 Try.f42 = true := by kernel_rfl
def shot_Mount.A (slot_2780 : Int) (o0_2781 : Int) (o0_2782 : Int) (o0_2783 : Int) (o0_2784 : Int) (o0_2785 : Int) (o0_2786 : Int) (o0_2787 : Int) (o0_2788 : Int) (o1_2789 : (List (Int × arena_Node))) : List Vv := [.one (.ptr 0 0), .one (.p (.int .i64 slot_2780))]
def shot_Mount.S0 (slot_2780 : Int) (o0_2781 : Int) (o0_2782 : Int) (o0_2783 : Int) (o0_2784 : Int) (o0_2785 : Int) (o0_2786 : Int) (o0_2787 : Int) (o0_2788 : Int) (o1_2789 : (List (Int × arena_Node))) : Sto := [.box [.mp 1, .p (.int .i64 o0_2781), .p (.int .i64 o0_2782), .p (.int .i64 o0_2783), .p (.int .i64 o0_2784), .p (.int .i64 o0_2785), .p (.int .i64 o0_2786), .p (.int .i64 o0_2787), .p (.int .i64 o0_2788)], .map (enE en_arena_Node o1_2789)]
def shot_Mount.R (slot_2780 : Int) (o0_2781 : Int) (o0_2782 : Int) (o0_2783 : Int) (o0_2784 : Int) (o0_2785 : Int) (o0_2786 : Int) (o0_2787 : Int) (o0_2788 : Int) (o1_2789 : (List (Int × arena_Node))) (r_0 : Int) : Vv := .one (.p (.int .i64 r_0))
def shot_Mount.S1 (slot_2780 : Int) (o0_2781 : Int) (o0_2782 : Int) (o0_2783 : Int) (o0_2784 : Int) (o0_2785 : Int) (o0_2786 : Int) (o0_2787 : Int) (o0_2788 : Int) (o1_2789 : (List (Int × arena_Node))) (r_0 : Int) : Sto := [.box [.mp 1, .p (.int .i64 o0_2781), .p (.int .i64 o0_2782), .p (.int .i64 o0_2783), .p (.int .i64 o0_2784), .p (.int .i64 o0_2785), .p (.int .i64 o0_2786), .p (.int .i64 o0_2787), .p (.int .i64 o0_2788)], .map (enE en_arena_Node o1_2789)]
def shot_Mount.rs : List Rv := d42.res
def shot_Mount.b : Sx := d42.body
def shot_Mount.f (k : Nat) (slot_2780 : Int) (o1_2789 : (List (Int × arena_Node))) : Option (Int) := ((shot_Ids.f k 0 o1_2789).bind fun t_2938 => ((slices_IndexFunc_int_int.f k t_2938 slot_2780 o1_2789).bind fun t_2939 => (if t_2939 < 0 then (some 0) else ((idx t_2938 t_2939).bind fun x_2941 => (some x_2941)))))
theorem shot_Mount.run (k : Nat) (slot_2780 : Int) (o0_2781 : Int) (o0_2782 : Int) (o0_2783 : Int) (o0_2784 : Int) (o0_2785 : Int) (o0_2786 : Int) (o0_2787 : Int) (o0_2788 : Int) (o1_2789 : (List (Int × arena_Node))) (r : Int) (h : shot_Mount.f k slot_2780 o1_2789 = some r) (res : Vv) (st : Sto) (hr : (shot_Mount.R slot_2780 o0_2781 o0_2782 o0_2783 o0_2784 o0_2785 o0_2786 o0_2787 o0_2788 o1_2789 r, shot_Mount.S1 slot_2780 o0_2781 o0_2782 o0_2783 o0_2784 o0_2785 o0_2786 o0_2787 o0_2788 o1_2789 r) = (res, st)) : RunE Try.prog ⟨2, shot_Mount.rs, res, st⟩ (.st shot_Mount.b .done) (argE 0 (shot_Mount.A slot_2780 o0_2781 o0_2782 o0_2783 o0_2784 o0_2785 o0_2786 o0_2787 o0_2788 o1_2789)) (shot_Mount.S0 slot_2780 o0_2781 o0_2782 o0_2783 o0_2784 o0_2785 o0_2786 o0_2787 o0_2788 o1_2789) := by
  unfold shot_Mount.f at h
  obtain ⟨t_2938, ht_2938, h⟩ := bind_some h
  obtain ⟨t_2939, ht_2939, h⟩ := bind_some h
  rcases ite_some h with ⟨c_2940, h⟩ | ⟨c_2940, h⟩
  · obtain rfl := Option.some.inj h
    exact pathE 460 [.call [0, 1] (shot_Ids.R 0 o0_2781 o0_2782 o0_2783 o0_2784 o0_2785 o0_2786 o0_2787 o0_2788 o1_2789 t_2938) (shot_Ids.S1 0 o0_2781 o0_2782 o0_2783 o0_2784 o0_2785 o0_2786 o0_2787 o0_2788 o1_2789 t_2938), .call [2, 3, 0, 1] (slices_IndexFunc_int_int.R t_2938 slot_2780 o0_2781 o0_2782 o0_2783 o0_2784 o0_2785 o0_2786 o0_2787 o0_2788 o1_2789 t_2939) (slices_IndexFunc_int_int.S1 t_2938 slot_2780 o0_2781 o0_2782 o0_2783 o0_2784 o0_2785 o0_2786 o0_2787 o0_2788 o1_2789 t_2939), .b true, .i 4, .fin [0, 1]] (ai (shot_Ids.ok k 0 o0_2781 o0_2782 o0_2783 o0_2784 o0_2785 o0_2786 o0_2787 o0_2788 o1_2789 t_2938 ht_2938) <| ai (slices_IndexFunc_int_int.ok k t_2938 slot_2780 o0_2781 o0_2782 o0_2783 o0_2784 o0_2785 o0_2786 o0_2787 o0_2788 o1_2789 t_2939 ht_2939) <| ai (decide_eq_true c_2940) <| hr) (by kernel_rfl)
  · obtain ⟨x_2941, hx_2941, h⟩ := bind_some h
    obtain rfl := Option.some.inj h
    exact pathE 472 [.call [0, 1] (shot_Ids.R 0 o0_2781 o0_2782 o0_2783 o0_2784 o0_2785 o0_2786 o0_2787 o0_2788 o1_2789 t_2938) (shot_Ids.S1 0 o0_2781 o0_2782 o0_2783 o0_2784 o0_2785 o0_2786 o0_2787 o0_2788 o1_2789 t_2938), .call [2, 3, 0, 1] (slices_IndexFunc_int_int.R t_2938 slot_2780 o0_2781 o0_2782 o0_2783 o0_2784 o0_2785 o0_2786 o0_2787 o0_2788 o1_2789 t_2939) (slices_IndexFunc_int_int.S1 t_2938 slot_2780 o0_2781 o0_2782 o0_2783 o0_2784 o0_2785 o0_2786 o0_2787 o0_2788 o1_2789 t_2939), .b false, .c (en_i64 x_2941), .i 3, .fin [0, 1]] (ai (shot_Ids.ok k 0 o0_2781 o0_2782 o0_2783 o0_2784 o0_2785 o0_2786 o0_2787 o0_2788 o1_2789 t_2938 ht_2938) <| ai (slices_IndexFunc_int_int.ok k t_2938 slot_2780 o0_2781 o0_2782 o0_2783 o0_2784 o0_2785 o0_2786 o0_2787 o0_2788 o1_2789 t_2939 ht_2939) <| ai (decide_eq_false c_2940) <| ai (idx_ob en_i64 hx_2941) <| hr) (by kernel_rfl)
theorem shot_Mount.ok (k : Nat) (slot_2780 : Int) (o0_2781 : Int) (o0_2782 : Int) (o0_2783 : Int) (o0_2784 : Int) (o0_2785 : Int) (o0_2786 : Int) (o0_2787 : Int) (o0_2788 : Int) (o1_2789 : (List (Int × arena_Node))) (r : Int) (h : shot_Mount.f k slot_2780 o1_2789 = some r) : OkS Try.prog 42 (shot_Mount.A slot_2780 o0_2781 o0_2782 o0_2783 o0_2784 o0_2785 o0_2786 o0_2787 o0_2788 o1_2789) (shot_Mount.S0 slot_2780 o0_2781 o0_2782 o0_2783 o0_2784 o0_2785 o0_2786 o0_2787 o0_2788 o1_2789) (shot_Mount.R slot_2780 o0_2781 o0_2782 o0_2783 o0_2784 o0_2785 o0_2786 o0_2787 o0_2788 o1_2789 r) (shot_Mount.S1 slot_2780 o0_2781 o0_2782 o0_2783 o0_2784 o0_2785 o0_2786 o0_2787 o0_2788 o1_2789 r) := okE Try.func42 m42 rfl rfl rfl (shot_Mount.run k slot_2780 o0_2781 o0_2782 o0_2783 o0_2784 o0_2785 o0_2786 o0_2787 o0_2788 o1_2789 r h _ _ rfl)
-- 7 glazier/glazierlaw21.ShotTells
def d7 : FnDef := ⟨106, [.tmp 6],
  (.seq
  (.ops [
    ⟨some 6, .mv (.c (.one (.p (.bool false)))), none⟩] [0, 1, 2])
  (.seq
  (.seq
  (.ops [
    ⟨some 15, .call 35 [], none⟩,
    ⟨some 16, .un .not (.t 15), none⟩] [0, 1, 2, 16])
  (.cond (.t 16)
    (.seq
    (.ops [
      ⟨some 6, .mv (.c (.one (.p (.bool false)))), none⟩] [6])
    .ret)
    .skip))
  (.seq
  (.ops [
    ⟨some 18, .mv (.t 0), none⟩,
    ⟨some 19, .call 36 [(.t 18)], none⟩,
    ⟨some 17, .mv (.t 19), none⟩,
    ⟨some 20, .ext (.t 17) 0, none⟩,
    ⟨some 21, .ext (.t 17) 1, none⟩,
    ⟨some 7, .mv (.t 20), none⟩,
    ⟨some 8, .mv (.t 21), none⟩] [1, 2, 7, 8])
  (.seq
  (.ops [
    ⟨some 22, .mv (.t 7), none⟩,
    ⟨some 23, .call 37 [(.t 22), (.c (.one (.p (.int .i64 0))))], none⟩,
    ⟨some 9, .mv (.t 23), none⟩] [1, 2, 7, 8, 9])
  (.seq
  (.ops [
    ⟨some 10, .mv (.c (.one (.p (.int .i64 0)))), none⟩] [1, 2, 7, 8, 9, 10])
  (.seq
  (.seq
  (.ops [
    ⟨some 24, .mv (.t 9), none⟩,
    ⟨some 25, .len false (.t 24), none⟩,
    ⟨some 26, .bin 0 .sub (.t 25) (.c (.one (.p (.int .i64 1)))), none⟩,
    ⟨some 11, .mv (.t 26), none⟩] [1, 2, 7, 8, 9, 10, 11])
  (.block 0
    (.loop
      (.seq
      (.seq
      (.ops [
        ⟨some 27, .mv (.t 11), none⟩,
        ⟨some 28, .bin 0 .geq (.t 27) (.c (.one (.p (.int .i64 0)))), none⟩] [1, 2, 7, 8, 9, 10, 11, 28])
      (.cond (.t 28)
        .skip
        (.exit 0)))
      (.seq
      (.block 1
        (.seq
        (.ops [
          ⟨some 32, .mv (.t 7), none⟩,
          ⟨some 33, .mv (.t 9), none⟩,
          ⟨some 34, .mv (.t 11), none⟩,
          ⟨some 35, .iaddr 1 (.t 33) (.t 34), none⟩,
          ⟨some 36, .load 1 false (.t 35), none⟩,
          ⟨some 37, .call 34 [(.t 32), (.t 36)], none⟩,
          ⟨some 31, .mv (.t 37), none⟩,
          ⟨some 38, .ext (.t 31) 0, none⟩,
          ⟨some 39, .ext (.t 31) 1, none⟩,
          ⟨some 12, .alloc [.p (.int .i64 0), .p (.int .i64 0), .p (.int .i64 0), .p (.int .i64 0), .p (.str []), .nil 2, .p (.str []), .p (.int .i64 0), .nil 4, .nil 3, .nil 1, .p (.str []), .nil 2], none⟩,
          ⟨none, .store 13 (.t 12) (.t 38), none⟩,
          ⟨some 13, .mv (.t 39), none⟩] [1, 2, 7, 8, 9, 10, 11, 12])
        (.seq
        (.ops [
          ⟨some 40, .faddr 3 (.t 12), none⟩,
          ⟨some 41, .load 1 false (.t 40), none⟩,
          ⟨some 42, .bin 0 .eql (.t 41) (.c (.one (.p (.int .i64 3)))), none⟩,
          ⟨some 43, .mv (.t 42), none⟩,
          ⟨some 44, .faddr 7 (.t 12), some (43, true)⟩,
          ⟨some 45, .load 1 false (.t 44), some (43, true)⟩,
          ⟨some 46, .mv (.t 1), some (43, true)⟩,
          ⟨some 47, .bin 0 .eql (.t 45) (.t 46), some (43, true)⟩,
          ⟨some 48, .pick (.t 43) (.t 47) (.c (.one (.p (.bool false)))), none⟩] [1, 2, 7, 8, 9, 10, 11, 48])
        (.cond (.t 48)
          (.ops [
            ⟨some 49, .mv (.t 9), none⟩,
            ⟨some 50, .mv (.t 11), none⟩,
            ⟨some 51, .iaddr 1 (.t 49) (.t 50), none⟩,
            ⟨some 52, .load 1 false (.t 51), none⟩,
            ⟨some 10, .mv (.t 52), none⟩] [1, 2, 7, 8, 9, 10, 11])
          .skip))))
      (.ops [
        ⟨some 29, .mv (.t 11), none⟩,
        ⟨some 30, .bin 0 .sub (.t 29) (.c (.one (.p (.int .i64 1)))), none⟩,
        ⟨some 11, .mv (.t 30), none⟩] [1, 2, 7, 8, 9, 10, 11]))))))
  (.seq
  (.ops [
    ⟨some 53, .mv (.t 8), none⟩,
    ⟨some 54, .mv (.t 2), none⟩,
    ⟨some 55, .mv (.t 8), none⟩,
    ⟨some 56, .len false (.t 55), none⟩,
    ⟨some 57, .bin 0 .rem (.t 54) (.t 56), none⟩,
    ⟨some 58, .mv (.t 8), none⟩,
    ⟨some 59, .len false (.t 58), none⟩,
    ⟨some 60, .bin 0 .add (.t 57) (.t 59), none⟩,
    ⟨some 61, .mv (.t 8), none⟩,
    ⟨some 62, .len false (.t 61), none⟩,
    ⟨some 63, .bin 0 .rem (.t 60) (.t 62), none⟩,
    ⟨some 64, .iaddr 1 (.t 53) (.t 63), none⟩,
    ⟨some 65, .load 1 false (.t 64), none⟩,
    ⟨some 14, .mv (.t 65), none⟩] [1, 7, 8, 9, 10, 14])
  (.seq
  (.ops [
    ⟨some 66, .mv (.t 7), none⟩,
    ⟨some 67, .call 39 [(.t 66)], none⟩,
    ⟨some 68, .mv (.t 7), none⟩,
    ⟨some 69, .call 40 [(.t 68), (.c (.one (.p (.int .i64 0))))], none⟩,
    ⟨some 70, .call 38 [(.t 67), (.t 69)], none⟩,
    ⟨some 71, .mv (.t 70), none⟩,
    ⟨some 72, .mv (.t 7), some (71, true)⟩,
    ⟨some 73, .call 41 [(.t 72), (.c (.one (.p (.int .i64 0))))], some (71, true)⟩,
    ⟨some 74, .mv (.t 9), some (71, true)⟩,
    ⟨some 75, .call 24 [(.t 73), (.t 74)], some (71, true)⟩,
    ⟨some 76, .pick (.t 71) (.t 75) (.c (.one (.p (.bool false)))), none⟩,
    ⟨some 77, .mv (.t 76), none⟩,
    ⟨some 78, .mv (.t 7), some (77, true)⟩,
    ⟨some 79, .mv (.t 14), some (77, true)⟩,
    ⟨some 80, .call 41 [(.t 78), (.t 79)], some (77, true)⟩,
    ⟨some 81, .mv (.t 7), some (77, true)⟩,
    ⟨some 82, .mv (.t 14), some (77, true)⟩,
    ⟨some 83, .call 37 [(.t 81), (.t 82)], some (77, true)⟩,
    ⟨some 84, .call 24 [(.t 80), (.t 83)], some (77, true)⟩,
    ⟨some 85, .pick (.t 77) (.t 84) (.c (.one (.p (.bool false)))), none⟩,
    ⟨some 86, .mv (.t 85), none⟩,
    ⟨some 87, .mv (.t 7), some (86, true)⟩,
    ⟨some 88, .mv (.t 1), some (86, true)⟩,
    ⟨some 89, .call 42 [(.t 87), (.t 88)], some (86, true)⟩,
    ⟨some 90, .mv (.t 10), some (86, true)⟩,
    ⟨some 91, .bin 0 .eql (.t 89) (.t 90), some (86, true)⟩,
    ⟨some 92, .pick (.t 86) (.t 91) (.c (.one (.p (.bool false)))), none⟩,
    ⟨some 93, .mv (.t 92), none⟩,
    ⟨some 94, .mv (.t 7), some (93, true)⟩,
    ⟨some 95, .call 41 [(.t 94), (.c (.one (.p (.int .i64 77))))], some (93, true)⟩,
    ⟨some 96, .len false (.t 95), some (93, true)⟩,
    ⟨some 97, .bin 0 .eql (.t 96) (.c (.one (.p (.int .i64 0)))), some (93, true)⟩,
    ⟨some 98, .pick (.t 93) (.t 97) (.c (.one (.p (.bool false)))), none⟩,
    ⟨some 99, .mv (.t 98), none⟩,
    ⟨some 100, .mv (.t 9), some (99, true)⟩,
    ⟨some 101, .len false (.t 100), some (99, true)⟩,
    ⟨some 102, .mv (.t 8), some (99, true)⟩,
    ⟨some 103, .len false (.t 102), some (99, true)⟩,
    ⟨some 104, .bin 0 .eql (.t 101) (.t 103), some (99, true)⟩,
    ⟨some 105, .pick (.t 99) (.t 104) (.c (.one (.p (.bool false)))), none⟩,
    ⟨some 6, .mv (.t 105), none⟩] [6])
  .ret))))))))⟩
theorem m7 : mFn Try.prog d7 Try.f7 = true := by kernel_rfl
def law21_ShotTells.A (l_1 : (List law21_Op)) (slot_2 : Int) (id_3 : Int) : List Vv := [.one (.p (.sl 6 (l_1.map en_law21_Op))), .one (.p (.int .i64 slot_2)), .one (.p (.int .i64 id_3))]
def law21_ShotTells.S0 (l_1 : (List law21_Op)) (slot_2 : Int) (id_3 : Int) : Sto := []
def law21_ShotTells.R (l_1 : (List law21_Op)) (slot_2 : Int) (id_3 : Int) (r_0 : Bool) : Vv := .one (.p (.bool r_0))
def law21_ShotTells.S1 (l_1 : (List law21_Op)) (slot_2 : Int) (id_3 : Int) (r_0 : Bool) : Sto := []
def law21_ShotTells.rs : List Rv := d7.res
def law21_ShotTells.b : Sx := d7.body
def law21_ShotTells_l1 : Nat → Int → (List Int) → (List (Int × arena_Node)) → Int → Int → Option ((Int))
  | 0, _, _, _, _, _ => none
  | k + 1, slot_2993, order_2996, o1_3007, mount_2997, i_2998 => (if i_2998 ≥ 0 then ((idx order_2996 i_2998).bind fun x_3015 => ((arena_Arena_Get.f k x_3015 o1_3007).bind fun t_3016 => (if t_3016.1.Kind = 3 then (if t_3016.1.Slot = slot_2993 then ((idx order_2996 i_2998).bind fun x_3019 => (law21_ShotTells_l1 k slot_2993 order_2996 o1_3007 x_3019 (w64 (i_2998 - 1)))) else (law21_ShotTells_l1 k slot_2993 order_2996 o1_3007 mount_2997 (w64 (i_2998 - 1)))) else (law21_ShotTells_l1 k slot_2993 order_2996 o1_3007 mount_2997 (w64 (i_2998 - 1)))))) else (some mount_2997))
def law21_ShotTells_l1.S (k : Nat) : Prop := ∀ (slot_2993 : Int) (id_2994 : Int) (all_2995 : (List Int)) (order_2996 : (List Int)) (o0_2999 : Int) (o0_3000 : Int) (o0_3001 : Int) (o0_3002 : Int) (o0_3003 : Int) (o0_3004 : Int) (o0_3005 : Int) (o0_3006 : Int) (o1_3007 : (List (Int × arena_Node))) (mount_2997 : Int) (i_2998 : Int) (v : (Int)), law21_ShotTells_l1 k slot_2993 order_2996 o1_3007 mount_2997 i_2998 = some v → ∀ (res : Vv) (st : Sto), (∀ x_0, v = x_0 → RunE Try.prog ⟨0, law21_ShotTells.rs, res, st⟩ (koAfter law21_ShotTells.b [1, 1, 1, 1, 1, 0, 1]) [(1, .one (.p (.int .i64 slot_2993))), (2, .one (.p (.int .i64 id_2994))), (7, .one (.ptr 0 0)), (8, .one (.p (.sl 1 (all_2995.map en_i64)))), (9, .one (.p (.sl 1 (order_2996.map en_i64)))), (10, .one (.p (.int .i64 x_0)))] [.box [.mp 1, .p (.int .i64 o0_2999), .p (.int .i64 o0_3000), .p (.int .i64 o0_3001), .p (.int .i64 o0_3002), .p (.int .i64 o0_3003), .p (.int .i64 o0_3004), .p (.int .i64 o0_3005), .p (.int .i64 o0_3006)], .map (enE en_arena_Node o1_3007)]) → RunE Try.prog ⟨0, law21_ShotTells.rs, res, st⟩ (koLoop law21_ShotTells.b [1, 1, 1, 1, 1, 0, 1, 0]) [(1, .one (.p (.int .i64 slot_2993))), (2, .one (.p (.int .i64 id_2994))), (7, .one (.ptr 0 0)), (8, .one (.p (.sl 1 (all_2995.map en_i64)))), (9, .one (.p (.sl 1 (order_2996.map en_i64)))), (10, .one (.p (.int .i64 mount_2997))), (11, .one (.p (.int .i64 i_2998)))] [.box [.mp 1, .p (.int .i64 o0_2999), .p (.int .i64 o0_3000), .p (.int .i64 o0_3001), .p (.int .i64 o0_3002), .p (.int .i64 o0_3003), .p (.int .i64 o0_3004), .p (.int .i64 o0_3005), .p (.int .i64 o0_3006)], .map (enE en_arena_Node o1_3007)]
theorem law21_ShotTells_l1.z : law21_ShotTells_l1.S 0 := fun _ _ _ _ _ _ _ _ _ _ _ _ _ _ _ v h => none_some h
theorem law21_ShotTells_l1.step (k : Nat) (ih : law21_ShotTells_l1.S k) : law21_ShotTells_l1.S (k + 1) := by
  intro slot_2993 id_2994 all_2995 order_2996 o0_2999 o0_3000 o0_3001 o0_3002 o0_3003 o0_3004 o0_3005 o0_3006 o1_3007 mount_2997 i_2998 v h res st c0
  rw [law21_ShotTells_l1] at h
  rcases ite_some h with ⟨c_3014, h⟩ | ⟨c_3014, h⟩
  · obtain ⟨x_3015, hx_3015, h⟩ := bind_some h
    obtain ⟨t_3016, ht_3016, h⟩ := bind_some h
    rcases ite_some h with ⟨c_3017, h⟩ | ⟨c_3017, h⟩
    · refine pathE 532 [.b true, .c (en_i64 x_3015), .call [0, 1] (arena_Arena_Get.R x_3015 o0_2999 o0_3000 o0_3001 o0_3002 o0_3003 o0_3004 o0_3005 o0_3006 o1_3007 t_3016) (arena_Arena_Get.S1 x_3015 o0_2999 o0_3000 o0_3001 o0_3002 o0_3003 o0_3004 o0_3005 o0_3006 o1_3007 t_3016), .b true, .b true, .b true, .b true, .i 2, .gc [0, 1], .keep [1, 2, 7, 8, 9, 10, 11, 48], .stop] (ai (decide_eq_true c_3014) <| ai (idx_ob en_i64 hx_3015) <| ai (arena_Arena_Get.ok k x_3015 o0_2999 o0_3000 o0_3001 o0_3002 o0_3003 o0_3004 o0_3005 o0_3006 o1_3007 t_3016 ht_3016) <| ai (beq_iff_eq.2 c_3017) <| ai rT <| ai rT <| ai rT <| (?_ : RunE Try.prog ⟨0, law21_ShotTells.rs, res, st⟩ (koOf law21_ShotTells.b .done [1, 1, 1, 1, 1, 0, 1, 0, 0, 1, 0, 0, 1, 1]) [(1, .one (.p (.int .i64 slot_2993))), (2, .one (.p (.int .i64 id_2994))), (7, .one (.ptr 0 0)), (8, .one (.p (.sl 1 (all_2995.map en_i64)))), (9, .one (.p (.sl 1 (order_2996.map en_i64)))), (10, .one (.p (.int .i64 mount_2997))), (11, .one (.p (.int .i64 i_2998))), (48, .one (.p (.bool (t_3016.1.Slot == slot_2993))))] [.box [.mp 1, .p (.int .i64 o0_2999), .p (.int .i64 o0_3000), .p (.int .i64 o0_3001), .p (.int .i64 o0_3002), .p (.int .i64 o0_3003), .p (.int .i64 o0_3004), .p (.int .i64 o0_3005), .p (.int .i64 o0_3006)], .map (enE en_arena_Node o1_3007)])) (by kernel_rfl)
      rcases ite_some h with ⟨c_3018, h⟩ | ⟨c_3018, h⟩
      · obtain ⟨x_3019, hx_3019, h⟩ := bind_some h
        exact pathE 460 [.b true, .c (en_i64 x_3019), .i 9, .keep [1, 2, 7, 8, 9, 10, 11], .stop] (ai (beq_iff_eq.2 c_3018) <| ai (idx_ob en_i64 hx_3019) <| (ih slot_2993 id_2994 all_2995 order_2996 o0_2999 o0_3000 o0_3001 o0_3002 o0_3003 o0_3004 o0_3005 o0_3006 o1_3007 x_3019 (w64 (i_2998 - 1)) _ h res st c0)) (by kernel_rfl)
      · exact pathE 448 [.b false, .i 7, .keep [1, 2, 7, 8, 9, 10, 11], .stop] (ai (beq_eq_false_iff_ne.2 c_3018) <| (ih slot_2993 id_2994 all_2995 order_2996 o0_2999 o0_3000 o0_3001 o0_3002 o0_3003 o0_3004 o0_3005 o0_3006 o1_3007 mount_2997 (w64 (i_2998 - 1)) _ h res st c0)) (by kernel_rfl)
    · exact pathE 544 [.b true, .c (en_i64 x_3015), .call [0, 1] (arena_Arena_Get.R x_3015 o0_2999 o0_3000 o0_3001 o0_3002 o0_3003 o0_3004 o0_3005 o0_3006 o1_3007 t_3016) (arena_Arena_Get.S1 x_3015 o0_2999 o0_3000 o0_3001 o0_3002 o0_3003 o0_3004 o0_3005 o0_3006 o1_3007 t_3016), .b false, .b false, .b false, .b false, .b false, .i 7, .gc [0, 1], .keep [1, 2, 7, 8, 9, 10, 11], .stop] (ai (decide_eq_true c_3014) <| ai (idx_ob en_i64 hx_3015) <| ai (arena_Arena_Get.ok k x_3015 o0_2999 o0_3000 o0_3001 o0_3002 o0_3003 o0_3004 o0_3005 o0_3006 o1_3007 t_3016 ht_3016) <| ai (beq_eq_false_iff_ne.2 c_3017) <| ai rF <| ai rF <| ai rF <| ai rF <| (ih slot_2993 id_2994 all_2995 order_2996 o0_2999 o0_3000 o0_3001 o0_3002 o0_3003 o0_3004 o0_3005 o0_3006 o1_3007 mount_2997 (w64 (i_2998 - 1)) _ h res st c0)) (by kernel_rfl)
  · obtain rfl := Option.some.inj h
    exact pathE 448 [.b false, .i 1, .keep [1, 2, 7, 8, 9, 10], .stop] (ai (decide_eq_false c_3014) <| (c0 mount_2997 rfl)) (by kernel_rfl)
theorem law21_ShotTells_l1.ok : ∀ k, law21_ShotTells_l1.S k
  | 0 => law21_ShotTells_l1.z
  | k + 1 => law21_ShotTells_l1.step k (law21_ShotTells_l1.ok k)
def law21_ShotTells.f (k : Nat) (l_1 : (List law21_Op)) (slot_2 : Int) (id_3 : Int) : Option (Bool) := ((law21_alive.f k ).bind fun t_2969 => (if (!t_2969) = true then (some false) else ((law21_built.f k l_1).bind fun t_2971 => ((law21_ids.f k 0 t_2971.2.2.2.2.2.2.2.2.2).bind fun t_2972 => (Option.bind (law21_ShotTells_l1 k slot_2 t_2972 t_2971.2.2.2.2.2.2.2.2.2 0 (w64 ((t_2972.length : Int) - 1))) (fun v_3020 => (if (t_2971.1.length : Int) ≠ 0 then (if (t_2971.1.length : Int) ≠ 0 then ((idx t_2971.1 (Int.tmod (w64 ((Int.tmod id_3 (t_2971.1.length : Int)) + (t_2971.1.length : Int))) (t_2971.1.length : Int))).bind fun x_3023 => ((shot_Trees.f k t_2971.2.2.2.2.2.2.2.2.2).bind fun t_3024 => ((law21_trees.f k 0 t_2971.2.2.2.2.2.2.2.2.2).bind fun t_3025 => ((glazierplain_Trees.f k t_3024 t_3025).bind fun t_3026 => (if t_3026 = true then ((shot_Ids.f k 0 t_2971.2.2.2.2.2.2.2.2.2).bind fun t_3028 => ((glazierplain_Ints.f k t_3028 t_2972).bind fun t_3029 => (if t_3029 = true then ((shot_Ids.f k x_3023 t_2971.2.2.2.2.2.2.2.2.2).bind fun t_3031 => ((law21_ids.f k x_3023 t_2971.2.2.2.2.2.2.2.2.2).bind fun t_3032 => ((glazierplain_Ints.f k t_3031 t_3032).bind fun t_3033 => (if t_3033 = true then ((shot_Mount.f k slot_2 t_2971.2.2.2.2.2.2.2.2.2).bind fun t_3035 => (if t_3035 = v_3020 then ((shot_Ids.f k 77 t_2971.2.2.2.2.2.2.2.2.2).bind fun t_3037 => (if (t_3037.length : Int) = 0 then (some ((t_2972.length : Int) == (t_2971.1.length : Int))) else (some false))) else (some false))) else (some false))))) else (some false)))) else (some false)))))) else none) else none)))))))
theorem law21_ShotTells.run (k : Nat) (l_1 : (List law21_Op)) (slot_2 : Int) (id_3 : Int) (r : Bool) (h : law21_ShotTells.f k l_1 slot_2 id_3 = some r) (res : Vv) (st : Sto) (hr : (law21_ShotTells.R l_1 slot_2 id_3 r, law21_ShotTells.S1 l_1 slot_2 id_3 r) = (res, st)) : RunE Try.prog ⟨0, law21_ShotTells.rs, res, st⟩ (.st law21_ShotTells.b .done) (argE 0 (law21_ShotTells.A l_1 slot_2 id_3)) (law21_ShotTells.S0 l_1 slot_2 id_3) := by
  unfold law21_ShotTells.f at h
  obtain ⟨t_2969, ht_2969, h⟩ := bind_some h
  rcases ite_some h with ⟨c_2970, h⟩ | ⟨c_2970, h⟩
  · obtain rfl := Option.some.inj h
    exact pathE 448 [.call [] (law21_alive.R  t_2969) (law21_alive.S1  t_2969), .b true, .i 4, .fin []] (ai (law21_alive.ok k  t_2969 ht_2969) <| ai c_2970 <| hr) (by kernel_rfl)
  · obtain ⟨t_2971, ht_2971, h⟩ := bind_some h
    obtain ⟨t_2972, ht_2972, h⟩ := bind_some h
    obtain ⟨v_3020, hv_3020, h⟩ := bind_some h
    refine pathE 496 [.call [] (law21_alive.R  t_2969) (law21_alive.S1  t_2969), .b false, .call [] (law21_built.R l_1 t_2971) (law21_built.S1 l_1 t_2971), .call [0, 1] (law21_ids.R 0 t_2971.2.1 t_2971.2.2.1 t_2971.2.2.2.1 t_2971.2.2.2.2.1 t_2971.2.2.2.2.2.1 t_2971.2.2.2.2.2.2.1 t_2971.2.2.2.2.2.2.2.1 t_2971.2.2.2.2.2.2.2.2.1 t_2971.2.2.2.2.2.2.2.2.2 t_2972) (law21_ids.S1 0 t_2971.2.1 t_2971.2.2.1 t_2971.2.2.2.1 t_2971.2.2.2.2.1 t_2971.2.2.2.2.2.1 t_2971.2.2.2.2.2.2.1 t_2971.2.2.2.2.2.2.2.1 t_2971.2.2.2.2.2.2.2.2.1 t_2971.2.2.2.2.2.2.2.2.2 t_2972), .n t_2972.length, .i 5, .keep [1, 2, 7, 8, 9, 10, 11], .stop] (ai (law21_alive.ok k  t_2969 ht_2969) <| ai (bool_false c_2970) <| ai (law21_built.ok k l_1 t_2971 ht_2971) <| ai (law21_ids.ok k 0 t_2971.2.1 t_2971.2.2.1 t_2971.2.2.2.1 t_2971.2.2.2.2.1 t_2971.2.2.2.2.2.1 t_2971.2.2.2.2.2.2.1 t_2971.2.2.2.2.2.2.2.1 t_2971.2.2.2.2.2.2.2.2.1 t_2971.2.2.2.2.2.2.2.2.2 t_2972 ht_2972) <| ai (len_ob en_i64 t_2972) <| (law21_ShotTells_l1.ok k slot_2 id_3 t_2971.1 t_2972 t_2971.2.1 t_2971.2.2.1 t_2971.2.2.2.1 t_2971.2.2.2.2.1 t_2971.2.2.2.2.2.1 t_2971.2.2.2.2.2.2.1 t_2971.2.2.2.2.2.2.2.1 t_2971.2.2.2.2.2.2.2.2.1 t_2971.2.2.2.2.2.2.2.2.2 0 (w64 ((t_2972.length : Int) - 1)) v_3020 hv_3020 res st ?_)) (by kernel_rfl)
    · intro y hx
      subst hx
      obtain ⟨g_3021, h⟩ := guard_some h
      obtain ⟨g_3022, h⟩ := guard_some h
      obtain ⟨x_3023, hx_3023, h⟩ := bind_some h
      obtain ⟨t_3024, ht_3024, h⟩ := bind_some h
      obtain ⟨t_3025, ht_3025, h⟩ := bind_some h
      obtain ⟨t_3026, ht_3026, h⟩ := bind_some h
      rcases ite_some h with ⟨c_3027, h⟩ | ⟨c_3027, h⟩
      · obtain ⟨t_3028, ht_3028, h⟩ := bind_some h
        obtain ⟨t_3029, ht_3029, h⟩ := bind_some h
        rcases ite_some h with ⟨c_3030, h⟩ | ⟨c_3030, h⟩
        · obtain ⟨t_3031, ht_3031, h⟩ := bind_some h
          obtain ⟨t_3032, ht_3032, h⟩ := bind_some h
          obtain ⟨t_3033, ht_3033, h⟩ := bind_some h
          rcases ite_some h with ⟨c_3034, h⟩ | ⟨c_3034, h⟩
          · obtain ⟨t_3035, ht_3035, h⟩ := bind_some h
            rcases ite_some h with ⟨c_3036, h⟩ | ⟨c_3036, h⟩
            · obtain ⟨t_3037, ht_3037, h⟩ := bind_some h
              rcases ite_some h with ⟨c_3038, h⟩ | ⟨c_3038, h⟩
              · obtain rfl := Option.some.inj h
                exact pathE 928 [.n t_2971.1.length, .n t_2971.1.length, .n t_2971.1.length, .c (en_i64 x_3023), .call [0, 1] (shot_Trees.R t_2971.2.1 t_2971.2.2.1 t_2971.2.2.2.1 t_2971.2.2.2.2.1 t_2971.2.2.2.2.2.1 t_2971.2.2.2.2.2.2.1 t_2971.2.2.2.2.2.2.2.1 t_2971.2.2.2.2.2.2.2.2.1 t_2971.2.2.2.2.2.2.2.2.2 t_3024) (shot_Trees.S1 t_2971.2.1 t_2971.2.2.1 t_2971.2.2.2.1 t_2971.2.2.2.2.1 t_2971.2.2.2.2.2.1 t_2971.2.2.2.2.2.2.1 t_2971.2.2.2.2.2.2.2.1 t_2971.2.2.2.2.2.2.2.2.1 t_2971.2.2.2.2.2.2.2.2.2 t_3024), .call [0, 1] (law21_trees.R 0 t_2971.2.1 t_2971.2.2.1 t_2971.2.2.2.1 t_2971.2.2.2.2.1 t_2971.2.2.2.2.2.1 t_2971.2.2.2.2.2.2.1 t_2971.2.2.2.2.2.2.2.1 t_2971.2.2.2.2.2.2.2.2.1 t_2971.2.2.2.2.2.2.2.2.2 t_3025) (law21_trees.S1 0 t_2971.2.1 t_2971.2.2.1 t_2971.2.2.2.1 t_2971.2.2.2.2.1 t_2971.2.2.2.2.2.1 t_2971.2.2.2.2.2.2.1 t_2971.2.2.2.2.2.2.2.1 t_2971.2.2.2.2.2.2.2.2.1 t_2971.2.2.2.2.2.2.2.2.2 t_3025), .call [] (glazierplain_Trees.R t_3024 t_3025 t_3026) (glazierplain_Trees.S1 t_3024 t_3025 t_3026), .b true, .b true, .call [0, 1] (shot_Ids.R 0 t_2971.2.1 t_2971.2.2.1 t_2971.2.2.2.1 t_2971.2.2.2.2.1 t_2971.2.2.2.2.2.1 t_2971.2.2.2.2.2.2.1 t_2971.2.2.2.2.2.2.2.1 t_2971.2.2.2.2.2.2.2.2.1 t_2971.2.2.2.2.2.2.2.2.2 t_3028) (shot_Ids.S1 0 t_2971.2.1 t_2971.2.2.1 t_2971.2.2.2.1 t_2971.2.2.2.2.1 t_2971.2.2.2.2.2.1 t_2971.2.2.2.2.2.2.1 t_2971.2.2.2.2.2.2.2.1 t_2971.2.2.2.2.2.2.2.2.1 t_2971.2.2.2.2.2.2.2.2.2 t_3028), .b true, .b true, .call [] (glazierplain_Ints.R t_3028 t_2972 t_3029) (glazierplain_Ints.S1 t_3028 t_2972 t_3029), .b true, .b true, .b true, .call [0, 1] (shot_Ids.R x_3023 t_2971.2.1 t_2971.2.2.1 t_2971.2.2.2.1 t_2971.2.2.2.2.1 t_2971.2.2.2.2.2.1 t_2971.2.2.2.2.2.2.1 t_2971.2.2.2.2.2.2.2.1 t_2971.2.2.2.2.2.2.2.2.1 t_2971.2.2.2.2.2.2.2.2.2 t_3031) (shot_Ids.S1 x_3023 t_2971.2.1 t_2971.2.2.1 t_2971.2.2.2.1 t_2971.2.2.2.2.1 t_2971.2.2.2.2.2.1 t_2971.2.2.2.2.2.2.1 t_2971.2.2.2.2.2.2.2.1 t_2971.2.2.2.2.2.2.2.2.1 t_2971.2.2.2.2.2.2.2.2.2 t_3031), .b true, .b true, .b true, .call [0, 1] (law21_ids.R x_3023 t_2971.2.1 t_2971.2.2.1 t_2971.2.2.2.1 t_2971.2.2.2.2.1 t_2971.2.2.2.2.2.1 t_2971.2.2.2.2.2.2.1 t_2971.2.2.2.2.2.2.2.1 t_2971.2.2.2.2.2.2.2.2.1 t_2971.2.2.2.2.2.2.2.2.2 t_3032) (law21_ids.S1 x_3023 t_2971.2.1 t_2971.2.2.1 t_2971.2.2.2.1 t_2971.2.2.2.2.1 t_2971.2.2.2.2.2.1 t_2971.2.2.2.2.2.2.1 t_2971.2.2.2.2.2.2.2.1 t_2971.2.2.2.2.2.2.2.2.1 t_2971.2.2.2.2.2.2.2.2.2 t_3032), .b true, .call [] (glazierplain_Ints.R t_3031 t_3032 t_3033) (glazierplain_Ints.S1 t_3031 t_3032 t_3033), .b true, .b true, .b true, .call [0, 1] (shot_Mount.R slot_2 t_2971.2.1 t_2971.2.2.1 t_2971.2.2.2.1 t_2971.2.2.2.2.1 t_2971.2.2.2.2.2.1 t_2971.2.2.2.2.2.2.1 t_2971.2.2.2.2.2.2.2.1 t_2971.2.2.2.2.2.2.2.2.1 t_2971.2.2.2.2.2.2.2.2.2 t_3035) (shot_Mount.S1 slot_2 t_2971.2.1 t_2971.2.2.1 t_2971.2.2.2.1 t_2971.2.2.2.2.1 t_2971.2.2.2.2.2.1 t_2971.2.2.2.2.2.2.1 t_2971.2.2.2.2.2.2.2.1 t_2971.2.2.2.2.2.2.2.2.1 t_2971.2.2.2.2.2.2.2.2.2 t_3035), .b true, .b true, .b true, .b true, .call [0, 1] (shot_Ids.R 77 t_2971.2.1 t_2971.2.2.1 t_2971.2.2.2.1 t_2971.2.2.2.2.1 t_2971.2.2.2.2.2.1 t_2971.2.2.2.2.2.2.1 t_2971.2.2.2.2.2.2.2.1 t_2971.2.2.2.2.2.2.2.2.1 t_2971.2.2.2.2.2.2.2.2.2 t_3037) (shot_Ids.S1 77 t_2971.2.1 t_2971.2.2.1 t_2971.2.2.2.1 t_2971.2.2.2.2.1 t_2971.2.2.2.2.2.1 t_2971.2.2.2.2.2.2.1 t_2971.2.2.2.2.2.2.2.1 t_2971.2.2.2.2.2.2.2.2.1 t_2971.2.2.2.2.2.2.2.2.2 t_3037), .b true, .n t_3037.length, .b true, .b true, .b true, .n t_2972.length, .b true, .b true, .n t_2971.1.length, .b true, .i 3, .fin []] (ai (len_ob en_i64 t_2971.1) <| ai g_3021 <| ai (len_ob en_i64 t_2971.1) <| ai (len_ob en_i64 t_2971.1) <| ai g_3022 <| ai (idx_ob en_i64 hx_3023) <| ai (shot_Trees.ok k t_2971.2.1 t_2971.2.2.1 t_2971.2.2.2.1 t_2971.2.2.2.2.1 t_2971.2.2.2.2.2.1 t_2971.2.2.2.2.2.2.1 t_2971.2.2.2.2.2.2.2.1 t_2971.2.2.2.2.2.2.2.2.1 t_2971.2.2.2.2.2.2.2.2.2 t_3024 ht_3024) <| ai (law21_trees.ok k 0 t_2971.2.1 t_2971.2.2.1 t_2971.2.2.2.1 t_2971.2.2.2.2.1 t_2971.2.2.2.2.2.1 t_2971.2.2.2.2.2.2.1 t_2971.2.2.2.2.2.2.2.1 t_2971.2.2.2.2.2.2.2.2.1 t_2971.2.2.2.2.2.2.2.2.2 t_3025 ht_3025) <| ai (glazierplain_Trees.ok k t_3024 t_3025 t_3026 ht_3026) <| ai c_3027 <| ai rT <| ai (shot_Ids.ok k 0 t_2971.2.1 t_2971.2.2.1 t_2971.2.2.2.1 t_2971.2.2.2.2.1 t_2971.2.2.2.2.2.1 t_2971.2.2.2.2.2.2.1 t_2971.2.2.2.2.2.2.2.1 t_2971.2.2.2.2.2.2.2.2.1 t_2971.2.2.2.2.2.2.2.2.2 t_3028 ht_3028) <| ai rT <| ai rT <| ai (glazierplain_Ints.ok k t_3028 t_2972 t_3029 ht_3029) <| ai c_3030 <| ai rT <| ai rT <| ai (shot_Ids.ok k x_3023 t_2971.2.1 t_2971.2.2.1 t_2971.2.2.2.1 t_2971.2.2.2.2.1 t_2971.2.2.2.2.2.1 t_2971.2.2.2.2.2.2.1 t_2971.2.2.2.2.2.2.2.1 t_2971.2.2.2.2.2.2.2.2.1 t_2971.2.2.2.2.2.2.2.2.2 t_3031 ht_3031) <| ai rT <| ai rT <| ai rT <| ai (law21_ids.ok k x_3023 t_2971.2.1 t_2971.2.2.1 t_2971.2.2.2.1 t_2971.2.2.2.2.1 t_2971.2.2.2.2.2.1 t_2971.2.2.2.2.2.2.1 t_2971.2.2.2.2.2.2.2.1 t_2971.2.2.2.2.2.2.2.2.1 t_2971.2.2.2.2.2.2.2.2.2 t_3032 ht_3032) <| ai rT <| ai (glazierplain_Ints.ok k t_3031 t_3032 t_3033 ht_3033) <| ai c_3034 <| ai rT <| ai rT <| ai (shot_Mount.ok k slot_2 t_2971.2.1 t_2971.2.2.1 t_2971.2.2.2.1 t_2971.2.2.2.2.1 t_2971.2.2.2.2.2.1 t_2971.2.2.2.2.2.2.1 t_2971.2.2.2.2.2.2.2.1 t_2971.2.2.2.2.2.2.2.2.1 t_2971.2.2.2.2.2.2.2.2.2 t_3035 ht_3035) <| ai rT <| ai rT <| ai (beq_iff_eq.2 c_3036) <| ai rT <| ai (shot_Ids.ok k 77 t_2971.2.1 t_2971.2.2.1 t_2971.2.2.2.1 t_2971.2.2.2.2.1 t_2971.2.2.2.2.2.1 t_2971.2.2.2.2.2.2.1 t_2971.2.2.2.2.2.2.2.1 t_2971.2.2.2.2.2.2.2.2.1 t_2971.2.2.2.2.2.2.2.2.2 t_3037 ht_3037) <| ai rT <| ai (len_ob en_i64 t_3037) <| ai rT <| ai (beq_iff_eq.2 c_3038) <| ai rT <| ai (len_ob en_i64 t_2972) <| ai rT <| ai rT <| ai (len_ob en_i64 t_2971.1) <| ai rT <| hr) (by kernel_rfl)
              · obtain rfl := Option.some.inj h
                exact pathE 904 [.n t_2971.1.length, .n t_2971.1.length, .n t_2971.1.length, .c (en_i64 x_3023), .call [0, 1] (shot_Trees.R t_2971.2.1 t_2971.2.2.1 t_2971.2.2.2.1 t_2971.2.2.2.2.1 t_2971.2.2.2.2.2.1 t_2971.2.2.2.2.2.2.1 t_2971.2.2.2.2.2.2.2.1 t_2971.2.2.2.2.2.2.2.2.1 t_2971.2.2.2.2.2.2.2.2.2 t_3024) (shot_Trees.S1 t_2971.2.1 t_2971.2.2.1 t_2971.2.2.2.1 t_2971.2.2.2.2.1 t_2971.2.2.2.2.2.1 t_2971.2.2.2.2.2.2.1 t_2971.2.2.2.2.2.2.2.1 t_2971.2.2.2.2.2.2.2.2.1 t_2971.2.2.2.2.2.2.2.2.2 t_3024), .call [0, 1] (law21_trees.R 0 t_2971.2.1 t_2971.2.2.1 t_2971.2.2.2.1 t_2971.2.2.2.2.1 t_2971.2.2.2.2.2.1 t_2971.2.2.2.2.2.2.1 t_2971.2.2.2.2.2.2.2.1 t_2971.2.2.2.2.2.2.2.2.1 t_2971.2.2.2.2.2.2.2.2.2 t_3025) (law21_trees.S1 0 t_2971.2.1 t_2971.2.2.1 t_2971.2.2.2.1 t_2971.2.2.2.2.1 t_2971.2.2.2.2.2.1 t_2971.2.2.2.2.2.2.1 t_2971.2.2.2.2.2.2.2.1 t_2971.2.2.2.2.2.2.2.2.1 t_2971.2.2.2.2.2.2.2.2.2 t_3025), .call [] (glazierplain_Trees.R t_3024 t_3025 t_3026) (glazierplain_Trees.S1 t_3024 t_3025 t_3026), .b true, .b true, .call [0, 1] (shot_Ids.R 0 t_2971.2.1 t_2971.2.2.1 t_2971.2.2.2.1 t_2971.2.2.2.2.1 t_2971.2.2.2.2.2.1 t_2971.2.2.2.2.2.2.1 t_2971.2.2.2.2.2.2.2.1 t_2971.2.2.2.2.2.2.2.2.1 t_2971.2.2.2.2.2.2.2.2.2 t_3028) (shot_Ids.S1 0 t_2971.2.1 t_2971.2.2.1 t_2971.2.2.2.1 t_2971.2.2.2.2.1 t_2971.2.2.2.2.2.1 t_2971.2.2.2.2.2.2.1 t_2971.2.2.2.2.2.2.2.1 t_2971.2.2.2.2.2.2.2.2.1 t_2971.2.2.2.2.2.2.2.2.2 t_3028), .b true, .b true, .call [] (glazierplain_Ints.R t_3028 t_2972 t_3029) (glazierplain_Ints.S1 t_3028 t_2972 t_3029), .b true, .b true, .b true, .call [0, 1] (shot_Ids.R x_3023 t_2971.2.1 t_2971.2.2.1 t_2971.2.2.2.1 t_2971.2.2.2.2.1 t_2971.2.2.2.2.2.1 t_2971.2.2.2.2.2.2.1 t_2971.2.2.2.2.2.2.2.1 t_2971.2.2.2.2.2.2.2.2.1 t_2971.2.2.2.2.2.2.2.2.2 t_3031) (shot_Ids.S1 x_3023 t_2971.2.1 t_2971.2.2.1 t_2971.2.2.2.1 t_2971.2.2.2.2.1 t_2971.2.2.2.2.2.1 t_2971.2.2.2.2.2.2.1 t_2971.2.2.2.2.2.2.2.1 t_2971.2.2.2.2.2.2.2.2.1 t_2971.2.2.2.2.2.2.2.2.2 t_3031), .b true, .b true, .b true, .call [0, 1] (law21_ids.R x_3023 t_2971.2.1 t_2971.2.2.1 t_2971.2.2.2.1 t_2971.2.2.2.2.1 t_2971.2.2.2.2.2.1 t_2971.2.2.2.2.2.2.1 t_2971.2.2.2.2.2.2.2.1 t_2971.2.2.2.2.2.2.2.2.1 t_2971.2.2.2.2.2.2.2.2.2 t_3032) (law21_ids.S1 x_3023 t_2971.2.1 t_2971.2.2.1 t_2971.2.2.2.1 t_2971.2.2.2.2.1 t_2971.2.2.2.2.2.1 t_2971.2.2.2.2.2.2.1 t_2971.2.2.2.2.2.2.2.1 t_2971.2.2.2.2.2.2.2.2.1 t_2971.2.2.2.2.2.2.2.2.2 t_3032), .b true, .call [] (glazierplain_Ints.R t_3031 t_3032 t_3033) (glazierplain_Ints.S1 t_3031 t_3032 t_3033), .b true, .b true, .b true, .call [0, 1] (shot_Mount.R slot_2 t_2971.2.1 t_2971.2.2.1 t_2971.2.2.2.1 t_2971.2.2.2.2.1 t_2971.2.2.2.2.2.1 t_2971.2.2.2.2.2.2.1 t_2971.2.2.2.2.2.2.2.1 t_2971.2.2.2.2.2.2.2.2.1 t_2971.2.2.2.2.2.2.2.2.2 t_3035) (shot_Mount.S1 slot_2 t_2971.2.1 t_2971.2.2.1 t_2971.2.2.2.1 t_2971.2.2.2.2.1 t_2971.2.2.2.2.2.1 t_2971.2.2.2.2.2.2.1 t_2971.2.2.2.2.2.2.2.1 t_2971.2.2.2.2.2.2.2.2.1 t_2971.2.2.2.2.2.2.2.2.2 t_3035), .b true, .b true, .b true, .b true, .call [0, 1] (shot_Ids.R 77 t_2971.2.1 t_2971.2.2.1 t_2971.2.2.2.1 t_2971.2.2.2.2.1 t_2971.2.2.2.2.2.1 t_2971.2.2.2.2.2.2.1 t_2971.2.2.2.2.2.2.2.1 t_2971.2.2.2.2.2.2.2.2.1 t_2971.2.2.2.2.2.2.2.2.2 t_3037) (shot_Ids.S1 77 t_2971.2.1 t_2971.2.2.1 t_2971.2.2.2.1 t_2971.2.2.2.2.1 t_2971.2.2.2.2.2.1 t_2971.2.2.2.2.2.2.1 t_2971.2.2.2.2.2.2.2.1 t_2971.2.2.2.2.2.2.2.2.1 t_2971.2.2.2.2.2.2.2.2.2 t_3037), .b true, .n t_3037.length, .b true, .b false, .b false, .b false, .b false, .b false, .i 3, .fin []] (ai (len_ob en_i64 t_2971.1) <| ai g_3021 <| ai (len_ob en_i64 t_2971.1) <| ai (len_ob en_i64 t_2971.1) <| ai g_3022 <| ai (idx_ob en_i64 hx_3023) <| ai (shot_Trees.ok k t_2971.2.1 t_2971.2.2.1 t_2971.2.2.2.1 t_2971.2.2.2.2.1 t_2971.2.2.2.2.2.1 t_2971.2.2.2.2.2.2.1 t_2971.2.2.2.2.2.2.2.1 t_2971.2.2.2.2.2.2.2.2.1 t_2971.2.2.2.2.2.2.2.2.2 t_3024 ht_3024) <| ai (law21_trees.ok k 0 t_2971.2.1 t_2971.2.2.1 t_2971.2.2.2.1 t_2971.2.2.2.2.1 t_2971.2.2.2.2.2.1 t_2971.2.2.2.2.2.2.1 t_2971.2.2.2.2.2.2.2.1 t_2971.2.2.2.2.2.2.2.2.1 t_2971.2.2.2.2.2.2.2.2.2 t_3025 ht_3025) <| ai (glazierplain_Trees.ok k t_3024 t_3025 t_3026 ht_3026) <| ai c_3027 <| ai rT <| ai (shot_Ids.ok k 0 t_2971.2.1 t_2971.2.2.1 t_2971.2.2.2.1 t_2971.2.2.2.2.1 t_2971.2.2.2.2.2.1 t_2971.2.2.2.2.2.2.1 t_2971.2.2.2.2.2.2.2.1 t_2971.2.2.2.2.2.2.2.2.1 t_2971.2.2.2.2.2.2.2.2.2 t_3028 ht_3028) <| ai rT <| ai rT <| ai (glazierplain_Ints.ok k t_3028 t_2972 t_3029 ht_3029) <| ai c_3030 <| ai rT <| ai rT <| ai (shot_Ids.ok k x_3023 t_2971.2.1 t_2971.2.2.1 t_2971.2.2.2.1 t_2971.2.2.2.2.1 t_2971.2.2.2.2.2.1 t_2971.2.2.2.2.2.2.1 t_2971.2.2.2.2.2.2.2.1 t_2971.2.2.2.2.2.2.2.2.1 t_2971.2.2.2.2.2.2.2.2.2 t_3031 ht_3031) <| ai rT <| ai rT <| ai rT <| ai (law21_ids.ok k x_3023 t_2971.2.1 t_2971.2.2.1 t_2971.2.2.2.1 t_2971.2.2.2.2.1 t_2971.2.2.2.2.2.1 t_2971.2.2.2.2.2.2.1 t_2971.2.2.2.2.2.2.2.1 t_2971.2.2.2.2.2.2.2.2.1 t_2971.2.2.2.2.2.2.2.2.2 t_3032 ht_3032) <| ai rT <| ai (glazierplain_Ints.ok k t_3031 t_3032 t_3033 ht_3033) <| ai c_3034 <| ai rT <| ai rT <| ai (shot_Mount.ok k slot_2 t_2971.2.1 t_2971.2.2.1 t_2971.2.2.2.1 t_2971.2.2.2.2.1 t_2971.2.2.2.2.2.1 t_2971.2.2.2.2.2.2.1 t_2971.2.2.2.2.2.2.2.1 t_2971.2.2.2.2.2.2.2.2.1 t_2971.2.2.2.2.2.2.2.2.2 t_3035 ht_3035) <| ai rT <| ai rT <| ai (beq_iff_eq.2 c_3036) <| ai rT <| ai (shot_Ids.ok k 77 t_2971.2.1 t_2971.2.2.1 t_2971.2.2.2.1 t_2971.2.2.2.2.1 t_2971.2.2.2.2.2.1 t_2971.2.2.2.2.2.2.1 t_2971.2.2.2.2.2.2.2.1 t_2971.2.2.2.2.2.2.2.2.1 t_2971.2.2.2.2.2.2.2.2.2 t_3037 ht_3037) <| ai rT <| ai (len_ob en_i64 t_3037) <| ai rT <| ai (beq_eq_false_iff_ne.2 c_3038) <| ai rF <| ai rF <| ai rF <| ai rF <| hr) (by kernel_rfl)
            · obtain rfl := Option.some.inj h
              exact pathE 880 [.n t_2971.1.length, .n t_2971.1.length, .n t_2971.1.length, .c (en_i64 x_3023), .call [0, 1] (shot_Trees.R t_2971.2.1 t_2971.2.2.1 t_2971.2.2.2.1 t_2971.2.2.2.2.1 t_2971.2.2.2.2.2.1 t_2971.2.2.2.2.2.2.1 t_2971.2.2.2.2.2.2.2.1 t_2971.2.2.2.2.2.2.2.2.1 t_2971.2.2.2.2.2.2.2.2.2 t_3024) (shot_Trees.S1 t_2971.2.1 t_2971.2.2.1 t_2971.2.2.2.1 t_2971.2.2.2.2.1 t_2971.2.2.2.2.2.1 t_2971.2.2.2.2.2.2.1 t_2971.2.2.2.2.2.2.2.1 t_2971.2.2.2.2.2.2.2.2.1 t_2971.2.2.2.2.2.2.2.2.2 t_3024), .call [0, 1] (law21_trees.R 0 t_2971.2.1 t_2971.2.2.1 t_2971.2.2.2.1 t_2971.2.2.2.2.1 t_2971.2.2.2.2.2.1 t_2971.2.2.2.2.2.2.1 t_2971.2.2.2.2.2.2.2.1 t_2971.2.2.2.2.2.2.2.2.1 t_2971.2.2.2.2.2.2.2.2.2 t_3025) (law21_trees.S1 0 t_2971.2.1 t_2971.2.2.1 t_2971.2.2.2.1 t_2971.2.2.2.2.1 t_2971.2.2.2.2.2.1 t_2971.2.2.2.2.2.2.1 t_2971.2.2.2.2.2.2.2.1 t_2971.2.2.2.2.2.2.2.2.1 t_2971.2.2.2.2.2.2.2.2.2 t_3025), .call [] (glazierplain_Trees.R t_3024 t_3025 t_3026) (glazierplain_Trees.S1 t_3024 t_3025 t_3026), .b true, .b true, .call [0, 1] (shot_Ids.R 0 t_2971.2.1 t_2971.2.2.1 t_2971.2.2.2.1 t_2971.2.2.2.2.1 t_2971.2.2.2.2.2.1 t_2971.2.2.2.2.2.2.1 t_2971.2.2.2.2.2.2.2.1 t_2971.2.2.2.2.2.2.2.2.1 t_2971.2.2.2.2.2.2.2.2.2 t_3028) (shot_Ids.S1 0 t_2971.2.1 t_2971.2.2.1 t_2971.2.2.2.1 t_2971.2.2.2.2.1 t_2971.2.2.2.2.2.1 t_2971.2.2.2.2.2.2.1 t_2971.2.2.2.2.2.2.2.1 t_2971.2.2.2.2.2.2.2.2.1 t_2971.2.2.2.2.2.2.2.2.2 t_3028), .b true, .b true, .call [] (glazierplain_Ints.R t_3028 t_2972 t_3029) (glazierplain_Ints.S1 t_3028 t_2972 t_3029), .b true, .b true, .b true, .call [0, 1] (shot_Ids.R x_3023 t_2971.2.1 t_2971.2.2.1 t_2971.2.2.2.1 t_2971.2.2.2.2.1 t_2971.2.2.2.2.2.1 t_2971.2.2.2.2.2.2.1 t_2971.2.2.2.2.2.2.2.1 t_2971.2.2.2.2.2.2.2.2.1 t_2971.2.2.2.2.2.2.2.2.2 t_3031) (shot_Ids.S1 x_3023 t_2971.2.1 t_2971.2.2.1 t_2971.2.2.2.1 t_2971.2.2.2.2.1 t_2971.2.2.2.2.2.1 t_2971.2.2.2.2.2.2.1 t_2971.2.2.2.2.2.2.2.1 t_2971.2.2.2.2.2.2.2.2.1 t_2971.2.2.2.2.2.2.2.2.2 t_3031), .b true, .b true, .b true, .call [0, 1] (law21_ids.R x_3023 t_2971.2.1 t_2971.2.2.1 t_2971.2.2.2.1 t_2971.2.2.2.2.1 t_2971.2.2.2.2.2.1 t_2971.2.2.2.2.2.2.1 t_2971.2.2.2.2.2.2.2.1 t_2971.2.2.2.2.2.2.2.2.1 t_2971.2.2.2.2.2.2.2.2.2 t_3032) (law21_ids.S1 x_3023 t_2971.2.1 t_2971.2.2.1 t_2971.2.2.2.1 t_2971.2.2.2.2.1 t_2971.2.2.2.2.2.1 t_2971.2.2.2.2.2.2.1 t_2971.2.2.2.2.2.2.2.1 t_2971.2.2.2.2.2.2.2.2.1 t_2971.2.2.2.2.2.2.2.2.2 t_3032), .b true, .call [] (glazierplain_Ints.R t_3031 t_3032 t_3033) (glazierplain_Ints.S1 t_3031 t_3032 t_3033), .b true, .b true, .b true, .call [0, 1] (shot_Mount.R slot_2 t_2971.2.1 t_2971.2.2.1 t_2971.2.2.2.1 t_2971.2.2.2.2.1 t_2971.2.2.2.2.2.1 t_2971.2.2.2.2.2.2.1 t_2971.2.2.2.2.2.2.2.1 t_2971.2.2.2.2.2.2.2.2.1 t_2971.2.2.2.2.2.2.2.2.2 t_3035) (shot_Mount.S1 slot_2 t_2971.2.1 t_2971.2.2.1 t_2971.2.2.2.1 t_2971.2.2.2.2.1 t_2971.2.2.2.2.2.1 t_2971.2.2.2.2.2.2.1 t_2971.2.2.2.2.2.2.2.1 t_2971.2.2.2.2.2.2.2.2.1 t_2971.2.2.2.2.2.2.2.2.2 t_3035), .b true, .b true, .b false, .b false, .b false, .b false, .b false, .b false, .b false, .b false, .b false, .i 3, .fin []] (ai (len_ob en_i64 t_2971.1) <| ai g_3021 <| ai (len_ob en_i64 t_2971.1) <| ai (len_ob en_i64 t_2971.1) <| ai g_3022 <| ai (idx_ob en_i64 hx_3023) <| ai (shot_Trees.ok k t_2971.2.1 t_2971.2.2.1 t_2971.2.2.2.1 t_2971.2.2.2.2.1 t_2971.2.2.2.2.2.1 t_2971.2.2.2.2.2.2.1 t_2971.2.2.2.2.2.2.2.1 t_2971.2.2.2.2.2.2.2.2.1 t_2971.2.2.2.2.2.2.2.2.2 t_3024 ht_3024) <| ai (law21_trees.ok k 0 t_2971.2.1 t_2971.2.2.1 t_2971.2.2.2.1 t_2971.2.2.2.2.1 t_2971.2.2.2.2.2.1 t_2971.2.2.2.2.2.2.1 t_2971.2.2.2.2.2.2.2.1 t_2971.2.2.2.2.2.2.2.2.1 t_2971.2.2.2.2.2.2.2.2.2 t_3025 ht_3025) <| ai (glazierplain_Trees.ok k t_3024 t_3025 t_3026 ht_3026) <| ai c_3027 <| ai rT <| ai (shot_Ids.ok k 0 t_2971.2.1 t_2971.2.2.1 t_2971.2.2.2.1 t_2971.2.2.2.2.1 t_2971.2.2.2.2.2.1 t_2971.2.2.2.2.2.2.1 t_2971.2.2.2.2.2.2.2.1 t_2971.2.2.2.2.2.2.2.2.1 t_2971.2.2.2.2.2.2.2.2.2 t_3028 ht_3028) <| ai rT <| ai rT <| ai (glazierplain_Ints.ok k t_3028 t_2972 t_3029 ht_3029) <| ai c_3030 <| ai rT <| ai rT <| ai (shot_Ids.ok k x_3023 t_2971.2.1 t_2971.2.2.1 t_2971.2.2.2.1 t_2971.2.2.2.2.1 t_2971.2.2.2.2.2.1 t_2971.2.2.2.2.2.2.1 t_2971.2.2.2.2.2.2.2.1 t_2971.2.2.2.2.2.2.2.2.1 t_2971.2.2.2.2.2.2.2.2.2 t_3031 ht_3031) <| ai rT <| ai rT <| ai rT <| ai (law21_ids.ok k x_3023 t_2971.2.1 t_2971.2.2.1 t_2971.2.2.2.1 t_2971.2.2.2.2.1 t_2971.2.2.2.2.2.1 t_2971.2.2.2.2.2.2.1 t_2971.2.2.2.2.2.2.2.1 t_2971.2.2.2.2.2.2.2.2.1 t_2971.2.2.2.2.2.2.2.2.2 t_3032 ht_3032) <| ai rT <| ai (glazierplain_Ints.ok k t_3031 t_3032 t_3033 ht_3033) <| ai c_3034 <| ai rT <| ai rT <| ai (shot_Mount.ok k slot_2 t_2971.2.1 t_2971.2.2.1 t_2971.2.2.2.1 t_2971.2.2.2.2.1 t_2971.2.2.2.2.2.1 t_2971.2.2.2.2.2.2.1 t_2971.2.2.2.2.2.2.2.1 t_2971.2.2.2.2.2.2.2.2.1 t_2971.2.2.2.2.2.2.2.2.2 t_3035 ht_3035) <| ai rT <| ai rT <| ai (beq_eq_false_iff_ne.2 c_3036) <| ai rF <| ai rF <| ai rF <| ai rF <| ai rF <| ai rF <| ai rF <| ai rF <| hr) (by kernel_rfl)
          · obtain rfl := Option.some.inj h
            exact pathE 868 [.n t_2971.1.length, .n t_2971.1.length, .n t_2971.1.length, .c (en_i64 x_3023), .call [0, 1] (shot_Trees.R t_2971.2.1 t_2971.2.2.1 t_2971.2.2.2.1 t_2971.2.2.2.2.1 t_2971.2.2.2.2.2.1 t_2971.2.2.2.2.2.2.1 t_2971.2.2.2.2.2.2.2.1 t_2971.2.2.2.2.2.2.2.2.1 t_2971.2.2.2.2.2.2.2.2.2 t_3024) (shot_Trees.S1 t_2971.2.1 t_2971.2.2.1 t_2971.2.2.2.1 t_2971.2.2.2.2.1 t_2971.2.2.2.2.2.1 t_2971.2.2.2.2.2.2.1 t_2971.2.2.2.2.2.2.2.1 t_2971.2.2.2.2.2.2.2.2.1 t_2971.2.2.2.2.2.2.2.2.2 t_3024), .call [0, 1] (law21_trees.R 0 t_2971.2.1 t_2971.2.2.1 t_2971.2.2.2.1 t_2971.2.2.2.2.1 t_2971.2.2.2.2.2.1 t_2971.2.2.2.2.2.2.1 t_2971.2.2.2.2.2.2.2.1 t_2971.2.2.2.2.2.2.2.2.1 t_2971.2.2.2.2.2.2.2.2.2 t_3025) (law21_trees.S1 0 t_2971.2.1 t_2971.2.2.1 t_2971.2.2.2.1 t_2971.2.2.2.2.1 t_2971.2.2.2.2.2.1 t_2971.2.2.2.2.2.2.1 t_2971.2.2.2.2.2.2.2.1 t_2971.2.2.2.2.2.2.2.2.1 t_2971.2.2.2.2.2.2.2.2.2 t_3025), .call [] (glazierplain_Trees.R t_3024 t_3025 t_3026) (glazierplain_Trees.S1 t_3024 t_3025 t_3026), .b true, .b true, .call [0, 1] (shot_Ids.R 0 t_2971.2.1 t_2971.2.2.1 t_2971.2.2.2.1 t_2971.2.2.2.2.1 t_2971.2.2.2.2.2.1 t_2971.2.2.2.2.2.2.1 t_2971.2.2.2.2.2.2.2.1 t_2971.2.2.2.2.2.2.2.2.1 t_2971.2.2.2.2.2.2.2.2.2 t_3028) (shot_Ids.S1 0 t_2971.2.1 t_2971.2.2.1 t_2971.2.2.2.1 t_2971.2.2.2.2.1 t_2971.2.2.2.2.2.1 t_2971.2.2.2.2.2.2.1 t_2971.2.2.2.2.2.2.2.1 t_2971.2.2.2.2.2.2.2.2.1 t_2971.2.2.2.2.2.2.2.2.2 t_3028), .b true, .b true, .call [] (glazierplain_Ints.R t_3028 t_2972 t_3029) (glazierplain_Ints.S1 t_3028 t_2972 t_3029), .b true, .b true, .b true, .call [0, 1] (shot_Ids.R x_3023 t_2971.2.1 t_2971.2.2.1 t_2971.2.2.2.1 t_2971.2.2.2.2.1 t_2971.2.2.2.2.2.1 t_2971.2.2.2.2.2.2.1 t_2971.2.2.2.2.2.2.2.1 t_2971.2.2.2.2.2.2.2.2.1 t_2971.2.2.2.2.2.2.2.2.2 t_3031) (shot_Ids.S1 x_3023 t_2971.2.1 t_2971.2.2.1 t_2971.2.2.2.1 t_2971.2.2.2.2.1 t_2971.2.2.2.2.2.1 t_2971.2.2.2.2.2.2.1 t_2971.2.2.2.2.2.2.2.1 t_2971.2.2.2.2.2.2.2.2.1 t_2971.2.2.2.2.2.2.2.2.2 t_3031), .b true, .b true, .b true, .call [0, 1] (law21_ids.R x_3023 t_2971.2.1 t_2971.2.2.1 t_2971.2.2.2.1 t_2971.2.2.2.2.1 t_2971.2.2.2.2.2.1 t_2971.2.2.2.2.2.2.1 t_2971.2.2.2.2.2.2.2.1 t_2971.2.2.2.2.2.2.2.2.1 t_2971.2.2.2.2.2.2.2.2.2 t_3032) (law21_ids.S1 x_3023 t_2971.2.1 t_2971.2.2.1 t_2971.2.2.2.1 t_2971.2.2.2.2.1 t_2971.2.2.2.2.2.1 t_2971.2.2.2.2.2.2.1 t_2971.2.2.2.2.2.2.2.1 t_2971.2.2.2.2.2.2.2.2.1 t_2971.2.2.2.2.2.2.2.2.2 t_3032), .b true, .call [] (glazierplain_Ints.R t_3031 t_3032 t_3033) (glazierplain_Ints.S1 t_3031 t_3032 t_3033), .b false, .b false, .b false, .b false, .b false, .b false, .b false, .b false, .b false, .b false, .b false, .b false, .b false, .b false, .i 3, .fin []] (ai (len_ob en_i64 t_2971.1) <| ai g_3021 <| ai (len_ob en_i64 t_2971.1) <| ai (len_ob en_i64 t_2971.1) <| ai g_3022 <| ai (idx_ob en_i64 hx_3023) <| ai (shot_Trees.ok k t_2971.2.1 t_2971.2.2.1 t_2971.2.2.2.1 t_2971.2.2.2.2.1 t_2971.2.2.2.2.2.1 t_2971.2.2.2.2.2.2.1 t_2971.2.2.2.2.2.2.2.1 t_2971.2.2.2.2.2.2.2.2.1 t_2971.2.2.2.2.2.2.2.2.2 t_3024 ht_3024) <| ai (law21_trees.ok k 0 t_2971.2.1 t_2971.2.2.1 t_2971.2.2.2.1 t_2971.2.2.2.2.1 t_2971.2.2.2.2.2.1 t_2971.2.2.2.2.2.2.1 t_2971.2.2.2.2.2.2.2.1 t_2971.2.2.2.2.2.2.2.2.1 t_2971.2.2.2.2.2.2.2.2.2 t_3025 ht_3025) <| ai (glazierplain_Trees.ok k t_3024 t_3025 t_3026 ht_3026) <| ai c_3027 <| ai rT <| ai (shot_Ids.ok k 0 t_2971.2.1 t_2971.2.2.1 t_2971.2.2.2.1 t_2971.2.2.2.2.1 t_2971.2.2.2.2.2.1 t_2971.2.2.2.2.2.2.1 t_2971.2.2.2.2.2.2.2.1 t_2971.2.2.2.2.2.2.2.2.1 t_2971.2.2.2.2.2.2.2.2.2 t_3028 ht_3028) <| ai rT <| ai rT <| ai (glazierplain_Ints.ok k t_3028 t_2972 t_3029 ht_3029) <| ai c_3030 <| ai rT <| ai rT <| ai (shot_Ids.ok k x_3023 t_2971.2.1 t_2971.2.2.1 t_2971.2.2.2.1 t_2971.2.2.2.2.1 t_2971.2.2.2.2.2.1 t_2971.2.2.2.2.2.2.1 t_2971.2.2.2.2.2.2.2.1 t_2971.2.2.2.2.2.2.2.2.1 t_2971.2.2.2.2.2.2.2.2.2 t_3031 ht_3031) <| ai rT <| ai rT <| ai rT <| ai (law21_ids.ok k x_3023 t_2971.2.1 t_2971.2.2.1 t_2971.2.2.2.1 t_2971.2.2.2.2.1 t_2971.2.2.2.2.2.1 t_2971.2.2.2.2.2.2.1 t_2971.2.2.2.2.2.2.2.1 t_2971.2.2.2.2.2.2.2.2.1 t_2971.2.2.2.2.2.2.2.2.2 t_3032 ht_3032) <| ai rT <| ai (glazierplain_Ints.ok k t_3031 t_3032 t_3033 ht_3033) <| ai (bool_false c_3034) <| ai rF <| ai rF <| ai rF <| ai rF <| ai rF <| ai rF <| ai rF <| ai rF <| ai rF <| ai rF <| ai rF <| ai rF <| ai rF <| hr) (by kernel_rfl)
        · obtain rfl := Option.some.inj h
          exact pathE 832 [.n t_2971.1.length, .n t_2971.1.length, .n t_2971.1.length, .c (en_i64 x_3023), .call [0, 1] (shot_Trees.R t_2971.2.1 t_2971.2.2.1 t_2971.2.2.2.1 t_2971.2.2.2.2.1 t_2971.2.2.2.2.2.1 t_2971.2.2.2.2.2.2.1 t_2971.2.2.2.2.2.2.2.1 t_2971.2.2.2.2.2.2.2.2.1 t_2971.2.2.2.2.2.2.2.2.2 t_3024) (shot_Trees.S1 t_2971.2.1 t_2971.2.2.1 t_2971.2.2.2.1 t_2971.2.2.2.2.1 t_2971.2.2.2.2.2.1 t_2971.2.2.2.2.2.2.1 t_2971.2.2.2.2.2.2.2.1 t_2971.2.2.2.2.2.2.2.2.1 t_2971.2.2.2.2.2.2.2.2.2 t_3024), .call [0, 1] (law21_trees.R 0 t_2971.2.1 t_2971.2.2.1 t_2971.2.2.2.1 t_2971.2.2.2.2.1 t_2971.2.2.2.2.2.1 t_2971.2.2.2.2.2.2.1 t_2971.2.2.2.2.2.2.2.1 t_2971.2.2.2.2.2.2.2.2.1 t_2971.2.2.2.2.2.2.2.2.2 t_3025) (law21_trees.S1 0 t_2971.2.1 t_2971.2.2.1 t_2971.2.2.2.1 t_2971.2.2.2.2.1 t_2971.2.2.2.2.2.1 t_2971.2.2.2.2.2.2.1 t_2971.2.2.2.2.2.2.2.1 t_2971.2.2.2.2.2.2.2.2.1 t_2971.2.2.2.2.2.2.2.2.2 t_3025), .call [] (glazierplain_Trees.R t_3024 t_3025 t_3026) (glazierplain_Trees.S1 t_3024 t_3025 t_3026), .b true, .b true, .call [0, 1] (shot_Ids.R 0 t_2971.2.1 t_2971.2.2.1 t_2971.2.2.2.1 t_2971.2.2.2.2.1 t_2971.2.2.2.2.2.1 t_2971.2.2.2.2.2.2.1 t_2971.2.2.2.2.2.2.2.1 t_2971.2.2.2.2.2.2.2.2.1 t_2971.2.2.2.2.2.2.2.2.2 t_3028) (shot_Ids.S1 0 t_2971.2.1 t_2971.2.2.1 t_2971.2.2.2.1 t_2971.2.2.2.2.1 t_2971.2.2.2.2.2.1 t_2971.2.2.2.2.2.2.1 t_2971.2.2.2.2.2.2.2.1 t_2971.2.2.2.2.2.2.2.2.1 t_2971.2.2.2.2.2.2.2.2.2 t_3028), .b true, .b true, .call [] (glazierplain_Ints.R t_3028 t_2972 t_3029) (glazierplain_Ints.S1 t_3028 t_2972 t_3029), .b false, .b false, .b false, .b false, .b false, .b false, .b false, .b false, .b false, .b false, .b false, .b false, .b false, .b false, .b false, .b false, .b false, .b false, .b false, .b false, .b false, .i 3, .fin []] (ai (len_ob en_i64 t_2971.1) <| ai g_3021 <| ai (len_ob en_i64 t_2971.1) <| ai (len_ob en_i64 t_2971.1) <| ai g_3022 <| ai (idx_ob en_i64 hx_3023) <| ai (shot_Trees.ok k t_2971.2.1 t_2971.2.2.1 t_2971.2.2.2.1 t_2971.2.2.2.2.1 t_2971.2.2.2.2.2.1 t_2971.2.2.2.2.2.2.1 t_2971.2.2.2.2.2.2.2.1 t_2971.2.2.2.2.2.2.2.2.1 t_2971.2.2.2.2.2.2.2.2.2 t_3024 ht_3024) <| ai (law21_trees.ok k 0 t_2971.2.1 t_2971.2.2.1 t_2971.2.2.2.1 t_2971.2.2.2.2.1 t_2971.2.2.2.2.2.1 t_2971.2.2.2.2.2.2.1 t_2971.2.2.2.2.2.2.2.1 t_2971.2.2.2.2.2.2.2.2.1 t_2971.2.2.2.2.2.2.2.2.2 t_3025 ht_3025) <| ai (glazierplain_Trees.ok k t_3024 t_3025 t_3026 ht_3026) <| ai c_3027 <| ai rT <| ai (shot_Ids.ok k 0 t_2971.2.1 t_2971.2.2.1 t_2971.2.2.2.1 t_2971.2.2.2.2.1 t_2971.2.2.2.2.2.1 t_2971.2.2.2.2.2.2.1 t_2971.2.2.2.2.2.2.2.1 t_2971.2.2.2.2.2.2.2.2.1 t_2971.2.2.2.2.2.2.2.2.2 t_3028 ht_3028) <| ai rT <| ai rT <| ai (glazierplain_Ints.ok k t_3028 t_2972 t_3029 ht_3029) <| ai (bool_false c_3030) <| ai rF <| ai rF <| ai rF <| ai rF <| ai rF <| ai rF <| ai rF <| ai rF <| ai rF <| ai rF <| ai rF <| ai rF <| ai rF <| ai rF <| ai rF <| ai rF <| ai rF <| ai rF <| ai rF <| ai rF <| hr) (by kernel_rfl)
      · obtain rfl := Option.some.inj h
        exact pathE 808 [.n t_2971.1.length, .n t_2971.1.length, .n t_2971.1.length, .c (en_i64 x_3023), .call [0, 1] (shot_Trees.R t_2971.2.1 t_2971.2.2.1 t_2971.2.2.2.1 t_2971.2.2.2.2.1 t_2971.2.2.2.2.2.1 t_2971.2.2.2.2.2.2.1 t_2971.2.2.2.2.2.2.2.1 t_2971.2.2.2.2.2.2.2.2.1 t_2971.2.2.2.2.2.2.2.2.2 t_3024) (shot_Trees.S1 t_2971.2.1 t_2971.2.2.1 t_2971.2.2.2.1 t_2971.2.2.2.2.1 t_2971.2.2.2.2.2.1 t_2971.2.2.2.2.2.2.1 t_2971.2.2.2.2.2.2.2.1 t_2971.2.2.2.2.2.2.2.2.1 t_2971.2.2.2.2.2.2.2.2.2 t_3024), .call [0, 1] (law21_trees.R 0 t_2971.2.1 t_2971.2.2.1 t_2971.2.2.2.1 t_2971.2.2.2.2.1 t_2971.2.2.2.2.2.1 t_2971.2.2.2.2.2.2.1 t_2971.2.2.2.2.2.2.2.1 t_2971.2.2.2.2.2.2.2.2.1 t_2971.2.2.2.2.2.2.2.2.2 t_3025) (law21_trees.S1 0 t_2971.2.1 t_2971.2.2.1 t_2971.2.2.2.1 t_2971.2.2.2.2.1 t_2971.2.2.2.2.2.1 t_2971.2.2.2.2.2.2.1 t_2971.2.2.2.2.2.2.2.1 t_2971.2.2.2.2.2.2.2.2.1 t_2971.2.2.2.2.2.2.2.2.2 t_3025), .call [] (glazierplain_Trees.R t_3024 t_3025 t_3026) (glazierplain_Trees.S1 t_3024 t_3025 t_3026), .b false, .b false, .b false, .b false, .b false, .b false, .b false, .b false, .b false, .b false, .b false, .b false, .b false, .b false, .b false, .b false, .b false, .b false, .b false, .b false, .b false, .b false, .b false, .b false, .b false, .i 3, .fin []] (ai (len_ob en_i64 t_2971.1) <| ai g_3021 <| ai (len_ob en_i64 t_2971.1) <| ai (len_ob en_i64 t_2971.1) <| ai g_3022 <| ai (idx_ob en_i64 hx_3023) <| ai (shot_Trees.ok k t_2971.2.1 t_2971.2.2.1 t_2971.2.2.2.1 t_2971.2.2.2.2.1 t_2971.2.2.2.2.2.1 t_2971.2.2.2.2.2.2.1 t_2971.2.2.2.2.2.2.2.1 t_2971.2.2.2.2.2.2.2.2.1 t_2971.2.2.2.2.2.2.2.2.2 t_3024 ht_3024) <| ai (law21_trees.ok k 0 t_2971.2.1 t_2971.2.2.1 t_2971.2.2.2.1 t_2971.2.2.2.2.1 t_2971.2.2.2.2.2.1 t_2971.2.2.2.2.2.2.1 t_2971.2.2.2.2.2.2.2.1 t_2971.2.2.2.2.2.2.2.2.1 t_2971.2.2.2.2.2.2.2.2.2 t_3025 ht_3025) <| ai (glazierplain_Trees.ok k t_3024 t_3025 t_3026 ht_3026) <| ai (bool_false c_3027) <| ai rF <| ai rF <| ai rF <| ai rF <| ai rF <| ai rF <| ai rF <| ai rF <| ai rF <| ai rF <| ai rF <| ai rF <| ai rF <| ai rF <| ai rF <| ai rF <| ai rF <| ai rF <| ai rF <| ai rF <| ai rF <| ai rF <| ai rF <| ai rF <| hr) (by kernel_rfl)
theorem law21_ShotTells.ok (k : Nat) (l_1 : (List law21_Op)) (slot_2 : Int) (id_3 : Int) (r : Bool) (h : law21_ShotTells.f k l_1 slot_2 id_3 = some r) : OkS Try.prog 7 (law21_ShotTells.A l_1 slot_2 id_3) (law21_ShotTells.S0 l_1 slot_2 id_3) (law21_ShotTells.R l_1 slot_2 id_3 r) (law21_ShotTells.S1 l_1 slot_2 id_3 r) := okE Try.func7 m7 rfl rfl rfl (law21_ShotTells.run k l_1 slot_2 id_3 r h _ _ rfl)
end Go.Proofs.Ga

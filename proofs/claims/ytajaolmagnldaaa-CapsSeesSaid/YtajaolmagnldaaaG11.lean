/- The functions that a law reaches, each with the contract of what it computes over plain data; printed by program, no condition. -/
import Derived.Test.YtajaolmagnldaaaG11a
set_option maxRecDepth 100000
set_option maxHeartbeats 4000000
set_option linter.unusedVariables false
set_option linter.unusedSimpArgs false
namespace Go.Proofs.Ga
open Go.Proofs.Dl
-- 62 glazier/dom.Insert
def d62 : FnDef := ⟨74, [.tmp 8],
  (.seq
  (.ops [
    ⟨some 8, .mv (.c (.one (.p (.int .i64 0)))), none⟩] [0, 1, 2, 3])
  (.seq
  (.ops [
    ⟨some 14, .mv (.t 0), none⟩,
    ⟨some 15, .mv (.t 1), none⟩,
    ⟨some 16, .call 34 [(.t 14), (.t 15)], none⟩,
    ⟨some 13, .mv (.t 16), none⟩,
    ⟨some 17, .ext (.t 13) 0, none⟩,
    ⟨some 18, .ext (.t 13) 1, none⟩,
    ⟨some 9, .alloc [.p (.int .i64 0), .p (.int .i64 0), .p (.int .i64 0), .p (.int .i64 0), .p (.str []), .nil 2, .p (.str []), .p (.int .i64 0), .nil 4, .nil 3, .nil 1, .p (.str []), .nil 2], none⟩,
    ⟨none, .store 13 (.t 9) (.t 17), none⟩,
    ⟨some 10, .mv (.t 18), none⟩] [0, 1, 2, 3, 9, 10])
  (.seq
  (.ops [
    ⟨some 20, .mv (.t 0), none⟩,
    ⟨some 21, .mv (.t 3), none⟩,
    ⟨some 22, .call 34 [(.t 20), (.t 21)], none⟩,
    ⟨some 19, .mv (.t 22), none⟩,
    ⟨some 23, .ext (.t 19) 0, none⟩,
    ⟨some 24, .ext (.t 19) 1, none⟩,
    ⟨some 11, .alloc [.p (.int .i64 0), .p (.int .i64 0), .p (.int .i64 0), .p (.int .i64 0), .p (.str []), .nil 2, .p (.str []), .p (.int .i64 0), .nil 4, .nil 3, .nil 1, .p (.str []), .nil 2], none⟩,
    ⟨none, .store 13 (.t 11) (.t 23), none⟩,
    ⟨some 12, .mv (.t 24), none⟩] [0, 1, 2, 3, 9, 10, 11, 12])
  (.seq
  (.block 0
    (.seq
    (.ops [
      ⟨some 26, .mv (.t 10), none⟩,
      ⟨some 27, .un .not (.t 26), none⟩,
      ⟨some 28, .mv (.t 27), none⟩,
      ⟨some 29, .mv (.t 12), some (28, false)⟩,
      ⟨some 30, .un .not (.t 29), some (28, false)⟩,
      ⟨some 31, .pick (.t 28) (.c (.one (.p (.bool true)))) (.t 30), none⟩,
      ⟨some 25, .mv (.t 31), none⟩] [0, 1, 2, 3, 9, 11, 25])
    (.cond (.t 25)
      (.seq
      (.ops [
        ⟨some 8, .mv (.c (.one (.p (.int .i64 14)))), none⟩] [8])
      .ret)
      (.seq
      (.ops [
        ⟨some 33, .faddr 3 (.t 9), none⟩,
        ⟨some 34, .load 1 false (.t 33), none⟩,
        ⟨some 35, .bin 0 .eql (.t 34) (.c (.one (.p (.int .i64 2)))), none⟩,
        ⟨some 32, .mv (.t 35), none⟩] [0, 1, 2, 3, 9, 11, 32])
      (.cond (.t 32)
        (.seq
        (.ops [
          ⟨some 8, .mv (.c (.one (.p (.int .i64 12)))), none⟩] [8])
        .ret)
        (.seq
        (.ops [
          ⟨some 37, .faddr 2 (.t 11), none⟩,
          ⟨some 38, .load 1 false (.t 37), none⟩,
          ⟨some 39, .bin 0 .geq (.t 38) (.c (.one (.p (.int .i64 0)))), none⟩,
          ⟨some 40, .mv (.t 39), none⟩,
          ⟨some 41, .mv (.t 3), some (40, false)⟩,
          ⟨some 42, .bin 0 .eql (.t 41) (.c (.one (.p (.int .i64 0)))), some (40, false)⟩,
          ⟨some 43, .pick (.t 40) (.c (.one (.p (.bool true)))) (.t 42), none⟩,
          ⟨some 36, .mv (.t 43), none⟩] [0, 1, 2, 3, 9, 11, 36])
        (.cond (.t 36)
          (.seq
          (.ops [
            ⟨some 8, .mv (.c (.one (.p (.int .i64 9)))), none⟩] [8])
          .ret)
          (.seq
          (.ops [
            ⟨some 45, .mv (.t 0), none⟩,
            ⟨some 46, .mv (.t 1), none⟩,
            ⟨some 47, .mv (.t 3), none⟩,
            ⟨some 48, .call 92 [(.t 45), (.t 46), (.t 47)], none⟩,
            ⟨some 44, .mv (.t 48), none⟩] [0, 1, 2, 3, 9, 11, 44])
          (.cond (.t 44)
            (.seq
            (.ops [
              ⟨some 8, .mv (.c (.one (.p (.int .i64 26)))), none⟩] [8])
            .ret)
            (.seq
            (.ops [
              ⟨some 50, .mv (.t 2), none⟩,
              ⟨some 51, .bin 0 .lss (.t 50) (.c (.one (.p (.int .i64 0)))), none⟩,
              ⟨some 52, .mv (.t 51), none⟩,
              ⟨some 53, .mv (.t 2), some (52, false)⟩,
              ⟨some 54, .faddr 10 (.t 9), some (52, false)⟩,
              ⟨some 55, .load 1 false (.t 54), some (52, false)⟩,
              ⟨some 56, .len false (.t 55), some (52, false)⟩,
              ⟨some 57, .bin 0 .gtr (.t 53) (.t 56), some (52, false)⟩,
              ⟨some 58, .pick (.t 52) (.c (.one (.p (.bool true)))) (.t 57), none⟩,
              ⟨some 49, .mv (.t 58), none⟩] [0, 1, 2, 3, 9, 11, 49])
            (.cond (.t 49)
              (.seq
              (.ops [
                ⟨some 8, .mv (.c (.one (.p (.int .i64 4)))), none⟩] [8])
              .ret)
              .skip)))))))))))
  (.seq
  (.ops [
    ⟨some 59, .faddr 10 (.t 9), none⟩,
    ⟨some 60, .load 1 false (.t 59), none⟩,
    ⟨some 61, .mv (.t 2), none⟩,
    ⟨some 62, .mv (.t 3), none⟩,
    ⟨some 63, .bslice 3 1 [(.t 62)], none⟩,
    ⟨some 64, .call 120 [(.t 60), (.t 61), (.t 63)], none⟩,
    ⟨some 65, .faddr 10 (.t 9), none⟩,
    ⟨none, .store 1 (.t 65) (.t 64), none⟩] [0, 1, 9, 11])
  (.seq
  (.ops [
    ⟨some 66, .mv (.t 0), none⟩,
    ⟨some 67, .load 13 true (.t 9), none⟩,
    ⟨some 68, .call 101 [(.t 66), (.t 67)], none⟩] [0, 1, 11])
  (.seq
  (.ops [
    ⟨some 69, .mv (.t 1), none⟩,
    ⟨some 70, .faddr 2 (.t 11), none⟩,
    ⟨none, .store 1 (.t 70) (.t 69), none⟩] [0, 11])
  (.seq
  (.ops [
    ⟨some 71, .mv (.t 0), none⟩,
    ⟨some 72, .load 13 true (.t 11), none⟩,
    ⟨some 73, .call 101 [(.t 71), (.t 72)], none⟩,
    ⟨some 8, .mv (.t 73), none⟩] [8])
  .ret))))))))⟩
theorem m62 : mFn Try.prog d62 Try.f62 = true := by kernel_rfl
def dom_Insert.A (parent_220 : Int) (at_221 : Int) (child_222 : Int) (o0_223 : Int) (o0_224 : Int) (o0_225 : Int) (o0_226 : Int) (o0_227 : Int) (o0_228 : Int) (o0_229 : Int) (o0_230 : Int) (o1_231 : (List (Int × arena_Node))) : List Vv := [.one (.ptr 0 0), .one (.p (.int .i64 parent_220)), .one (.p (.int .i64 at_221)), .one (.p (.int .i64 child_222))]
def dom_Insert.S0 (parent_220 : Int) (at_221 : Int) (child_222 : Int) (o0_223 : Int) (o0_224 : Int) (o0_225 : Int) (o0_226 : Int) (o0_227 : Int) (o0_228 : Int) (o0_229 : Int) (o0_230 : Int) (o1_231 : (List (Int × arena_Node))) : Sto := [.box [.mp 1, .p (.int .i64 o0_223), .p (.int .i64 o0_224), .p (.int .i64 o0_225), .p (.int .i64 o0_226), .p (.int .i64 o0_227), .p (.int .i64 o0_228), .p (.int .i64 o0_229), .p (.int .i64 o0_230)], .map (enE en_arena_Node o1_231)]
def dom_Insert.R (parent_220 : Int) (at_221 : Int) (child_222 : Int) (o0_223 : Int) (o0_224 : Int) (o0_225 : Int) (o0_226 : Int) (o0_227 : Int) (o0_228 : Int) (o0_229 : Int) (o0_230 : Int) (o1_231 : (List (Int × arena_Node))) (r_0 : Int × (List (Int × arena_Node))) : Vv := .one (.p (.int .i64 r_0.1))
def dom_Insert.S1 (parent_220 : Int) (at_221 : Int) (child_222 : Int) (o0_223 : Int) (o0_224 : Int) (o0_225 : Int) (o0_226 : Int) (o0_227 : Int) (o0_228 : Int) (o0_229 : Int) (o0_230 : Int) (o1_231 : (List (Int × arena_Node))) (r_0 : Int × (List (Int × arena_Node))) : Sto := [.box [.mp 1, .p (.int .i64 o0_223), .p (.int .i64 o0_224), .p (.int .i64 o0_225), .p (.int .i64 o0_226), .p (.int .i64 o0_227), .p (.int .i64 o0_228), .p (.int .i64 o0_229), .p (.int .i64 o0_230)], .map (enE en_arena_Node r_0.2)]
def dom_Insert.rs : List Rv := d62.res
def dom_Insert.b : Sx := d62.body
def dom_Insert.f (k : Nat) (parent_220 : Int) (at_221 : Int) (child_222 : Int) (o0_223 : Int) (o0_224 : Int) (o0_225 : Int) (o0_226 : Int) (o0_227 : Int) (o0_228 : Int) (o0_229 : Int) (o0_230 : Int) (o1_231 : (List (Int × arena_Node))) : Option (Int × (List (Int × arena_Node))) := ((arena_Arena_Get.f k parent_220 o0_223 o0_224 o0_225 o0_226 o0_227 o0_228 o0_229 o0_230 o1_231).bind fun t_551 => ((arena_Arena_Get.f k child_222 o0_223 o0_224 o0_225 o0_226 o0_227 o0_228 o0_229 o0_230 o1_231).bind fun t_552 => (if (!t_551.2) = true then (some (14, o1_231)) else (if (!t_552.2) = true then (some (14, o1_231)) else (if t_551.1.Kind = 2 then (some (12, o1_231)) else (if t_552.1.Parent ≥ 0 then (some (9, o1_231)) else (if child_222 = 0 then (some (9, o1_231)) else ((dom_Inside.f k parent_220 child_222 o0_223 o0_224 o0_225 o0_226 o0_227 o0_228 o0_229 o0_230 o1_231).bind fun t_558 => (if t_558 = true then (some (26, o1_231)) else (if at_221 < 0 then (some (4, o1_231)) else (if at_221 > (t_551.1.Kids.length : Int) then (some (4, o1_231)) else (if 0 ≤ at_221 ∧ at_221 ≤ ((t_551.1.Kids.length : Nat) : Int) ∧ (t_551.1.Kids.length + ([child_222] : List Int).length) * 8 ≤ room then ((arena_Arena_Set.f k (arena_Node.mk t_551.1.Id t_551.1.Owner t_551.1.Parent t_551.1.Kind t_551.1.Tag t_551.1.Key t_551.1.Slot t_551.1.Attrs t_551.1.Hooks (insL t_551.1.Kids at_221 ([child_222] : List Int)) t_551.1.Text) o0_223 o0_224 o0_225 o0_226 o0_227 o0_228 o0_229 o0_230 o1_231).bind fun t_563 => ((arena_Arena_Set.f k (arena_Node.mk t_552.1.Id t_552.1.Owner parent_220 t_552.1.Kind t_552.1.Tag t_552.1.Key t_552.1.Slot t_552.1.Attrs t_552.1.Hooks t_552.1.Kids t_552.1.Text) o0_223 o0_224 o0_225 o0_226 o0_227 o0_228 o0_229 o0_230 t_563.2).bind fun t_564 => (some (t_564.1, t_564.2)))) else none))))))))))))
theorem dom_Insert.run (k : Nat) (parent_220 : Int) (at_221 : Int) (child_222 : Int) (o0_223 : Int) (o0_224 : Int) (o0_225 : Int) (o0_226 : Int) (o0_227 : Int) (o0_228 : Int) (o0_229 : Int) (o0_230 : Int) (o1_231 : (List (Int × arena_Node))) (r : Int × (List (Int × arena_Node))) (h : dom_Insert.f k parent_220 at_221 child_222 o0_223 o0_224 o0_225 o0_226 o0_227 o0_228 o0_229 o0_230 o1_231 = some r) (res : Vv) (st : Sto) (hr : (dom_Insert.R parent_220 at_221 child_222 o0_223 o0_224 o0_225 o0_226 o0_227 o0_228 o0_229 o0_230 o1_231 r, dom_Insert.S1 parent_220 at_221 child_222 o0_223 o0_224 o0_225 o0_226 o0_227 o0_228 o0_229 o0_230 o1_231 r) = (res, st)) : RunE Try.prog ⟨2, dom_Insert.rs, res, st⟩ (.st dom_Insert.b .done) (argE 0 (dom_Insert.A parent_220 at_221 child_222 o0_223 o0_224 o0_225 o0_226 o0_227 o0_228 o0_229 o0_230 o1_231)) (dom_Insert.S0 parent_220 at_221 child_222 o0_223 o0_224 o0_225 o0_226 o0_227 o0_228 o0_229 o0_230 o1_231) := by
  unfold dom_Insert.f at h
  obtain ⟨t_551, ht_551, h⟩ := bind_some h
  obtain ⟨t_552, ht_552, h⟩ := bind_some h
  rcases ite_some h with ⟨c_553, h⟩ | ⟨c_553, h⟩
  · obtain rfl := Option.some.inj h
    exact pathE 484 [.call [0, 1] (arena_Arena_Get.R parent_220 o0_223 o0_224 o0_225 o0_226 o0_227 o0_228 o0_229 o0_230 o1_231 t_551) (arena_Arena_Get.S1 parent_220 o0_223 o0_224 o0_225 o0_226 o0_227 o0_228 o0_229 o0_230 o1_231 t_551), .call [0, 1] (arena_Arena_Get.R child_222 o0_223 o0_224 o0_225 o0_226 o0_227 o0_228 o0_229 o0_230 o1_231 t_552) (arena_Arena_Get.S1 child_222 o0_223 o0_224 o0_225 o0_226 o0_227 o0_228 o0_229 o0_230 o1_231 t_552), .b true, .b true, .b true, .i 4, .fin [0, 1]] (ai (arena_Arena_Get.ok k parent_220 o0_223 o0_224 o0_225 o0_226 o0_227 o0_228 o0_229 o0_230 o1_231 t_551 ht_551) <| ai (arena_Arena_Get.ok k child_222 o0_223 o0_224 o0_225 o0_226 o0_227 o0_228 o0_229 o0_230 o1_231 t_552 ht_552) <| ai c_553 <| ai rT <| ai rT <| hr) (by kernel_rfl)
  · refine pathE 496 [.call [0, 1] (arena_Arena_Get.R parent_220 o0_223 o0_224 o0_225 o0_226 o0_227 o0_228 o0_229 o0_230 o1_231 t_551) (arena_Arena_Get.S1 parent_220 o0_223 o0_224 o0_225 o0_226 o0_227 o0_228 o0_229 o0_230 o1_231 t_551), .call [0, 1] (arena_Arena_Get.R child_222 o0_223 o0_224 o0_225 o0_226 o0_227 o0_228 o0_229 o0_230 o1_231 t_552) (arena_Arena_Get.S1 child_222 o0_223 o0_224 o0_225 o0_226 o0_227 o0_228 o0_229 o0_230 o1_231 t_552), .b false, .b false, .i 3, .gc [0, 1, 4, 7, 2, 3, 5, 6], .keep [0, 1, 2, 3, 9, 11, 25], .stop] (ai (arena_Arena_Get.ok k parent_220 o0_223 o0_224 o0_225 o0_226 o0_227 o0_228 o0_229 o0_230 o1_231 t_551 ht_551) <| ai (arena_Arena_Get.ok k child_222 o0_223 o0_224 o0_225 o0_226 o0_227 o0_228 o0_229 o0_230 o1_231 t_552 ht_552) <| ai (bool_false c_553) <| ai rF <| (?_ : RunE Try.prog ⟨2, dom_Insert.rs, res, st⟩ (koOf dom_Insert.b .done [1, 1, 1, 0, 0, 1]) [(0, .one (.ptr 0 0)), (1, .one (.p (.int .i64 parent_220))), (2, .one (.p (.int .i64 at_221))), (3, .one (.p (.int .i64 child_222))), (9, .one (.ptr 2 0)), (11, .one (.ptr 3 0)), (25, .one (.p (.bool (!t_552.2))))] [.box [.mp 1, .p (.int .i64 o0_223), .p (.int .i64 o0_224), .p (.int .i64 o0_225), .p (.int .i64 o0_226), .p (.int .i64 o0_227), .p (.int .i64 o0_228), .p (.int .i64 o0_229), .p (.int .i64 o0_230)], .map (enE en_arena_Node o1_231), .box [.p (.int .i64 t_551.1.Id), .p (.int .i64 t_551.1.Owner), .p (.int .i64 t_551.1.Parent), .p (.int .i64 t_551.1.Kind), .p (.str t_551.1.Tag.Text), .p (.sl 2 (t_551.1.Tag.Runs.map en_api_Run)), .p (.str t_551.1.Key), .p (.int .i64 t_551.1.Slot), .p (.sl 4 (t_551.1.Attrs.map en_api_Attr)), .own 4 3 0 t_551.1.Hooks.length, .own 5 1 0 t_551.1.Kids.length, .p (.str t_551.1.Text.Text), .p (.sl 2 (t_551.1.Text.Runs.map en_api_Run))], .box [.p (.int .i64 t_552.1.Id), .p (.int .i64 t_552.1.Owner), .p (.int .i64 t_552.1.Parent), .p (.int .i64 t_552.1.Kind), .p (.str t_552.1.Tag.Text), .p (.sl 2 (t_552.1.Tag.Runs.map en_api_Run)), .p (.str t_552.1.Key), .p (.int .i64 t_552.1.Slot), .p (.sl 4 (t_552.1.Attrs.map en_api_Attr)), .own 6 3 0 t_552.1.Hooks.length, .own 7 1 0 t_552.1.Kids.length, .p (.str t_552.1.Text.Text), .p (.sl 2 (t_552.1.Text.Runs.map en_api_Run))], .row 69 3 t_551.1.Hooks.length (t_551.1.Hooks.map en_api_Hook), .row 3 1 t_551.1.Kids.length (t_551.1.Kids.map en_i64), .row 69 3 t_552.1.Hooks.length (t_552.1.Hooks.map en_api_Hook), .row 3 1 t_552.1.Kids.length (t_552.1.Kids.map en_i64)])) (by kernel_rfl)
    rcases ite_some h with ⟨c_554, h⟩ | ⟨c_554, h⟩
    · obtain rfl := Option.some.inj h
      exact pathE 436 [.b true, .i 4, .fin [0, 1]] (ai c_554 <| hr) (by kernel_rfl)
    · rcases ite_some h with ⟨c_555, h⟩ | ⟨c_555, h⟩
      · obtain rfl := Option.some.inj h
        exact pathE 448 [.b false, .b true, .i 4, .fin [0, 1]] (ai (bool_false c_554) <| ai (beq_iff_eq.2 c_555) <| hr) (by kernel_rfl)
      · rcases ite_some h with ⟨c_556, h⟩ | ⟨c_556, h⟩
        · obtain rfl := Option.some.inj h
          exact pathE 484 [.b false, .b false, .b true, .b true, .b true, .i 4, .fin [0, 1]] (ai (bool_false c_554) <| ai (beq_eq_false_iff_ne.2 c_555) <| ai (decide_eq_true c_556) <| ai rT <| ai rT <| hr) (by kernel_rfl)
        · refine pathE 484 [.b false, .b false, .b false, .b false, .i 3, .keep [0, 1, 2, 3, 9, 11, 36], .stop] (ai (bool_false c_554) <| ai (beq_eq_false_iff_ne.2 c_555) <| ai (decide_eq_false c_556) <| ai rF <| (?_ : RunE Try.prog ⟨2, dom_Insert.rs, res, st⟩ (koOf dom_Insert.b .done [1, 1, 1, 0, 0, 1, 1, 1, 1, 1]) [(0, .one (.ptr 0 0)), (1, .one (.p (.int .i64 parent_220))), (2, .one (.p (.int .i64 at_221))), (3, .one (.p (.int .i64 child_222))), (9, .one (.ptr 2 0)), (11, .one (.ptr 3 0)), (36, .one (.p (.bool (child_222 == 0))))] [.box [.mp 1, .p (.int .i64 o0_223), .p (.int .i64 o0_224), .p (.int .i64 o0_225), .p (.int .i64 o0_226), .p (.int .i64 o0_227), .p (.int .i64 o0_228), .p (.int .i64 o0_229), .p (.int .i64 o0_230)], .map (enE en_arena_Node o1_231), .box [.p (.int .i64 t_551.1.Id), .p (.int .i64 t_551.1.Owner), .p (.int .i64 t_551.1.Parent), .p (.int .i64 t_551.1.Kind), .p (.str t_551.1.Tag.Text), .p (.sl 2 (t_551.1.Tag.Runs.map en_api_Run)), .p (.str t_551.1.Key), .p (.int .i64 t_551.1.Slot), .p (.sl 4 (t_551.1.Attrs.map en_api_Attr)), .own 4 3 0 t_551.1.Hooks.length, .own 5 1 0 t_551.1.Kids.length, .p (.str t_551.1.Text.Text), .p (.sl 2 (t_551.1.Text.Runs.map en_api_Run))], .box [.p (.int .i64 t_552.1.Id), .p (.int .i64 t_552.1.Owner), .p (.int .i64 t_552.1.Parent), .p (.int .i64 t_552.1.Kind), .p (.str t_552.1.Tag.Text), .p (.sl 2 (t_552.1.Tag.Runs.map en_api_Run)), .p (.str t_552.1.Key), .p (.int .i64 t_552.1.Slot), .p (.sl 4 (t_552.1.Attrs.map en_api_Attr)), .own 6 3 0 t_552.1.Hooks.length, .own 7 1 0 t_552.1.Kids.length, .p (.str t_552.1.Text.Text), .p (.sl 2 (t_552.1.Text.Runs.map en_api_Run))], .row 69 3 t_551.1.Hooks.length (t_551.1.Hooks.map en_api_Hook), .row 3 1 t_551.1.Kids.length (t_551.1.Kids.map en_i64), .row 69 3 t_552.1.Hooks.length (t_552.1.Hooks.map en_api_Hook), .row 3 1 t_552.1.Kids.length (t_552.1.Kids.map en_i64)])) (by kernel_rfl)
          rcases ite_some h with ⟨c_557, h⟩ | ⟨c_557, h⟩
          · obtain rfl := Option.some.inj h
            exact pathE 436 [.b true, .i 4, .fin [0, 1]] (ai (beq_iff_eq.2 c_557) <| hr) (by kernel_rfl)
          · obtain ⟨t_558, ht_558, h⟩ := bind_some h
            rcases ite_some h with ⟨c_559, h⟩ | ⟨c_559, h⟩
            · obtain rfl := Option.some.inj h
              exact pathE 460 [.b false, .call [0, 1] (dom_Inside.R parent_220 child_222 o0_223 o0_224 o0_225 o0_226 o0_227 o0_228 o0_229 o0_230 o1_231 t_558) (dom_Inside.S1 parent_220 child_222 o0_223 o0_224 o0_225 o0_226 o0_227 o0_228 o0_229 o0_230 o1_231 t_558), .b true, .i 4, .fin [0, 1]] (ai (beq_eq_false_iff_ne.2 c_557) <| ai (dom_Inside.ok k parent_220 child_222 o0_223 o0_224 o0_225 o0_226 o0_227 o0_228 o0_229 o0_230 o1_231 t_558 ht_558) <| ai c_559 <| hr) (by kernel_rfl)
            · rcases ite_some h with ⟨c_560, h⟩ | ⟨c_560, h⟩
              · obtain rfl := Option.some.inj h
                exact pathE 532 [.b false, .call [0, 1] (dom_Inside.R parent_220 child_222 o0_223 o0_224 o0_225 o0_226 o0_227 o0_228 o0_229 o0_230 o1_231 t_558) (dom_Inside.S1 parent_220 child_222 o0_223 o0_224 o0_225 o0_226 o0_227 o0_228 o0_229 o0_230 o1_231 t_558), .b false, .b true, .b true, .b true, .b true, .b true, .b true, .i 4, .fin [0, 1]] (ai (beq_eq_false_iff_ne.2 c_557) <| ai (dom_Inside.ok k parent_220 child_222 o0_223 o0_224 o0_225 o0_226 o0_227 o0_228 o0_229 o0_230 o1_231 t_558 ht_558) <| ai (bool_false c_559) <| ai (decide_eq_true c_560) <| ai rT <| ai rT <| ai rT <| ai rT <| ai rT <| hr) (by kernel_rfl)
              · refine pathE 532 [.b false, .call [0, 1] (dom_Inside.R parent_220 child_222 o0_223 o0_224 o0_225 o0_226 o0_227 o0_228 o0_229 o0_230 o1_231 t_558) (dom_Inside.S1 parent_220 child_222 o0_223 o0_224 o0_225 o0_226 o0_227 o0_228 o0_229 o0_230 o1_231 t_558), .b false, .b false, .b false, .b false, .b false, .b false, .i 3, .keep [0, 1, 2, 3, 9, 11, 49], .stop] (ai (beq_eq_false_iff_ne.2 c_557) <| ai (dom_Inside.ok k parent_220 child_222 o0_223 o0_224 o0_225 o0_226 o0_227 o0_228 o0_229 o0_230 o1_231 t_558 ht_558) <| ai (bool_false c_559) <| ai (decide_eq_false c_560) <| ai rF <| ai rF <| ai rF <| ai rF <| (?_ : RunE Try.prog ⟨2, dom_Insert.rs, res, st⟩ (koOf dom_Insert.b .done [1, 1, 1, 0, 0, 1, 1, 1, 1, 1, 1, 1, 1, 1]) [(0, .one (.ptr 0 0)), (1, .one (.p (.int .i64 parent_220))), (2, .one (.p (.int .i64 at_221))), (3, .one (.p (.int .i64 child_222))), (9, .one (.ptr 2 0)), (11, .one (.ptr 3 0)), (49, .one (.p (.bool (decide (at_221 > (t_551.1.Kids.length : Int))))))] [.box [.mp 1, .p (.int .i64 o0_223), .p (.int .i64 o0_224), .p (.int .i64 o0_225), .p (.int .i64 o0_226), .p (.int .i64 o0_227), .p (.int .i64 o0_228), .p (.int .i64 o0_229), .p (.int .i64 o0_230)], .map (enE en_arena_Node o1_231), .box [.p (.int .i64 t_551.1.Id), .p (.int .i64 t_551.1.Owner), .p (.int .i64 t_551.1.Parent), .p (.int .i64 t_551.1.Kind), .p (.str t_551.1.Tag.Text), .p (.sl 2 (t_551.1.Tag.Runs.map en_api_Run)), .p (.str t_551.1.Key), .p (.int .i64 t_551.1.Slot), .p (.sl 4 (t_551.1.Attrs.map en_api_Attr)), .own 4 3 0 t_551.1.Hooks.length, .own 5 1 0 t_551.1.Kids.length, .p (.str t_551.1.Text.Text), .p (.sl 2 (t_551.1.Text.Runs.map en_api_Run))], .box [.p (.int .i64 t_552.1.Id), .p (.int .i64 t_552.1.Owner), .p (.int .i64 t_552.1.Parent), .p (.int .i64 t_552.1.Kind), .p (.str t_552.1.Tag.Text), .p (.sl 2 (t_552.1.Tag.Runs.map en_api_Run)), .p (.str t_552.1.Key), .p (.int .i64 t_552.1.Slot), .p (.sl 4 (t_552.1.Attrs.map en_api_Attr)), .own 6 3 0 t_552.1.Hooks.length, .own 7 1 0 t_552.1.Kids.length, .p (.str t_552.1.Text.Text), .p (.sl 2 (t_552.1.Text.Runs.map en_api_Run))], .row 69 3 t_551.1.Hooks.length (t_551.1.Hooks.map en_api_Hook), .row 3 1 t_551.1.Kids.length (t_551.1.Kids.map en_i64), .row 69 3 t_552.1.Hooks.length (t_552.1.Hooks.map en_api_Hook), .row 3 1 t_552.1.Kids.length (t_552.1.Kids.map en_i64)])) (by kernel_rfl)
                rcases ite_some h with ⟨c_561, h⟩ | ⟨c_561, h⟩
                · obtain rfl := Option.some.inj h
                  exact pathE 436 [.b true, .i 4, .fin [0, 1]] (ai (decide_eq_true c_561) <| hr) (by kernel_rfl)
                · obtain ⟨g_562, h⟩ := guard_some h
                  obtain ⟨t_563, ht_563, h⟩ := bind_some h
                  obtain ⟨t_564, ht_564, h⟩ := bind_some h
                  obtain rfl := Option.some.inj h
                  exact pathE 568 [.b false, .call [5, 8] (.one (.own 2 1 0 (insL t_551.1.Kids at_221 ([child_222] : List Int)).length)) [.none, .row 3 1 1 (([child_222] : List Int).map en_i64), .row 3 1 (insL t_551.1.Kids at_221 ([child_222] : List Int)).length ((insL t_551.1.Kids at_221 ([child_222] : List Int)).map en_i64)], .i 7, .fz 67 [], .z (t_551.1.Hooks.map en_api_Hook), .z ((insL t_551.1.Kids at_221 ([child_222] : List Int)).map en_i64), .call [0, 1] (arena_Arena_Set.R (arena_Node.mk t_551.1.Id t_551.1.Owner t_551.1.Parent t_551.1.Kind t_551.1.Tag t_551.1.Key t_551.1.Slot t_551.1.Attrs t_551.1.Hooks (insL t_551.1.Kids at_221 ([child_222] : List Int)) t_551.1.Text) o0_223 o0_224 o0_225 o0_226 o0_227 o0_228 o0_229 o0_230 o1_231 t_563) (arena_Arena_Set.S1 (arena_Node.mk t_551.1.Id t_551.1.Owner t_551.1.Parent t_551.1.Kind t_551.1.Tag t_551.1.Key t_551.1.Slot t_551.1.Attrs t_551.1.Hooks (insL t_551.1.Kids at_221 ([child_222] : List Int)) t_551.1.Text) o0_223 o0_224 o0_225 o0_226 o0_227 o0_228 o0_229 o0_230 o1_231 t_563), .i 11, .fz 72 [], .z (t_552.1.Hooks.map en_api_Hook), .z (t_552.1.Kids.map en_i64), .call [0, 1] (arena_Arena_Set.R (arena_Node.mk t_552.1.Id t_552.1.Owner parent_220 t_552.1.Kind t_552.1.Tag t_552.1.Key t_552.1.Slot t_552.1.Attrs t_552.1.Hooks t_552.1.Kids t_552.1.Text) o0_223 o0_224 o0_225 o0_226 o0_227 o0_228 o0_229 o0_230 t_563.2 t_564) (arena_Arena_Set.S1 (arena_Node.mk t_552.1.Id t_552.1.Owner parent_220 t_552.1.Kind t_552.1.Tag t_552.1.Key t_552.1.Slot t_552.1.Attrs t_552.1.Hooks t_552.1.Kids t_552.1.Text) o0_223 o0_224 o0_225 o0_226 o0_227 o0_228 o0_229 o0_230 t_563.2 t_564), .i 2, .fin [0, 1]] (ai (decide_eq_false c_561) <| ai (insertS lays21 (kc0 := t_551.1.Kids.length) (kc1 := 1) (t := 3) (n := t_551.1.Kids.length) (m := 1) rfl rfl (L := t_551.1.Kids) (i := at_221) (M := ([child_222] : List Int)) rfl rfl (by simp) g_562) <| ai (set_obE en_api_Hook (l := t_551.1.Hooks) (m := t_551.1.Hooks.length) rfl) <| ai (set_obE en_i64 (l := (insL t_551.1.Kids at_221 ([child_222] : List Int))) (m := (insL t_551.1.Kids at_221 ([child_222] : List Int)).length) rfl) <| ai (arena_Arena_Set.ok k (arena_Node.mk t_551.1.Id t_551.1.Owner t_551.1.Parent t_551.1.Kind t_551.1.Tag t_551.1.Key t_551.1.Slot t_551.1.Attrs t_551.1.Hooks (insL t_551.1.Kids at_221 ([child_222] : List Int)) t_551.1.Text) o0_223 o0_224 o0_225 o0_226 o0_227 o0_228 o0_229 o0_230 o1_231 t_563 ht_563) <| ai (set_obE en_api_Hook (l := t_552.1.Hooks) (m := t_552.1.Hooks.length) rfl) <| ai (set_obE en_i64 (l := t_552.1.Kids) (m := t_552.1.Kids.length) rfl) <| ai (arena_Arena_Set.ok k (arena_Node.mk t_552.1.Id t_552.1.Owner parent_220 t_552.1.Kind t_552.1.Tag t_552.1.Key t_552.1.Slot t_552.1.Attrs t_552.1.Hooks t_552.1.Kids t_552.1.Text) o0_223 o0_224 o0_225 o0_226 o0_227 o0_228 o0_229 o0_230 t_563.2 t_564 ht_564) <| hr) (by kernel_rfl)
theorem dom_Insert.ok (k : Nat) (parent_220 : Int) (at_221 : Int) (child_222 : Int) (o0_223 : Int) (o0_224 : Int) (o0_225 : Int) (o0_226 : Int) (o0_227 : Int) (o0_228 : Int) (o0_229 : Int) (o0_230 : Int) (o1_231 : (List (Int × arena_Node))) (r : Int × (List (Int × arena_Node))) (h : dom_Insert.f k parent_220 at_221 child_222 o0_223 o0_224 o0_225 o0_226 o0_227 o0_228 o0_229 o0_230 o1_231 = some r) : OkS Try.prog 62 (dom_Insert.A parent_220 at_221 child_222 o0_223 o0_224 o0_225 o0_226 o0_227 o0_228 o0_229 o0_230 o1_231) (dom_Insert.S0 parent_220 at_221 child_222 o0_223 o0_224 o0_225 o0_226 o0_227 o0_228 o0_229 o0_230 o1_231) (dom_Insert.R parent_220 at_221 child_222 o0_223 o0_224 o0_225 o0_226 o0_227 o0_228 o0_229 o0_230 o1_231 r) (dom_Insert.S1 parent_220 at_221 child_222 o0_223 o0_224 o0_225 o0_226 o0_227 o0_228 o0_229 o0_230 o1_231 r) := okE Try.func62 m62 rfl rfl rfl (dom_Insert.run k parent_220 at_221 child_222 o0_223 o0_224 o0_225 o0_226 o0_227 o0_228 o0_229 o0_230 o1_231 r h _ _ rfl)
-- 122 (*glazier/caps.Table).Grant$1
def d122 : FnDef := ⟨7, [.tmp 3],
  (.seq
  (.ops [
    ⟨some 3, .mv (.c (.one (.p (.bool false)))), none⟩] [0, 1])
  (.seq
  (.ops [
    ⟨some 4, .mv (.t 0), none⟩,
    ⟨some 5, .load 1 false (.t 1), none⟩,
    ⟨some 6, .bin 0 .eql (.t 4) (.t 5), none⟩,
    ⟨some 3, .mv (.t 6), none⟩] [3])
  .ret))⟩
theorem m122 : mFn Try.prog d122 Try.f122 = true := by kernel_rfl
def caps_Table_Grant_1.A (k_584 : Int) (o0_585 : Int) : List Vv := [.one (.p (.int .i64 k_584)), .one (.ptr 0 0)]
def caps_Table_Grant_1.S0 (k_584 : Int) (o0_585 : Int) : Sto := [.box [.p (.int .i64 o0_585)]]
def caps_Table_Grant_1.R (k_584 : Int) (o0_585 : Int) (r_0 : Unit) : Vv := .one (.p (.bool (k_584 == o0_585)))
def caps_Table_Grant_1.S1 (k_584 : Int) (o0_585 : Int) (r_0 : Unit) : Sto := [.box [.p (.int .i64 o0_585)]]
def caps_Table_Grant_1.rs : List Rv := d122.res
def caps_Table_Grant_1.b : Sx := d122.body
def caps_Table_Grant_1.f (k_584 : Int) (o0_585 : Int) : Option (Unit) := (some ())
theorem caps_Table_Grant_1.run (k_584 : Int) (o0_585 : Int) (r : Unit) (h : caps_Table_Grant_1.f k_584 o0_585 = some r) (res : Vv) (st : Sto) (hr : (caps_Table_Grant_1.R k_584 o0_585 r, caps_Table_Grant_1.S1 k_584 o0_585 r) = (res, st)) : RunE Try.prog ⟨1, caps_Table_Grant_1.rs, res, st⟩ (.st caps_Table_Grant_1.b .done) (argE 0 (caps_Table_Grant_1.A k_584 o0_585)) (caps_Table_Grant_1.S0 k_584 o0_585) := by
  unfold caps_Table_Grant_1.f at h
  obtain rfl := Option.some.inj h
  exact pathE 424 [.i 11, .fin [0]] (hr) (by kernel_rfl)
theorem caps_Table_Grant_1.ok (k_584 : Int) (o0_585 : Int) (r : Unit) (h : caps_Table_Grant_1.f k_584 o0_585 = some r) : OkS Try.prog 122 (caps_Table_Grant_1.A k_584 o0_585) (caps_Table_Grant_1.S0 k_584 o0_585) (caps_Table_Grant_1.R k_584 o0_585 r) (caps_Table_Grant_1.S1 k_584 o0_585 r) := okE Try.func122 m122 rfl rfl rfl (caps_Table_Grant_1.run k_584 o0_585 r h _ _ rfl)
-- 108 slices.IndexFunc[[]int,int]
def d108 : FnDef := ⟨19, [.tmp 4],
  (.seq
  (.ops [
    ⟨some 4, .mv (.c (.one (.p (.int .i64 0)))), none⟩] [0, 1])
  (.seq
  (.seq
  (.ops [
    ⟨some 6, .mv (.t 0), none⟩,
    ⟨some 7, .len false (.t 6), none⟩,
    ⟨some 8, .mv (.c (.one (.p (.int .i64 0)))), none⟩] [0, 1, 7, 8])
  (.block 0
    (.loop
      (.seq
      (.ops [
        ⟨some 9, .bin 0 .lss (.t 8) (.t 7), none⟩] [0, 1, 7, 8, 9])
      (.seq
      (.cond (.t 9)
        .skip
        (.exit 0))
      (.seq
      (.block 1
        (.seq
        (.ops [
          ⟨some 10, .mv (.t 8), none⟩,
          ⟨some 5, .mv (.t 10), none⟩] [0, 1, 5, 7, 8])
        (.seq
        (.ops [
          ⟨some 11, .mv (.t 1), none⟩,
          ⟨some 12, .mv (.t 0), none⟩,
          ⟨some 13, .mv (.t 5), none⟩,
          ⟨some 14, .iaddr 1 (.t 12) (.t 13), none⟩,
          ⟨some 15, .load 1 false (.t 14), none⟩,
          ⟨some 16, .callv (.t 11) [(.t 15)], none⟩] [0, 1, 5, 7, 8, 16])
        (.cond (.t 16)
          (.seq
          (.ops [
            ⟨some 17, .mv (.t 5), none⟩,
            ⟨some 4, .mv (.t 17), none⟩] [4])
          .ret)
          .skip))))
      (.ops [
        ⟨some 18, .bin 0 .add (.t 8) (.c (.one (.p (.int .i64 1)))), none⟩,
        ⟨some 8, .mv (.t 18), none⟩] [0, 1, 7, 8])))))))
  (.seq
  (.ops [
    ⟨some 4, .mv (.c (.one (.p (.int .i64 (-1))))), none⟩] [4])
  .ret)))⟩
theorem m108 : mFn Try.prog d108 Try.f108 = true := by kernel_rfl
def slices_IndexFunc_int_int.A (o0_577 : Int) (o1_578 : (List Int)) : List Vv := [.one (.own 1 1 0 o1_578.length), .one (.fn 122 [.ptr 0 0])]
def slices_IndexFunc_int_int.S0 (o0_577 : Int) (o1_578 : (List Int)) : Sto := [.box [.p (.int .i64 o0_577)], .row 3 1 o1_578.length (o1_578.map en_i64)]
def slices_IndexFunc_int_int.R (o0_577 : Int) (o1_578 : (List Int)) (r_0 : Int) : Vv := .one (.p (.int .i64 r_0))
def slices_IndexFunc_int_int.S1 (o0_577 : Int) (o1_578 : (List Int)) (r_0 : Int) : Sto := [.box [.p (.int .i64 o0_577)], .row 3 1 o1_578.length (o1_578.map en_i64)]
def slices_IndexFunc_int_int.rs : List Rv := d108.res
def slices_IndexFunc_int_int.b : Sx := d108.body
def slices_IndexFunc_int_int_l1 : Nat → Int → Int → (List Int) → Int → Option ((Int) ⊕ (Unit))
  | 0, _, _, _, _ => none
  | k + 1, u_624, o0_626, o1_627, u_625 => (if u_625 < u_624 then ((idx o1_627 u_625).bind fun x_633 => ((caps_Table_Grant_1.f x_633 o0_626).bind fun t_634 => (if (x_633 == o0_626) = true then (some (.inl u_625)) else (slices_IndexFunc_int_int_l1 k u_624 o0_626 o1_627 (w64 (u_625 + 1)))))) else (some (.inr ())))
def slices_IndexFunc_int_int_l1.S (k : Nat) : Prop := ∀ (u_624 : Int) (o0_626 : Int) (o1_627 : (List Int)) (u_625 : Int) (v : (Int) ⊕ (Unit)), slices_IndexFunc_int_int_l1 k u_624 o0_626 o1_627 u_625 = some v → ∀ (res : Vv) (st : Sto), (∀ x_0, v = (.inl x_0) → ∀ k, RunE Try.prog ⟨2, slices_IndexFunc_int_int.rs, res, st⟩ (.st .ret k) [(4, .one (.p (.int .i64 x_0)))] [.box [.p (.int .i64 o0_626)], .row 3 1 o1_627.length (o1_627.map en_i64)]) → (∀ x_0, v = (.inr x_0) → RunE Try.prog ⟨2, slices_IndexFunc_int_int.rs, res, st⟩ (koAfter slices_IndexFunc_int_int.b [1, 0, 1]) [] [.box [.p (.int .i64 o0_626)], .row 3 1 o1_627.length (o1_627.map en_i64)]) → RunE Try.prog ⟨2, slices_IndexFunc_int_int.rs, res, st⟩ (koLoop slices_IndexFunc_int_int.b [1, 0, 1, 0]) [(0, .one (.own 1 1 0 o1_627.length)), (1, .one (.fn 122 [.ptr 0 0])), (7, .one (.p (.int .i64 u_624))), (8, .one (.p (.int .i64 u_625)))] [.box [.p (.int .i64 o0_626)], .row 3 1 o1_627.length (o1_627.map en_i64)]
theorem slices_IndexFunc_int_int_l1.z : slices_IndexFunc_int_int_l1.S 0 := fun _ _ _ _ v h => none_some h
theorem slices_IndexFunc_int_int_l1.step (k : Nat) (ih : slices_IndexFunc_int_int_l1.S k) : slices_IndexFunc_int_int_l1.S (k + 1) := by
  intro u_624 o0_626 o1_627 u_625 v h res st c0 c1
  rw [slices_IndexFunc_int_int_l1] at h
  rcases ite_some h with ⟨c_632, h⟩ | ⟨c_632, h⟩
  · obtain ⟨x_633, hx_633, h⟩ := bind_some h
    obtain ⟨t_634, ht_634, h⟩ := bind_some h
    refine pathE 472 [.b true, .c (en_i64 x_633), .call [0] (caps_Table_Grant_1.R x_633 o0_626 t_634) (caps_Table_Grant_1.S1 x_633 o0_626 t_634), .i 1, .keep [0, 1, 5, 7, 8, 16], .stop] (ai (decide_eq_true c_632) <| ai (idx_ownE (m := o1_627.length) rfl hx_633) <| ai (idx_ob en_i64 hx_633).2 <| ai (caps_Table_Grant_1.ok x_633 o0_626 t_634 ht_634) <| (?_ : RunE Try.prog ⟨2, slices_IndexFunc_int_int.rs, res, st⟩ (koOf slices_IndexFunc_int_int.b .done [1, 0, 1, 0, 0, 1, 1, 0, 0, 1, 1]) [(0, .one (.own 1 1 0 o1_627.length)), (1, .one (.fn 122 [.ptr 0 0])), (5, .one (.p (.int .i64 u_625))), (7, .one (.p (.int .i64 u_624))), (8, .one (.p (.int .i64 u_625))), (16, .one (.p (.bool (x_633 == o0_626))))] [.box [.p (.int .i64 o0_626)], .row 3 1 o1_627.length (o1_627.map en_i64)])) (by kernel_rfl)
    rcases ite_some h with ⟨c_635, h⟩ | ⟨c_635, h⟩
    · obtain rfl := Option.some.inj h
      exact pathE 448 [.b true, .i 5, .keep [4], .stop] (ai c_635 <| ((c0 u_625 rfl) (koAfter slices_IndexFunc_int_int.b [1, 0, 1, 0, 0, 1, 1, 0, 0, 1, 1, 0, 1]))) (by kernel_rfl)
    · exact pathE 448 [.b false, .i 6, .keep [0, 1, 7, 8], .stop] (ai (bool_false c_635) <| (ih u_624 o0_626 o1_627 (w64 (u_625 + 1)) _ h res st c0 c1)) (by kernel_rfl)
  · obtain rfl := Option.some.inj h
    exact pathE 448 [.b false, .i 1, .keep [], .stop] (ai (decide_eq_false c_632) <| (c1 () rfl)) (by kernel_rfl)
theorem slices_IndexFunc_int_int_l1.ok : ∀ k, slices_IndexFunc_int_int_l1.S k
  | 0 => slices_IndexFunc_int_int_l1.z
  | k + 1 => slices_IndexFunc_int_int_l1.step k (slices_IndexFunc_int_int_l1.ok k)
def slices_IndexFunc_int_int.f (k : Nat) (o0_577 : Int) (o1_578 : (List Int)) : Option (Int) := (Option.bind (slices_IndexFunc_int_int_l1 k (o1_578.length : Int) o0_577 o1_578 0) (Sum.elim (fun x_637 => (some x_637)) (fun x_638 => (some (-1)))))
theorem slices_IndexFunc_int_int.run (k : Nat) (o0_577 : Int) (o1_578 : (List Int)) (r : Int) (h : slices_IndexFunc_int_int.f k o0_577 o1_578 = some r) (res : Vv) (st : Sto) (hr : (slices_IndexFunc_int_int.R o0_577 o1_578 r, slices_IndexFunc_int_int.S1 o0_577 o1_578 r) = (res, st)) : RunE Try.prog ⟨2, slices_IndexFunc_int_int.rs, res, st⟩ (.st slices_IndexFunc_int_int.b .done) (argE 0 (slices_IndexFunc_int_int.A o0_577 o1_578)) (slices_IndexFunc_int_int.S0 o0_577 o1_578) := by
  unfold slices_IndexFunc_int_int.f at h
  obtain ⟨v_636, hv_636, h⟩ := bind_some h
  refine pathE 436 [.i 13, .keep [0, 1, 7, 8], .stop] ((slices_IndexFunc_int_int_l1.ok k (o1_578.length : Int) o0_577 o1_578 0 v_636 hv_636 res st ?_ ?_)) (by kernel_rfl)
  · intro x_637 hx
    subst hx
    replace h := sum_l h
    intro k
    obtain rfl := Option.some.inj h
    exact pathE 412 [.fin [0, 1]] (hr) (by kernel_rfl)
  · intro x_638 hx
    subst hx
    replace h := sum_r h
    obtain rfl := Option.some.inj h
    exact pathE 424 [.i 4, .fin [0, 1]] (hr) (by kernel_rfl)
theorem slices_IndexFunc_int_int.ok (k : Nat) (o0_577 : Int) (o1_578 : (List Int)) (r : Int) (h : slices_IndexFunc_int_int.f k o0_577 o1_578 = some r) : OkS Try.prog 108 (slices_IndexFunc_int_int.A o0_577 o1_578) (slices_IndexFunc_int_int.S0 o0_577 o1_578) (slices_IndexFunc_int_int.R o0_577 o1_578 r) (slices_IndexFunc_int_int.S1 o0_577 o1_578 r) := okE Try.func108 m108 rfl rfl rfl (slices_IndexFunc_int_int.run k o0_577 o1_578 r h _ _ rfl)
-- 64 (*glazier/caps.Table).Grant
def d64 : FnDef := ⟨41, [.tmp 4, .tmp 5],
  (.seq
  (.ops [
    ⟨some 3, .box (.t 1), none⟩,
    ⟨some 4, .mv (.c (.one (.p (.int .i64 0)))), none⟩,
    ⟨some 5, .mv (.c (.one (.p (.int .i64 0)))), none⟩] [0, 3])
  (.seq
  (.seq
  (.ops [
    ⟨some 7, .mv (.t 0), none⟩,
    ⟨some 8, .call 121 [(.t 7)], none⟩,
    ⟨some 9, .un .not (.t 8), none⟩] [0, 3, 9])
  (.cond (.t 9)
    (.seq
    (.ops [
      ⟨some 4, .mv (.c (.one (.p (.int .i64 0)))), none⟩,
      ⟨some 5, .mv (.c (.one (.p (.int .i64 9)))), none⟩] [4, 5])
    .ret)
    .skip))
  (.seq
  (.seq
  (.ops [
    ⟨some 10, .mv (.t 0), none⟩,
    ⟨some 11, .nilck (.t 10), none⟩,
    ⟨some 12, .faddr 1 (.t 11), none⟩,
    ⟨some 13, .load 1 false (.t 12), none⟩,
    ⟨some 14, .mkfn 122 [(.t 3)], none⟩,
    ⟨some 15, .call 108 [(.t 13), (.t 14)], none⟩,
    ⟨some 6, .mv (.t 15), none⟩] [0, 3, 6])
  (.seq
  (.ops [
    ⟨some 16, .mv (.t 6), none⟩,
    ⟨some 17, .bin 0 .geq (.t 16) (.c (.one (.p (.int .i64 0)))), none⟩] [0, 3, 6, 17])
  (.cond (.t 17)
    (.seq
    (.ops [
      ⟨some 18, .mv (.t 6), none⟩,
      ⟨some 19, .bin 0 .add (.t 18) (.c (.one (.p (.int .i64 1)))), none⟩,
      ⟨some 4, .mv (.t 19), none⟩,
      ⟨some 5, .mv (.c (.one (.p (.int .i64 0)))), none⟩] [4, 5])
    .ret)
    .skip)))
  (.seq
  (.seq
  (.ops [
    ⟨some 20, .mv (.t 0), none⟩,
    ⟨some 21, .nilck (.t 20), none⟩,
    ⟨some 22, .faddr 1 (.t 21), none⟩,
    ⟨some 23, .load 1 false (.t 22), none⟩,
    ⟨some 24, .len false (.t 23), none⟩,
    ⟨some 25, .bin 0 .geq (.t 24) (.c (.one (.p (.int .i64 64)))), none⟩] [0, 3, 25])
  (.cond (.t 25)
    (.seq
    (.ops [
      ⟨some 4, .mv (.c (.one (.p (.int .i64 0)))), none⟩,
      ⟨some 5, .mv (.c (.one (.p (.int .i64 10)))), none⟩] [4, 5])
    .ret)
    .skip))
  (.seq
  (.drawn [
    ⟨⟨some 26, .mv (.t 0), none⟩, [], false⟩,
    ⟨⟨some 27, .mv (.t 0), none⟩, [], false⟩,
    ⟨⟨some 28, .nilck (.t 27), none⟩, [1], false⟩,
    ⟨⟨some 29, .faddr 1 (.t 28), none⟩, [1, 2], false⟩,
    ⟨⟨some 30, .load 1 false (.t 29), none⟩, [1, 2, 3], false⟩,
    ⟨⟨some 31, .load 1 false (.t 3), none⟩, [], false⟩,
    ⟨⟨some 32, .bslice 3 1 [(.t 31)], none⟩, [5], true⟩,
    ⟨⟨some 33, .app 3 1 8 (.t 30) (.t 32), none⟩, [1, 2, 3, 4, 5, 6], true⟩,
    ⟨⟨some 34, .nilck (.t 26), none⟩, [0, 1, 2, 3, 4, 5, 6, 7], false⟩,
    ⟨⟨some 35, .faddr 1 (.t 34), none⟩, [0, 1, 2, 3, 4, 5, 6, 7, 8], false⟩,
    ⟨⟨none, .store 1 (.t 35) (.t 33), none⟩, [0, 1, 2, 3, 4, 5, 6, 7, 8, 9], true⟩] [[], [6], [6, 7], [6, 7, 10]] [0])
  (.seq
  (.ops [
    ⟨some 36, .mv (.t 0), none⟩,
    ⟨some 37, .nilck (.t 36), none⟩,
    ⟨some 38, .faddr 1 (.t 37), none⟩,
    ⟨some 39, .load 1 false (.t 38), none⟩,
    ⟨some 40, .len false (.t 39), none⟩,
    ⟨some 4, .mv (.t 40), none⟩,
    ⟨some 5, .mv (.c (.one (.p (.int .i64 0)))), none⟩] [4, 5])
  .ret))))))⟩
theorem m64 : mFn Try.prog d64 Try.f64 = true := by kernel_rfl
def caps_Table_Grant.A (id_572 : Int) (o0_573 : Int) (o1_574 : (List Int)) : List Vv := [.one (.ptr 0 0), .one (.p (.int .i64 id_572))]
def caps_Table_Grant.S0 (id_572 : Int) (o0_573 : Int) (o1_574 : (List Int)) : Sto := [.box [.p (.int .i64 o0_573), .own 1 1 0 o1_574.length], .row 3 1 o1_574.length (o1_574.map en_i64)]
def caps_Table_Grant.R (id_572 : Int) (o0_573 : Int) (o1_574 : (List Int)) (r_0 : Int × Int × (List Int)) : Vv := .tup [.one (.p (.int .i64 r_0.1)), .one (.p (.int .i64 r_0.2.1))]
def caps_Table_Grant.S1 (id_572 : Int) (o0_573 : Int) (o1_574 : (List Int)) (r_0 : Int × Int × (List Int)) : Sto := [.box [.p (.int .i64 o0_573), .own 2 1 0 r_0.2.2.length], .none, .row 3 1 r_0.2.2.length (r_0.2.2.map en_i64)]
def caps_Table_Grant.rs : List Rv := d64.res
def caps_Table_Grant.b : Sx := d64.body
def caps_Table_Grant.f (k : Nat) (id_572 : Int) (o0_573 : Int) (o1_574 : (List Int)) : Option (Int × Int × (List Int)) := ((caps_Table_is.f o0_573 o1_574).bind fun t_649 => (if (!(decide ((o1_574.length : Int) > 0))) = true then (some (0, 9, o1_574)) else ((slices_IndexFunc_int_int.f k id_572 o1_574).bind fun t_651 => (if t_651 ≥ 0 then (some ((w64 (t_651 + 1)), 0, o1_574)) else (if (o1_574.length : Int) ≥ 64 then (some (0, 10, o1_574)) else (if (o1_574 ++ ([id_572] : List Int)).length * 8 ≤ room then (some (((o1_574 ++ ([id_572] : List Int)).length : Int), 0, (o1_574 ++ ([id_572] : List Int)))) else none))))))
theorem caps_Table_Grant.run (k : Nat) (id_572 : Int) (o0_573 : Int) (o1_574 : (List Int)) (r : Int × Int × (List Int)) (h : caps_Table_Grant.f k id_572 o0_573 o1_574 = some r) (res : Vv) (st : Sto) (hr : (caps_Table_Grant.R id_572 o0_573 o1_574 r, caps_Table_Grant.S1 id_572 o0_573 o1_574 r) = (res, st)) : RunE Try.prog ⟨2, caps_Table_Grant.rs, res, st⟩ (.st caps_Table_Grant.b .done) (argE 0 (caps_Table_Grant.A id_572 o0_573 o1_574)) (caps_Table_Grant.S0 id_572 o0_573 o1_574) := by
  unfold caps_Table_Grant.f at h
  obtain ⟨t_649, ht_649, h⟩ := bind_some h
  rcases ite_some h with ⟨c_650, h⟩ | ⟨c_650, h⟩
  · obtain rfl := Option.some.inj h
    exact pathE 460 [.call [0, 1] (caps_Table_is.R o0_573 o1_574 t_649) (caps_Table_is.S1 o0_573 o1_574 t_649), .b true, .i 5, .mv 1, .fin [0, 1, 3]] (ai (caps_Table_is.ok o0_573 o1_574 t_649 ht_649) <| ai c_650 <| hr) (by kernel_rfl)
  · obtain ⟨t_651, ht_651, h⟩ := bind_some h
    refine pathE 472 [.call [0, 1] (caps_Table_is.R o0_573 o1_574 t_649) (caps_Table_is.S1 o0_573 o1_574 t_649), .b false, .call [2, 1] (slices_IndexFunc_int_int.R id_572 o1_574 t_651) (slices_IndexFunc_int_int.S1 id_572 o1_574 t_651), .i 7, .keep [0, 3, 6, 17], .stop] (ai (caps_Table_is.ok o0_573 o1_574 t_649 ht_649) <| ai (bool_false c_650) <| ai (slices_IndexFunc_int_int.ok k id_572 o1_574 t_651 ht_651) <| (?_ : RunE Try.prog ⟨2, caps_Table_Grant.rs, res, st⟩ (koOf caps_Table_Grant.b .done [1, 1, 0, 1, 1]) [(0, .one (.ptr 0 0)), (3, .one (.ptr 2 0)), (6, .one (.p (.int .i64 t_651))), (17, .one (.p (.bool (decide (t_651 ≥ 0)))))] [.box [.p (.int .i64 o0_573), .own 1 1 0 o1_574.length], .row 3 1 o1_574.length (o1_574.map en_i64), .box [.p (.int .i64 id_572)]])) (by kernel_rfl)
    rcases ite_some h with ⟨c_652, h⟩ | ⟨c_652, h⟩
    · obtain rfl := Option.some.inj h
      exact pathE 448 [.b true, .i 7, .mv 1, .fin [0, 1, 3]] (ai (decide_eq_true c_652) <| hr) (by kernel_rfl)
    · rcases ite_some h with ⟨c_653, h⟩ | ⟨c_653, h⟩
      · obtain rfl := Option.some.inj h
        exact pathE 460 [.b false, .b true, .i 5, .mv 1, .fin [0, 1, 3]] (ai (decide_eq_false c_652) <| ai (decide_eq_true c_653) <| hr) (by kernel_rfl)
      · obtain ⟨g_654, h⟩ := guard_some h
        obtain rfl := Option.some.inj h
        exact pathE 460 [.b false, .b false, .dr 0 [[], [], [], [], [], [], [], [.a (([id_572] : List Int).map en_i64) ((o1_574 ++ ([id_572] : List Int)).map en_i64) (o1_574 ++ ([id_572] : List Int)).length], [], [], []] [.one (.ptr 0 0), .one (.ptr 0 0), .one (.ptr 0 0), .one (.ptr 0 1), .one (.own 1 1 0 o1_574.length), .one (.p (.int .i64 id_572)), .one (.own 3 1 0 1), .one (.own 4 1 0 (o1_574 ++ ([id_572] : List Int)).length), .one (.ptr 0 0), .one (.ptr 0 1), .top] [[], [], [], [], [], [], [(3, .row 3 1 1 (([id_572] : List Int).map en_i64))], [(1, .none), (4, .row 3 1 (o1_574 ++ ([id_572] : List Int)).length ((o1_574 ++ ([id_572] : List Int)).map en_i64))], [], [], [(0, .box [.p (.int .i64 o0_573), .own 4 1 0 (o1_574 ++ ([id_572] : List Int)).length])]], .i 10, .fin [0, 1, 4]] (ai (decide_eq_false c_652) <| ai (decide_eq_false c_653) <| ai (set_obE en_i64 (l := ([id_572] : List Int)) (m := 1) rfl) <| ai (appo_obE en_i64 (l := o1_574) (m := ([id_572] : List Int)) (n := o1_574.length) rfl (b := 8) g_654) <| ai (drE caps_Table_Grant.b [1, 1, 1, 1, 0] [.one (.ptr 0 0), .one (.ptr 0 0), .one (.ptr 0 0), .one (.ptr 0 1), .one (.own 1 1 0 o1_574.length), .one (.p (.int .i64 id_572)), .one (.own 3 1 0 1), .one (.own 4 1 0 (o1_574 ++ ([id_572] : List Int)).length), .one (.ptr 0 0), .one (.ptr 0 1), .top] [[], [], [], [], [], [], [(3, .row 3 1 1 (([id_572] : List Int).map en_i64))], [(1, .none), (4, .row 3 1 (o1_574 ++ ([id_572] : List Int)).length ((o1_574 ++ ([id_572] : List Int)).map en_i64))], [], [], [(0, .box [.p (.int .i64 o0_573), .own 4 1 0 (o1_574 ++ ([id_572] : List Int)).length])]] ([.box [.p (.int .i64 o0_573), .own 1 1 0 o1_574.length], .row 3 1 o1_574.length (o1_574.map en_i64), .box [.p (.int .i64 id_572)]] ++ List.replicate 0 .res)) <| hr) (by kernel_rfl)
theorem caps_Table_Grant.ok (k : Nat) (id_572 : Int) (o0_573 : Int) (o1_574 : (List Int)) (r : Int × Int × (List Int)) (h : caps_Table_Grant.f k id_572 o0_573 o1_574 = some r) : OkS Try.prog 64 (caps_Table_Grant.A id_572 o0_573 o1_574) (caps_Table_Grant.S0 id_572 o0_573 o1_574) (caps_Table_Grant.R id_572 o0_573 o1_574 r) (caps_Table_Grant.S1 id_572 o0_573 o1_574 r) := okE Try.func64 m64 rfl rfl rfl (caps_Table_Grant.run k id_572 o0_573 o1_574 r h _ _ rfl)
-- 172 glazier/dom.without$1
def d172 : FnDef := ⟨7, [.tmp 3],
  (.seq
  (.ops [
    ⟨some 3, .mv (.c (.one (.p (.bool false)))), none⟩] [0, 1])
  (.seq
  (.ops [
    ⟨some 4, .mv (.t 0), none⟩,
    ⟨some 5, .load 1 false (.t 1), none⟩,
    ⟨some 6, .bin 0 .eql (.t 4) (.t 5), none⟩,
    ⟨some 3, .mv (.t 6), none⟩] [3])
  .ret))⟩
theorem m172 : mFn Try.prog d172 Try.f172 = true := by kernel_rfl
def dom_without_1.A (k_683 : Int) (o0_684 : Int) : List Vv := [.one (.p (.int .i64 k_683)), .one (.ptr 0 0)]
def dom_without_1.S0 (k_683 : Int) (o0_684 : Int) : Sto := [.box [.p (.int .i64 o0_684)]]
def dom_without_1.R (k_683 : Int) (o0_684 : Int) (r_0 : Unit) : Vv := .one (.p (.bool (k_683 == o0_684)))
def dom_without_1.S1 (k_683 : Int) (o0_684 : Int) (r_0 : Unit) : Sto := [.box [.p (.int .i64 o0_684)]]
def dom_without_1.rs : List Rv := d172.res
def dom_without_1.b : Sx := d172.body
def dom_without_1.f (k_683 : Int) (o0_684 : Int) : Option (Unit) := (some ())
theorem dom_without_1.run (k_683 : Int) (o0_684 : Int) (r : Unit) (h : dom_without_1.f k_683 o0_684 = some r) (res : Vv) (st : Sto) (hr : (dom_without_1.R k_683 o0_684 r, dom_without_1.S1 k_683 o0_684 r) = (res, st)) : RunE Try.prog ⟨1, dom_without_1.rs, res, st⟩ (.st dom_without_1.b .done) (argE 0 (dom_without_1.A k_683 o0_684)) (dom_without_1.S0 k_683 o0_684) := by
  unfold dom_without_1.f at h
  obtain rfl := Option.some.inj h
  exact pathE 424 [.i 11, .fin [0]] (hr) (by kernel_rfl)
theorem dom_without_1.ok (k_683 : Int) (o0_684 : Int) (r : Unit) (h : dom_without_1.f k_683 o0_684 = some r) : OkS Try.prog 172 (dom_without_1.A k_683 o0_684) (dom_without_1.S0 k_683 o0_684) (dom_without_1.R k_683 o0_684 r) (dom_without_1.S1 k_683 o0_684 r) := okE Try.func172 m172 rfl rfl rfl (dom_without_1.run k_683 o0_684 r h _ _ rfl)
-- 108 slices.IndexFunc[[]int,int]
-- (its code: d108)
def slices_IndexFunc_int_int_v1.A (o0_676 : Int) (o1_677 : (List Int)) : List Vv := [.one (.own 1 1 0 o1_677.length), .one (.fn 172 [.ptr 0 0])]
def slices_IndexFunc_int_int_v1.S0 (o0_676 : Int) (o1_677 : (List Int)) : Sto := [.box [.p (.int .i64 o0_676)], .row 3 1 o1_677.length (o1_677.map en_i64)]
def slices_IndexFunc_int_int_v1.R (o0_676 : Int) (o1_677 : (List Int)) (r_0 : Int) : Vv := .one (.p (.int .i64 r_0))
def slices_IndexFunc_int_int_v1.S1 (o0_676 : Int) (o1_677 : (List Int)) (r_0 : Int) : Sto := [.box [.p (.int .i64 o0_676)], .row 3 1 o1_677.length (o1_677.map en_i64)]
def slices_IndexFunc_int_int_v1.rs : List Rv := d108.res
def slices_IndexFunc_int_int_v1.b : Sx := d108.body
def slices_IndexFunc_int_int_v1_l1 : Nat → Int → Int → (List Int) → Int → Option ((Int) ⊕ (Unit))
  | 0, _, _, _, _ => none
  | k + 1, u_723, o0_725, o1_726, u_724 => (if u_724 < u_723 then ((idx o1_726 u_724).bind fun x_732 => ((dom_without_1.f x_732 o0_725).bind fun t_733 => (if (x_732 == o0_725) = true then (some (.inl u_724)) else (slices_IndexFunc_int_int_v1_l1 k u_723 o0_725 o1_726 (w64 (u_724 + 1)))))) else (some (.inr ())))
def slices_IndexFunc_int_int_v1_l1.S (k : Nat) : Prop := ∀ (u_723 : Int) (o0_725 : Int) (o1_726 : (List Int)) (u_724 : Int) (v : (Int) ⊕ (Unit)), slices_IndexFunc_int_int_v1_l1 k u_723 o0_725 o1_726 u_724 = some v → ∀ (res : Vv) (st : Sto), (∀ x_0, v = (.inl x_0) → ∀ k, RunE Try.prog ⟨2, slices_IndexFunc_int_int_v1.rs, res, st⟩ (.st .ret k) [(4, .one (.p (.int .i64 x_0)))] [.box [.p (.int .i64 o0_725)], .row 3 1 o1_726.length (o1_726.map en_i64)]) → (∀ x_0, v = (.inr x_0) → RunE Try.prog ⟨2, slices_IndexFunc_int_int_v1.rs, res, st⟩ (koAfter slices_IndexFunc_int_int_v1.b [1, 0, 1]) [] [.box [.p (.int .i64 o0_725)], .row 3 1 o1_726.length (o1_726.map en_i64)]) → RunE Try.prog ⟨2, slices_IndexFunc_int_int_v1.rs, res, st⟩ (koLoop slices_IndexFunc_int_int_v1.b [1, 0, 1, 0]) [(0, .one (.own 1 1 0 o1_726.length)), (1, .one (.fn 172 [.ptr 0 0])), (7, .one (.p (.int .i64 u_723))), (8, .one (.p (.int .i64 u_724)))] [.box [.p (.int .i64 o0_725)], .row 3 1 o1_726.length (o1_726.map en_i64)]
theorem slices_IndexFunc_int_int_v1_l1.z : slices_IndexFunc_int_int_v1_l1.S 0 := fun _ _ _ _ v h => none_some h
theorem slices_IndexFunc_int_int_v1_l1.step (k : Nat) (ih : slices_IndexFunc_int_int_v1_l1.S k) : slices_IndexFunc_int_int_v1_l1.S (k + 1) := by
  intro u_723 o0_725 o1_726 u_724 v h res st c0 c1
  rw [slices_IndexFunc_int_int_v1_l1] at h
  rcases ite_some h with ⟨c_731, h⟩ | ⟨c_731, h⟩
  · obtain ⟨x_732, hx_732, h⟩ := bind_some h
    obtain ⟨t_733, ht_733, h⟩ := bind_some h
    refine pathE 472 [.b true, .c (en_i64 x_732), .call [0] (dom_without_1.R x_732 o0_725 t_733) (dom_without_1.S1 x_732 o0_725 t_733), .i 1, .keep [0, 1, 5, 7, 8, 16], .stop] (ai (decide_eq_true c_731) <| ai (idx_ownE (m := o1_726.length) rfl hx_732) <| ai (idx_ob en_i64 hx_732).2 <| ai (dom_without_1.ok x_732 o0_725 t_733 ht_733) <| (?_ : RunE Try.prog ⟨2, slices_IndexFunc_int_int_v1.rs, res, st⟩ (koOf slices_IndexFunc_int_int_v1.b .done [1, 0, 1, 0, 0, 1, 1, 0, 0, 1, 1]) [(0, .one (.own 1 1 0 o1_726.length)), (1, .one (.fn 172 [.ptr 0 0])), (5, .one (.p (.int .i64 u_724))), (7, .one (.p (.int .i64 u_723))), (8, .one (.p (.int .i64 u_724))), (16, .one (.p (.bool (x_732 == o0_725))))] [.box [.p (.int .i64 o0_725)], .row 3 1 o1_726.length (o1_726.map en_i64)])) (by kernel_rfl)
    rcases ite_some h with ⟨c_734, h⟩ | ⟨c_734, h⟩
    · obtain rfl := Option.some.inj h
      exact pathE 448 [.b true, .i 5, .keep [4], .stop] (ai c_734 <| ((c0 u_724 rfl) (koAfter slices_IndexFunc_int_int_v1.b [1, 0, 1, 0, 0, 1, 1, 0, 0, 1, 1, 0, 1]))) (by kernel_rfl)
    · exact pathE 448 [.b false, .i 6, .keep [0, 1, 7, 8], .stop] (ai (bool_false c_734) <| (ih u_723 o0_725 o1_726 (w64 (u_724 + 1)) _ h res st c0 c1)) (by kernel_rfl)
  · obtain rfl := Option.some.inj h
    exact pathE 448 [.b false, .i 1, .keep [], .stop] (ai (decide_eq_false c_731) <| (c1 () rfl)) (by kernel_rfl)
theorem slices_IndexFunc_int_int_v1_l1.ok : ∀ k, slices_IndexFunc_int_int_v1_l1.S k
  | 0 => slices_IndexFunc_int_int_v1_l1.z
  | k + 1 => slices_IndexFunc_int_int_v1_l1.step k (slices_IndexFunc_int_int_v1_l1.ok k)
def slices_IndexFunc_int_int_v1.f (k : Nat) (o0_676 : Int) (o1_677 : (List Int)) : Option (Int) := (Option.bind (slices_IndexFunc_int_int_v1_l1 k (o1_677.length : Int) o0_676 o1_677 0) (Sum.elim (fun x_736 => (some x_736)) (fun x_737 => (some (-1)))))
theorem slices_IndexFunc_int_int_v1.run (k : Nat) (o0_676 : Int) (o1_677 : (List Int)) (r : Int) (h : slices_IndexFunc_int_int_v1.f k o0_676 o1_677 = some r) (res : Vv) (st : Sto) (hr : (slices_IndexFunc_int_int_v1.R o0_676 o1_677 r, slices_IndexFunc_int_int_v1.S1 o0_676 o1_677 r) = (res, st)) : RunE Try.prog ⟨2, slices_IndexFunc_int_int_v1.rs, res, st⟩ (.st slices_IndexFunc_int_int_v1.b .done) (argE 0 (slices_IndexFunc_int_int_v1.A o0_676 o1_677)) (slices_IndexFunc_int_int_v1.S0 o0_676 o1_677) := by
  unfold slices_IndexFunc_int_int_v1.f at h
  obtain ⟨v_735, hv_735, h⟩ := bind_some h
  refine pathE 436 [.i 13, .keep [0, 1, 7, 8], .stop] ((slices_IndexFunc_int_int_v1_l1.ok k (o1_677.length : Int) o0_676 o1_677 0 v_735 hv_735 res st ?_ ?_)) (by kernel_rfl)
  · intro x_736 hx
    subst hx
    replace h := sum_l h
    intro k
    obtain rfl := Option.some.inj h
    exact pathE 412 [.fin [0, 1]] (hr) (by kernel_rfl)
  · intro x_737 hx
    subst hx
    replace h := sum_r h
    obtain rfl := Option.some.inj h
    exact pathE 424 [.i 4, .fin [0, 1]] (hr) (by kernel_rfl)
theorem slices_IndexFunc_int_int_v1.ok (k : Nat) (o0_676 : Int) (o1_677 : (List Int)) (r : Int) (h : slices_IndexFunc_int_int_v1.f k o0_676 o1_677 = some r) : OkS Try.prog 108 (slices_IndexFunc_int_int_v1.A o0_676 o1_677) (slices_IndexFunc_int_int_v1.S0 o0_676 o1_677) (slices_IndexFunc_int_int_v1.R o0_676 o1_677 r) (slices_IndexFunc_int_int_v1.S1 o0_676 o1_677 r) := okE Try.func108 m108 rfl rfl rfl (slices_IndexFunc_int_int_v1.run k o0_676 o1_677 r h _ _ rfl)
-- 171 slices.DeleteFunc[[]int,int]
def d171 : FnDef := ⟨42, [.tmp 4],
  (.seq
  (.ops [
    ⟨some 4, .mv (.c (.one (.nil 1))), none⟩] [0, 1])
  (.seq
  (.ops [
    ⟨some 8, .mv (.t 0), none⟩,
    ⟨some 9, .mv (.t 1), none⟩,
    ⟨some 10, .call 108 [(.t 8), (.t 9)], none⟩,
    ⟨some 5, .mv (.t 10), none⟩] [0, 1, 5])
  (.seq
  (.seq
  (.ops [
    ⟨some 11, .mv (.t 5), none⟩,
    ⟨some 12, .bin 0 .eql (.t 11) (.c (.one (.p (.int .i64 (-1))))), none⟩] [0, 1, 5, 12])
  (.cond (.t 12)
    (.seq
    (.ops [
      ⟨some 13, .mv (.t 0), none⟩,
      ⟨some 4, .mv (.t 13), none⟩] [4])
    .ret)
    .skip))
  (.seq
  (.seq
  (.ops [
    ⟨some 14, .mv (.t 5), none⟩,
    ⟨some 15, .bin 0 .add (.t 14) (.c (.one (.p (.int .i64 1)))), none⟩,
    ⟨some 6, .mv (.t 15), none⟩] [0, 1, 5, 6])
  (.block 0
    (.loop
      (.seq
      (.seq
      (.ops [
        ⟨some 16, .mv (.t 6), none⟩,
        ⟨some 17, .mv (.t 0), none⟩,
        ⟨some 18, .len false (.t 17), none⟩,
        ⟨some 19, .bin 0 .lss (.t 16) (.t 18), none⟩] [0, 1, 5, 6, 19])
      (.cond (.t 19)
        .skip
        (.exit 0)))
      (.seq
      (.block 1
        (.seq
        (.ops [
          ⟨some 22, .mv (.t 0), none⟩,
          ⟨some 23, .mv (.t 6), none⟩,
          ⟨some 24, .iaddr 1 (.t 22) (.t 23), none⟩,
          ⟨some 25, .load 1 false (.t 24), none⟩,
          ⟨some 7, .mv (.t 25), none⟩] [0, 1, 5, 6, 7])
        (.seq
        (.ops [
          ⟨some 26, .mv (.t 1), none⟩,
          ⟨some 27, .mv (.t 7), none⟩,
          ⟨some 28, .callv (.t 26) [(.t 27)], none⟩,
          ⟨some 29, .un .not (.t 28), none⟩] [0, 1, 5, 6, 7, 29])
        (.cond (.t 29)
          (.seq
          (.ops [
            ⟨some 30, .mv (.t 0), none⟩,
            ⟨some 31, .mv (.t 5), none⟩,
            ⟨some 32, .mv (.t 7), none⟩,
            ⟨some 33, .iaddr 1 (.t 30) (.t 31), none⟩,
            ⟨none, .store 1 (.t 33) (.t 32), none⟩] [0, 1, 5, 6])
          (.ops [
            ⟨some 34, .mv (.t 5), none⟩,
            ⟨some 35, .bin 0 .add (.t 34) (.c (.one (.p (.int .i64 1)))), none⟩,
            ⟨some 5, .mv (.t 35), none⟩] [0, 1, 5, 6]))
          .skip))))
      (.ops [
        ⟨some 20, .mv (.t 6), none⟩,
        ⟨some 21, .bin 0 .add (.t 20) (.c (.one (.p (.int .i64 1)))), none⟩,
        ⟨some 6, .mv (.t 21), none⟩] [0, 1, 5, 6]))))))
  (.seq
  (.ops [
    ⟨some 36, .mv (.t 0), none⟩,
    ⟨some 37, .mv (.t 5), none⟩,
    ⟨some 38, .slc 1 (.t 36) (some (.t 37)) none, none⟩,
    ⟨none, .clear [.p (.int .i64 0)] (.t 38), none⟩] [0, 5])
  (.seq
  (.ops [
    ⟨some 39, .mv (.t 0), none⟩,
    ⟨some 40, .mv (.t 5), none⟩,
    ⟨some 41, .slc 1 (.t 39) none (some (.t 40)), none⟩,
    ⟨some 4, .mv (.t 41), none⟩] [4])
  .ret))))))⟩
theorem m171 : mFn Try.prog d171 Try.f171 = true := by kernel_rfl
def slices_DeleteFunc_int_int.A (o0_674 : Int) (o1_675 : (List Int)) : List Vv := [.one (.own 1 1 0 o1_675.length), .one (.fn 172 [.ptr 0 0])]
def slices_DeleteFunc_int_int.S0 (o0_674 : Int) (o1_675 : (List Int)) : Sto := [.box [.p (.int .i64 o0_674)], .row 3 1 o1_675.length (o1_675.map en_i64)]
def slices_DeleteFunc_int_int.R (o0_674 : Int) (o1_675 : (List Int)) (r_0 : (List Int)) : Vv := .one (.own 2 1 0 r_0.length)
def slices_DeleteFunc_int_int.S1 (o0_674 : Int) (o1_675 : (List Int)) (r_0 : (List Int)) : Sto := [.box [.p (.int .i64 o0_674)], .none, .row 3 1 r_0.length (r_0.map en_i64)]
def slices_DeleteFunc_int_int.rs : List Rv := d171.res
def slices_DeleteFunc_int_int.b : Sx := d171.body
def slices_DeleteFunc_int_int_l1 : Nat → Int → Int → Int → (List Int) → Option ((Int × (List Int)))
  | 0, _, _, _, _ => none
  | k + 1, o0_797, i_795, j_796, o1_798 => (if j_796 < (o1_798.length : Int) then ((idx o1_798 j_796).bind fun x_805 => ((dom_without_1.f x_805 o0_797).bind fun t_806 => (if (!(x_805 == o0_797)) = true then ((idx o1_798 i_795).bind fun x_808 => (slices_DeleteFunc_int_int_l1 k o0_797 (w64 (i_795 + 1)) (w64 (j_796 + 1)) (o1_798.set (Int.toNat i_795) x_805))) else (slices_DeleteFunc_int_int_l1 k o0_797 i_795 (w64 (j_796 + 1)) o1_798)))) else (some (i_795, o1_798)))
def slices_DeleteFunc_int_int_l1.S (k : Nat) : Prop := ∀ (o0_797 : Int) (i_795 : Int) (j_796 : Int) (o1_798 : (List Int)) (v : (Int × (List Int))), slices_DeleteFunc_int_int_l1 k o0_797 i_795 j_796 o1_798 = some v → ∀ (res : Vv) (st : Sto), (∀ x_0, v = x_0 → RunE Try.prog ⟨2, slices_DeleteFunc_int_int.rs, res, st⟩ (koAfter slices_DeleteFunc_int_int.b [1, 1, 1, 0, 1]) [(0, .one (.own 1 1 0 x_0.2.length)), (5, .one (.p (.int .i64 x_0.1)))] [.box [.p (.int .i64 o0_797)], .row 3 1 x_0.2.length (x_0.2.map en_i64)]) → RunE Try.prog ⟨2, slices_DeleteFunc_int_int.rs, res, st⟩ (koLoop slices_DeleteFunc_int_int.b [1, 1, 1, 0, 1, 0]) [(0, .one (.own 1 1 0 o1_798.length)), (1, .one (.fn 172 [.ptr 0 0])), (5, .one (.p (.int .i64 i_795))), (6, .one (.p (.int .i64 j_796)))] [.box [.p (.int .i64 o0_797)], .row 3 1 o1_798.length (o1_798.map en_i64)]
theorem slices_DeleteFunc_int_int_l1.z : slices_DeleteFunc_int_int_l1.S 0 := fun _ _ _ _ v h => none_some h
theorem slices_DeleteFunc_int_int_l1.step (k : Nat) (ih : slices_DeleteFunc_int_int_l1.S k) : slices_DeleteFunc_int_int_l1.S (k + 1) := by
  intro o0_797 i_795 j_796 o1_798 v h res st c0
  rw [slices_DeleteFunc_int_int_l1] at h
  rcases ite_some h with ⟨c_804, h⟩ | ⟨c_804, h⟩
  · obtain ⟨x_805, hx_805, h⟩ := bind_some h
    obtain ⟨t_806, ht_806, h⟩ := bind_some h
    refine pathE 472 [.b true, .c (en_i64 x_805), .call [0] (dom_without_1.R x_805 o0_797 t_806) (dom_without_1.S1 x_805 o0_797 t_806), .i 2, .keep [0, 1, 5, 6, 7, 29], .stop] (ai (decide_eq_true c_804) <| ai (idx_ownE (m := o1_798.length) rfl hx_805) <| ai (idx_ob en_i64 hx_805).2 <| ai (dom_without_1.ok x_805 o0_797 t_806 ht_806) <| (?_ : RunE Try.prog ⟨2, slices_DeleteFunc_int_int.rs, res, st⟩ (koOf slices_DeleteFunc_int_int.b .done [1, 1, 1, 0, 1, 0, 0, 1, 0, 0, 1, 1]) [(0, .one (.own 1 1 0 o1_798.length)), (1, .one (.fn 172 [.ptr 0 0])), (5, .one (.p (.int .i64 i_795))), (6, .one (.p (.int .i64 j_796))), (7, .one (.p (.int .i64 x_805))), (29, .one (.p (.bool (!(x_805 == o0_797)))))] [.box [.p (.int .i64 o0_797)], .row 3 1 o1_798.length (o1_798.map en_i64)])) (by kernel_rfl)
    rcases ite_some h with ⟨c_807, h⟩ | ⟨c_807, h⟩
    · obtain ⟨x_808, hx_808, h⟩ := bind_some h
      exact pathE 484 [.b true, .w (en_i64 x_808) ((o1_798.set (Int.toNat i_795) x_805).map en_i64), .i 12, .cut 1 ((o1_798.set (Int.toNat i_795) x_805).map en_i64) (o1_798.set (Int.toNat i_795) x_805).length, .elen 0 (o1_798.set (Int.toNat i_795) x_805).length, .keep [0, 1, 5, 6], .stop] (ai c_807 <| ai (idx_ownE (m := o1_798.length) rfl hx_808) <| ai (put_ob en_i64 hx_808 (y := x_805) (j := 0) (ps := [.int .i64 x_805]) (es := en_i64 x_808) (by kernel_rfl) (by kernel_rfl)) <| ai (cutr_ob en_i64 (l := (o1_798.set (Int.toNat i_795) x_805)) (kc := o1_798.length) (by first | (simp; done) | (simp; omega) | omega)) <| ai (show o1_798.length = (o1_798.set (Int.toNat i_795) x_805).length by simp) <| (ih o0_797 (w64 (i_795 + 1)) (w64 (j_796 + 1)) (o1_798.set (Int.toNat i_795) x_805) _ h res st c0)) (by kernel_rfl)
    · exact pathE 448 [.b false, .i 7, .keep [0, 1, 5, 6], .stop] (ai (bool_false c_807) <| (ih o0_797 i_795 (w64 (j_796 + 1)) o1_798 _ h res st c0)) (by kernel_rfl)
  · obtain rfl := Option.some.inj h
    exact pathE 448 [.b false, .i 1, .keep [0, 5], .stop] (ai (decide_eq_false c_804) <| (c0 (i_795, o1_798) rfl)) (by kernel_rfl)
theorem slices_DeleteFunc_int_int_l1.ok : ∀ k, slices_DeleteFunc_int_int_l1.S k
  | 0 => slices_DeleteFunc_int_int_l1.z
  | k + 1 => slices_DeleteFunc_int_int_l1.step k (slices_DeleteFunc_int_int_l1.ok k)
def slices_DeleteFunc_int_int.f (k : Nat) (o0_674 : Int) (o1_675 : (List Int)) : Option ((List Int)) := ((slices_IndexFunc_int_int_v1.f k o0_674 o1_675).bind fun t_784 => (if t_784 = (-1) then (some o1_675) else (Option.bind (slices_DeleteFunc_int_int_l1 k o0_674 t_784 (w64 (t_784 + 1)) o1_675) (fun v_809 => (if (0 : Int) ≤ v_809.1 ∧ v_809.1 ≤ (v_809.2.length : Int) ∧ (v_809.2.length : Int) ≤ (v_809.2.length : Int) then (if (0 : Int) ≤ 0 ∧ 0 ≤ v_809.1 ∧ v_809.1 ≤ (v_809.2.length : Int) then (some (List.take (Int.toNat v_809.1) v_809.2)) else none) else none)))))
theorem slices_DeleteFunc_int_int.run (k : Nat) (o0_674 : Int) (o1_675 : (List Int)) (r : (List Int)) (h : slices_DeleteFunc_int_int.f k o0_674 o1_675 = some r) (res : Vv) (st : Sto) (hr : (slices_DeleteFunc_int_int.R o0_674 o1_675 r, slices_DeleteFunc_int_int.S1 o0_674 o1_675 r) = (res, st)) : RunE Try.prog ⟨2, slices_DeleteFunc_int_int.rs, res, st⟩ (.st slices_DeleteFunc_int_int.b .done) (argE 0 (slices_DeleteFunc_int_int.A o0_674 o1_675)) (slices_DeleteFunc_int_int.S0 o0_674 o1_675) := by
  unfold slices_DeleteFunc_int_int.f at h
  obtain ⟨t_784, ht_784, h⟩ := bind_some h
  rcases ite_some h with ⟨c_785, h⟩ | ⟨c_785, h⟩
  · obtain rfl := Option.some.inj h
    exact pathE 460 [.call [0, 1] (slices_IndexFunc_int_int_v1.R o0_674 o1_675 t_784) (slices_IndexFunc_int_int_v1.S1 o0_674 o1_675 t_784), .b true, .i 5, .mv 1, .fin [0, 1, 2]] (ai (slices_IndexFunc_int_int_v1.ok k o0_674 o1_675 t_784 ht_784) <| ai (beq_iff_eq.2 c_785) <| hr) (by kernel_rfl)
  · obtain ⟨v_809, hv_809, h⟩ := bind_some h
    refine pathE 460 [.call [0, 1] (slices_IndexFunc_int_int_v1.R o0_674 o1_675 t_784) (slices_IndexFunc_int_int_v1.S1 o0_674 o1_675 t_784), .b false, .i 10, .keep [0, 1, 5, 6], .stop] (ai (slices_IndexFunc_int_int_v1.ok k o0_674 o1_675 t_784 ht_784) <| ai (beq_eq_false_iff_ne.2 c_785) <| (slices_DeleteFunc_int_int_l1.ok k o0_674 t_784 (w64 (t_784 + 1)) o1_675 v_809 hv_809 res st ?_)) (by kernel_rfl)
    · intro y hx
      subst hx
      obtain ⟨g_810, h⟩ := guard_some h
      obtain ⟨g_811, h⟩ := guard_some h
      obtain rfl := Option.some.inj h
      exact pathE 496 [.o (Int.toNat v_809.1) (Int.toNat (v_809.2.length : Int) - Int.toNat v_809.1), .z ((List.take (Int.toNat v_809.1) v_809.2).map en_i64), .o 0 (Int.toNat v_809.1), .i 2, .cut 1 ((List.take (Int.toNat v_809.1) v_809.2).map en_i64) (List.take (Int.toNat v_809.1) v_809.2).length, .elen 4 (List.take (Int.toNat v_809.1) v_809.2).length, .mv 1, .fin [0, 1, 2]] (ai (slo_ob (len := v_809.2.length) g_810) <| ai (clr_ob en_i64 (l := v_809.2) (m := v_809.2.length) rfl g_810) <| ai (slo_ob0 (len := v_809.2.length) g_811) <| ai (cutr_ob en_i64 (l := (List.take (Int.toNat v_809.1) v_809.2)) (kc := v_809.2.length) (by first | (simp; done) | (simp; omega) | omega)) <| ai (show (Int.toNat v_809.1) = (List.take (Int.toNat v_809.1) v_809.2).length by first | (simp; done) | (simp; omega) | omega) <| hr) (by kernel_rfl)
theorem slices_DeleteFunc_int_int.ok (k : Nat) (o0_674 : Int) (o1_675 : (List Int)) (r : (List Int)) (h : slices_DeleteFunc_int_int.f k o0_674 o1_675 = some r) : OkS Try.prog 171 (slices_DeleteFunc_int_int.A o0_674 o1_675) (slices_DeleteFunc_int_int.S0 o0_674 o1_675) (slices_DeleteFunc_int_int.R o0_674 o1_675 r) (slices_DeleteFunc_int_int.S1 o0_674 o1_675 r) := okE Try.func171 m171 rfl rfl rfl (slices_DeleteFunc_int_int.run k o0_674 o1_675 r h _ _ rfl)
-- 123 glazier/dom.without
def d123 : FnDef := ⟨8, [.tmp 4],
  (.seq
  (.ops [
    ⟨some 3, .box (.t 1), none⟩,
    ⟨some 4, .mv (.c (.one (.nil 1))), none⟩] [0, 3])
  (.seq
  (.ops [
    ⟨some 5, .mv (.t 0), none⟩,
    ⟨some 6, .mkfn 172 [(.t 3)], none⟩,
    ⟨some 7, .call 171 [(.t 5), (.t 6)], none⟩,
    ⟨some 4, .mv (.t 7), none⟩] [4])
  .ret))⟩
theorem m123 : mFn Try.prog d123 Try.f123 = true := by kernel_rfl
def dom_without.A (id_672 : Int) (o0_673 : (List Int)) : List Vv := [.one (.own 0 1 0 o0_673.length), .one (.p (.int .i64 id_672))]
def dom_without.S0 (id_672 : Int) (o0_673 : (List Int)) : Sto := [.row 3 1 o0_673.length (o0_673.map en_i64)]
def dom_without.R (id_672 : Int) (o0_673 : (List Int)) (r_0 : (List Int)) : Vv := .one (.own 1 1 0 r_0.length)
def dom_without.S1 (id_672 : Int) (o0_673 : (List Int)) (r_0 : (List Int)) : Sto := [.none, .row 3 1 r_0.length (r_0.map en_i64)]
def dom_without.rs : List Rv := d123.res
def dom_without.b : Sx := d123.body
def dom_without.f (k : Nat) (id_672 : Int) (o0_673 : (List Int)) : Option ((List Int)) := ((slices_DeleteFunc_int_int.f k id_672 o0_673).bind fun t_814 => (some t_814))
theorem dom_without.run (k : Nat) (id_672 : Int) (o0_673 : (List Int)) (r : (List Int)) (h : dom_without.f k id_672 o0_673 = some r) (res : Vv) (st : Sto) (hr : (dom_without.R id_672 o0_673 r, dom_without.S1 id_672 o0_673 r) = (res, st)) : RunE Try.prog ⟨1, dom_without.rs, res, st⟩ (.st dom_without.b .done) (argE 0 (dom_without.A id_672 o0_673)) (dom_without.S0 id_672 o0_673) := by
  unfold dom_without.f at h
  obtain ⟨t_814, ht_814, h⟩ := bind_some h
  obtain rfl := Option.some.inj h
  exact pathE 436 [.call [1, 0] (slices_DeleteFunc_int_int.R id_672 o0_673 t_814) (slices_DeleteFunc_int_int.S1 id_672 o0_673 t_814), .i 2, .fin [0, 2]] (ai (slices_DeleteFunc_int_int.ok k id_672 o0_673 t_814 ht_814) <| hr) (by kernel_rfl)
theorem dom_without.ok (k : Nat) (id_672 : Int) (o0_673 : (List Int)) (r : (List Int)) (h : dom_without.f k id_672 o0_673 = some r) : OkS Try.prog 123 (dom_without.A id_672 o0_673) (dom_without.S0 id_672 o0_673) (dom_without.R id_672 o0_673 r) (dom_without.S1 id_672 o0_673 r) := okE Try.func123 m123 rfl rfl rfl (dom_without.run k id_672 o0_673 r h _ _ rfl)
-- 47 (*glazier/arena.Arena).Free
def d47 : FnDef := ⟨53, [.tmp 4],
  (.seq
  (.ops [
    ⟨some 4, .mv (.c (.one (.p (.int .i64 0)))), none⟩] [0, 1])
  (.seq
  (.seq
  (.ops [
    ⟨some 9, .mv (.t 0), none⟩,
    ⟨some 10, .mv (.t 1), none⟩,
    ⟨some 11, .call 102 [(.t 9), (.t 10)], none⟩,
    ⟨some 12, .un .not (.t 11), none⟩,
    ⟨some 13, .mv (.t 12), none⟩,
    ⟨some 14, .mv (.t 1), some (13, false)⟩,
    ⟨some 15, .bin 0 .eql (.t 14) (.c (.one (.p (.int .i64 0)))), some (13, false)⟩,
    ⟨some 16, .pick (.t 13) (.c (.one (.p (.bool true)))) (.t 15), none⟩] [0, 1, 16])
  (.cond (.t 16)
    (.seq
    (.ops [
      ⟨some 4, .mv (.c (.one (.p (.int .i64 0)))), none⟩] [4])
    .ret)
    .skip))
  (.seq
  (.ops [
    ⟨some 17, .mv (.t 0), none⟩,
    ⟨some 18, .nilck (.t 17), none⟩,
    ⟨some 19, .faddr 0 (.t 18), none⟩,
    ⟨some 20, .load 1 false (.t 19), none⟩,
    ⟨some 21, .mv (.t 1), none⟩,
    ⟨some 22, .look [.p (.int .i64 0), .p (.int .i64 0), .p (.int .i64 0), .p (.int .i64 0), .p (.str []), .nil 2, .p (.str []), .p (.int .i64 0), .nil 4, .nil 3, .nil 1, .p (.str []), .nil 2] (.t 20) (.t 21) false, none⟩,
    ⟨some 5, .alloc [.p (.int .i64 0), .p (.int .i64 0), .p (.int .i64 0), .p (.int .i64 0), .p (.str []), .nil 2, .p (.str []), .p (.int .i64 0), .nil 4, .nil 3, .nil 1, .p (.str []), .nil 2], none⟩,
    ⟨none, .store 13 (.t 5) (.t 22), none⟩] [0, 1, 5])
  (.seq
  (.ops [
    ⟨some 23, .mv (.t 0), none⟩,
    ⟨some 24, .nilck (.t 23), none⟩,
    ⟨some 25, .faddr 0 (.t 24), none⟩,
    ⟨some 26, .load 1 false (.t 25), none⟩,
    ⟨some 27, .mv (.t 1), none⟩,
    ⟨none, .mdel (.t 26) (.t 27), none⟩] [0, 5])
  (.seq
  (.drawn [
    ⟨⟨some 28, .mv (.t 0), none⟩, [], false⟩,
    ⟨⟨some 29, .faddr 1 (.t 5), none⟩, [], false⟩,
    ⟨⟨some 30, .load 1 false (.t 29), none⟩, [1], false⟩,
    ⟨⟨some 31, .nilck (.t 28), none⟩, [0], false⟩,
    ⟨⟨some 32, .faddr 5 (.t 31), none⟩, [0, 3], false⟩,
    ⟨⟨some 33, .aaddr 1 4 (.t 32) (.t 30), none⟩, [0, 1, 2, 3, 4], false⟩,
    ⟨⟨some 34, .load 1 false (.t 33), none⟩, [0, 1, 2, 3, 4, 5], false⟩,
    ⟨⟨some 35, .bin 0 .sub (.t 34) (.c (.one (.p (.int .i64 1)))), none⟩, [0, 1, 2, 3, 4, 5, 6], false⟩,
    ⟨⟨some 36, .nilck (.t 28), none⟩, [0], false⟩,
    ⟨⟨some 37, .faddr 5 (.t 36), none⟩, [0, 8], false⟩,
    ⟨⟨some 38, .aaddr 1 4 (.t 37) (.t 30), none⟩, [0, 1, 2, 3, 4, 5, 6, 7, 8, 9], false⟩,
    ⟨⟨none, .store 1 (.t 38) (.t 35), none⟩, [0, 1, 2, 3, 4, 5, 6, 7, 8, 9, 10], true⟩] [[], [11]] [0, 5])
  (.seq
  (.ops [
    ⟨some 6, .mv (.c (.one (.p (.int .i64 1)))), none⟩] [0, 5, 6])
  (.seq
  (.seq
  (.ops [
    ⟨some 39, .faddr 10 (.t 5), none⟩,
    ⟨some 40, .load 1 false (.t 39), none⟩,
    ⟨some 41, .len false (.t 40), none⟩,
    ⟨some 42, .mv (.c (.one (.p (.int .i64 0)))), none⟩] [0, 6, 40, 41, 42])
  (.block 0
    (.loop
      (.seq
      (.ops [
        ⟨some 43, .bin 0 .lss (.t 42) (.t 41), none⟩] [0, 6, 40, 41, 42, 43])
      (.seq
      (.cond (.t 43)
        .skip
        (.exit 0))
      (.seq
      (.block 1
        (.seq
        (.ops [
          ⟨some 44, .iaddr 1 (.t 40) (.t 42), none⟩,
          ⟨some 45, .load 1 false (.t 44), none⟩,
          ⟨some 8, .mv (.t 45), none⟩] [0, 6, 8, 40, 41, 42])
        (.ops [
          ⟨some 46, .mv (.t 6), none⟩,
          ⟨some 47, .mv (.t 0), none⟩,
          ⟨some 48, .mv (.t 8), none⟩,
          ⟨some 49, .call 47 [(.t 47), (.t 48)], none⟩,
          ⟨some 50, .bin 0 .add (.t 46) (.t 49), none⟩,
          ⟨some 6, .mv (.t 50), none⟩] [0, 6, 40, 41, 42])))
      (.ops [
        ⟨some 51, .bin 0 .add (.t 42) (.c (.one (.p (.int .i64 1)))), none⟩,
        ⟨some 42, .mv (.t 51), none⟩] [0, 6, 40, 41, 42])))))))
  (.seq
  (.ops [
    ⟨some 52, .mv (.t 6), none⟩,
    ⟨some 4, .mv (.t 52), none⟩] [4])
  .ret))))))))⟩
theorem m47 : mFn Try.prog d47 Try.f47 = true := by kernel_rfl
def arena_Arena_Free.A (id_817 : Int) (o0_818 : Int) (o0_819 : Int) (o0_820 : Int) (o0_821 : Int) (o0_822 : Int) (o0_823 : Int) (o0_824 : Int) (o0_825 : Int) (o1_826 : (List (Int × arena_Node))) : List Vv := [.one (.ptr 0 0), .one (.p (.int .i64 id_817))]
def arena_Arena_Free.S0 (id_817 : Int) (o0_818 : Int) (o0_819 : Int) (o0_820 : Int) (o0_821 : Int) (o0_822 : Int) (o0_823 : Int) (o0_824 : Int) (o0_825 : Int) (o1_826 : (List (Int × arena_Node))) : Sto := [.box [.mp 1, .p (.int .i64 o0_818), .p (.int .i64 o0_819), .p (.int .i64 o0_820), .p (.int .i64 o0_821), .p (.int .i64 o0_822), .p (.int .i64 o0_823), .p (.int .i64 o0_824), .p (.int .i64 o0_825)], .map (enE en_arena_Node o1_826)]
def arena_Arena_Free.R (id_817 : Int) (o0_818 : Int) (o0_819 : Int) (o0_820 : Int) (o0_821 : Int) (o0_822 : Int) (o0_823 : Int) (o0_824 : Int) (o0_825 : Int) (o1_826 : (List (Int × arena_Node))) (r_0 : Int × Int × Int × Int × Int × (List (Int × arena_Node))) : Vv := .one (.p (.int .i64 r_0.1))
def arena_Arena_Free.S1 (id_817 : Int) (o0_818 : Int) (o0_819 : Int) (o0_820 : Int) (o0_821 : Int) (o0_822 : Int) (o0_823 : Int) (o0_824 : Int) (o0_825 : Int) (o1_826 : (List (Int × arena_Node))) (r_0 : Int × Int × Int × Int × Int × (List (Int × arena_Node))) : Sto := [.box [.mp 1, .p (.int .i64 o0_818), .p (.int .i64 o0_819), .p (.int .i64 o0_820), .p (.int .i64 o0_821), .p (.int .i64 r_0.2.1), .p (.int .i64 r_0.2.2.1), .p (.int .i64 r_0.2.2.2.1), .p (.int .i64 r_0.2.2.2.2.1)], .map (enE en_arena_Node r_0.2.2.2.2.2)]
def arena_Arena_Free.rs : List Rv := d47.res
def arena_Arena_Free.b : Sx := d47.body
mutual
def arena_Arena_Free_l1 : Nat → Int → Int → Int → Int → Int → Int → Int → Int → (List (Int × arena_Node)) → Option ((Unit))
  | 0, _, _, _, _, _, _, _, _, _ => none
  | k + 1, o0_970, o0_971, o0_972, o0_973, o0_974, o0_975, o0_976, o0_977, o1_978 => (some ())
def arena_Arena_Free_l2 : Nat → (List Int) → Int → Int → Int → Int → Int → Int → Int → Int → Int → Int → Int → (List (Int × arena_Node)) → Option ((Int × Int × Int × Int × Int × (List (Int × arena_Node))))
  | 0, _, _, _, _, _, _, _, _, _, _, _, _, _ => none
  | k + 1, u_996, u_997, o0_999, o0_1000, o0_1001, o0_1002, n_995, u_998, o0_1003, o0_1004, o0_1005, o0_1006, o1_1007 => (if u_998 < u_997 then ((idx u_996 u_998).bind fun x_1012 => ((arena_Arena_Free.f k x_1012 o0_999 o0_1000 o0_1001 o0_1002 o0_1003 o0_1004 o0_1005 o0_1006 o1_1007).bind fun t_1013 => (arena_Arena_Free_l2 k u_996 u_997 o0_999 o0_1000 o0_1001 o0_1002 (w64 (n_995 + t_1013.1)) (w64 (u_998 + 1)) t_1013.2.1 t_1013.2.2.1 t_1013.2.2.2.1 t_1013.2.2.2.2.1 t_1013.2.2.2.2.2))) else (some (n_995, o0_1003, o0_1004, o0_1005, o0_1006, o1_1007)))
def arena_Arena_Free.f : Nat → Int → Int → Int → Int → Int → Int → Int → Int → Int → (List (Int × arena_Node)) → Option (Int × Int × Int × Int × Int × (List (Int × arena_Node)))
  | 0, _, _, _, _, _, _, _, _, _, _ => none
  | k + 1, id_817, o0_818, o0_819, o0_820, o0_821, o0_822, o0_823, o0_824, o0_825, o1_826 => ((arena_Arena_Has.f id_817 o0_818 o0_819 o0_820 o0_821 o0_822 o0_823 o0_824 o0_825 o1_826).bind fun t_966 => (if (!t_966) = true then (some (0, o0_822, o0_823, o0_824, o0_825, o1_826)) else (if id_817 = 0 then (some (0, o0_822, o0_823, o0_824, o0_825, o1_826)) else (oel (asc o1_826 id_817) (Option.bind (arena_Arena_Free_l1 k o0_818 o0_819 o0_820 o0_821 (w64 (o0_822 - 1)) o0_823 o0_824 o0_825 (adel o1_826 id_817)) (fun v_979 => (some (1, (w64 (o0_822 - 1)), o0_823, o0_824, o0_825, (adel o1_826 id_817))))) fun v_969 => (if v_969.Owner = 0 then (Option.bind (arena_Arena_Free_l2 k v_969.Kids (v_969.Kids.length : Int) o0_818 o0_819 o0_820 o0_821 1 0 (w64 (o0_822 - 1)) o0_823 o0_824 o0_825 (adel o1_826 id_817)) (fun v_1014 => (some (v_1014.1, v_1014.2.1, v_1014.2.2.1, v_1014.2.2.2.1, v_1014.2.2.2.2.1, v_1014.2.2.2.2.2)))) else (if v_969.Owner = 1 then (Option.bind (arena_Arena_Free_l2 k v_969.Kids (v_969.Kids.length : Int) o0_818 o0_819 o0_820 o0_821 1 0 o0_822 (w64 (o0_823 - 1)) o0_824 o0_825 (adel o1_826 id_817)) (fun v_1016 => (some (v_1016.1, v_1016.2.1, v_1016.2.2.1, v_1016.2.2.2.1, v_1016.2.2.2.2.1, v_1016.2.2.2.2.2)))) else (if v_969.Owner = 2 then (Option.bind (arena_Arena_Free_l2 k v_969.Kids (v_969.Kids.length : Int) o0_818 o0_819 o0_820 o0_821 1 0 o0_822 o0_823 (w64 (o0_824 - 1)) o0_825 (adel o1_826 id_817)) (fun v_1018 => (some (v_1018.1, v_1018.2.1, v_1018.2.2.1, v_1018.2.2.2.1, v_1018.2.2.2.2.1, v_1018.2.2.2.2.2)))) else (if v_969.Owner = 3 then (Option.bind (arena_Arena_Free_l2 k v_969.Kids (v_969.Kids.length : Int) o0_818 o0_819 o0_820 o0_821 1 0 o0_822 o0_823 o0_824 (w64 (o0_825 - 1)) (adel o1_826 id_817)) (fun v_1020 => (some (v_1020.1, v_1020.2.1, v_1020.2.2.1, v_1020.2.2.2.1, v_1020.2.2.2.2.1, v_1020.2.2.2.2.2)))) else none))))))))
end
def arena_Arena_Free_l1.S (k : Nat) : Prop := ∀ (o0_970 : Int) (o0_971 : Int) (o0_972 : Int) (o0_973 : Int) (o0_974 : Int) (o0_975 : Int) (o0_976 : Int) (o0_977 : Int) (o1_978 : (List (Int × arena_Node))) (v : (Unit)), arena_Arena_Free_l1 k o0_970 o0_971 o0_972 o0_973 o0_974 o0_975 o0_976 o0_977 o1_978 = some v → ∀ (res : Vv) (st : Sto), (∀ x_0, v = x_0 → RunE Try.prog ⟨2, arena_Arena_Free.rs, res, st⟩ (koAfter arena_Arena_Free.b [1, 1, 1, 1, 1, 1, 0, 1]) [(6, .one (.p (.int .i64 1)))] [.box [.mp 1, .p (.int .i64 o0_970), .p (.int .i64 o0_971), .p (.int .i64 o0_972), .p (.int .i64 o0_973), .p (.int .i64 o0_974), .p (.int .i64 o0_975), .p (.int .i64 o0_976), .p (.int .i64 o0_977)], .map (enE en_arena_Node o1_978)]) → RunE Try.prog ⟨2, arena_Arena_Free.rs, res, st⟩ (koLoop arena_Arena_Free.b [1, 1, 1, 1, 1, 1, 0, 1, 0]) [(0, .one (.ptr 0 0)), (6, .one (.p (.int .i64 1))), (40, .one (.nil 1)), (41, .one (.p (.int .i64 0))), (42, .one (.p (.int .i64 0)))] [.box [.mp 1, .p (.int .i64 o0_970), .p (.int .i64 o0_971), .p (.int .i64 o0_972), .p (.int .i64 o0_973), .p (.int .i64 o0_974), .p (.int .i64 o0_975), .p (.int .i64 o0_976), .p (.int .i64 o0_977)], .map (enE en_arena_Node o1_978)]
def arena_Arena_Free_l2.S (k : Nat) : Prop := ∀ (u_996 : (List Int)) (u_997 : Int) (o0_999 : Int) (o0_1000 : Int) (o0_1001 : Int) (o0_1002 : Int) (n_995 : Int) (u_998 : Int) (o0_1003 : Int) (o0_1004 : Int) (o0_1005 : Int) (o0_1006 : Int) (o1_1007 : (List (Int × arena_Node))) (v : (Int × Int × Int × Int × Int × (List (Int × arena_Node)))), arena_Arena_Free_l2 k u_996 u_997 o0_999 o0_1000 o0_1001 o0_1002 n_995 u_998 o0_1003 o0_1004 o0_1005 o0_1006 o1_1007 = some v → ∀ (res : Vv) (st : Sto), (∀ x_0, v = x_0 → RunE Try.prog ⟨2, arena_Arena_Free.rs, res, st⟩ (koAfter arena_Arena_Free.b [1, 1, 1, 1, 1, 1, 0, 1]) [(6, .one (.p (.int .i64 x_0.1)))] [.box [.mp 1, .p (.int .i64 o0_999), .p (.int .i64 o0_1000), .p (.int .i64 o0_1001), .p (.int .i64 o0_1002), .p (.int .i64 x_0.2.1), .p (.int .i64 x_0.2.2.1), .p (.int .i64 x_0.2.2.2.1), .p (.int .i64 x_0.2.2.2.2.1)], .map (enE en_arena_Node x_0.2.2.2.2.2)]) → RunE Try.prog ⟨2, arena_Arena_Free.rs, res, st⟩ (koLoop arena_Arena_Free.b [1, 1, 1, 1, 1, 1, 0, 1, 0]) [(0, .one (.ptr 0 0)), (6, .one (.p (.int .i64 n_995))), (40, .one (.p (.sl 1 (u_996.map en_i64)))), (41, .one (.p (.int .i64 u_997))), (42, .one (.p (.int .i64 u_998)))] [.box [.mp 1, .p (.int .i64 o0_999), .p (.int .i64 o0_1000), .p (.int .i64 o0_1001), .p (.int .i64 o0_1002), .p (.int .i64 o0_1003), .p (.int .i64 o0_1004), .p (.int .i64 o0_1005), .p (.int .i64 o0_1006)], .map (enE en_arena_Node o1_1007)]
def arena_Arena_Free.S (k : Nat) : Prop := ∀ (id_817 : Int) (o0_818 : Int) (o0_819 : Int) (o0_820 : Int) (o0_821 : Int) (o0_822 : Int) (o0_823 : Int) (o0_824 : Int) (o0_825 : Int) (o1_826 : (List (Int × arena_Node))) (r : Int × Int × Int × Int × Int × (List (Int × arena_Node))), arena_Arena_Free.f k id_817 o0_818 o0_819 o0_820 o0_821 o0_822 o0_823 o0_824 o0_825 o1_826 = some r → OkS Try.prog 47 (arena_Arena_Free.A id_817 o0_818 o0_819 o0_820 o0_821 o0_822 o0_823 o0_824 o0_825 o1_826) (arena_Arena_Free.S0 id_817 o0_818 o0_819 o0_820 o0_821 o0_822 o0_823 o0_824 o0_825 o1_826) (arena_Arena_Free.R id_817 o0_818 o0_819 o0_820 o0_821 o0_822 o0_823 o0_824 o0_825 o1_826 r) (arena_Arena_Free.S1 id_817 o0_818 o0_819 o0_820 o0_821 o0_822 o0_823 o0_824 o0_825 o1_826 r)
theorem arena_Arena_Free_l1.z : arena_Arena_Free_l1.S 0 := fun _ _ _ _ _ _ _ _ _ v h => none_some h
theorem arena_Arena_Free_l2.z : arena_Arena_Free_l2.S 0 := fun _ _ _ _ _ _ _ _ _ _ _ _ _ v h => none_some h
theorem arena_Arena_Free.z : arena_Arena_Free.S 0 := fun _ _ _ _ _ _ _ _ _ _ r h => none_some h
theorem arena_Arena_Free_l1.step (k : Nat) (ih_arena_Arena_Free_l1 : arena_Arena_Free_l1.S k) (ih_arena_Arena_Free_l2 : arena_Arena_Free_l2.S k) (ih_arena_Arena_Free : arena_Arena_Free.S k) : arena_Arena_Free_l1.S (k + 1) := by
  have ih := ih_arena_Arena_Free_l1
  intro o0_970 o0_971 o0_972 o0_973 o0_974 o0_975 o0_976 o0_977 o1_978 v h res st c0
  rw [arena_Arena_Free_l1] at h
  obtain rfl := Option.some.inj h
  exact pathE 448 [.b false, .i 1, .keep [6], .stop] (ai rF <| (c0 () rfl)) (by kernel_rfl)
theorem arena_Arena_Free_l2.step (k : Nat) (ih_arena_Arena_Free_l1 : arena_Arena_Free_l1.S k) (ih_arena_Arena_Free_l2 : arena_Arena_Free_l2.S k) (ih_arena_Arena_Free : arena_Arena_Free.S k) : arena_Arena_Free_l2.S (k + 1) := by
  have ih := ih_arena_Arena_Free_l2
  intro u_996 u_997 o0_999 o0_1000 o0_1001 o0_1002 n_995 u_998 o0_1003 o0_1004 o0_1005 o0_1006 o1_1007 v h res st c0
  rw [arena_Arena_Free_l2] at h
  rcases ite_some h with ⟨c_1011, h⟩ | ⟨c_1011, h⟩
  · obtain ⟨x_1012, hx_1012, h⟩ := bind_some h
    obtain ⟨t_1013, ht_1013, h⟩ := bind_some h
    exact pathE 472 [.b true, .c (en_i64 x_1012), .call [0, 1] (arena_Arena_Free.R x_1012 o0_999 o0_1000 o0_1001 o0_1002 o0_1003 o0_1004 o0_1005 o0_1006 o1_1007 t_1013) (arena_Arena_Free.S1 x_1012 o0_999 o0_1000 o0_1001 o0_1002 o0_1003 o0_1004 o0_1005 o0_1006 o1_1007 t_1013), .i 8, .keep [0, 6, 40, 41, 42], .stop] (ai (decide_eq_true c_1011) <| ai (idx_ob en_i64 hx_1012) <| ai (ih_arena_Arena_Free x_1012 o0_999 o0_1000 o0_1001 o0_1002 o0_1003 o0_1004 o0_1005 o0_1006 o1_1007 t_1013 ht_1013) <| (ih u_996 u_997 o0_999 o0_1000 o0_1001 o0_1002 (w64 (n_995 + t_1013.1)) (w64 (u_998 + 1)) t_1013.2.1 t_1013.2.2.1 t_1013.2.2.2.1 t_1013.2.2.2.2.1 t_1013.2.2.2.2.2 _ h res st c0)) (by kernel_rfl)
  · obtain rfl := Option.some.inj h
    exact pathE 448 [.b false, .i 1, .keep [6], .stop] (ai (decide_eq_false c_1011) <| (c0 (n_995, o0_1003, o0_1004, o0_1005, o0_1006, o1_1007) rfl)) (by kernel_rfl)
theorem arena_Arena_Free.step (k : Nat) (ih_arena_Arena_Free_l1 : arena_Arena_Free_l1.S k) (ih_arena_Arena_Free_l2 : arena_Arena_Free_l2.S k) (ih_arena_Arena_Free : arena_Arena_Free.S k) : arena_Arena_Free.S (k + 1) := by
  intro id_817 o0_818 o0_819 o0_820 o0_821 o0_822 o0_823 o0_824 o0_825 o1_826 r h
  refine okE Try.func47 m47 rfl rfl rfl ?_
  generalize hr : (arena_Arena_Free.R id_817 o0_818 o0_819 o0_820 o0_821 o0_822 o0_823 o0_824 o0_825 o1_826 r, arena_Arena_Free.S1 id_817 o0_818 o0_819 o0_820 o0_821 o0_822 o0_823 o0_824 o0_825 o1_826 r) = q
  obtain ⟨res, st⟩ := q
  rw [show arena_Arena_Free.R id_817 o0_818 o0_819 o0_820 o0_821 o0_822 o0_823 o0_824 o0_825 o1_826 r = res from congrArg Prod.fst hr, show arena_Arena_Free.S1 id_817 o0_818 o0_819 o0_820 o0_821 o0_822 o0_823 o0_824 o0_825 o1_826 r = st from congrArg Prod.snd hr]
  rw [arena_Arena_Free.f] at h
  obtain ⟨t_966, ht_966, h⟩ := bind_some h
  rcases ite_some h with ⟨c_967, h⟩ | ⟨c_967, h⟩
  · obtain rfl := Option.some.inj h
    exact pathE 472 [.call [0, 1] (arena_Arena_Has.R id_817 o0_818 o0_819 o0_820 o0_821 o0_822 o0_823 o0_824 o0_825 o1_826 t_966) (arena_Arena_Has.S1 id_817 o0_818 o0_819 o0_820 o0_821 o0_822 o0_823 o0_824 o0_825 o1_826 t_966), .b true, .b true, .b true, .i 4, .fin [0, 1]] (ai (arena_Arena_Has.ok id_817 o0_818 o0_819 o0_820 o0_821 o0_822 o0_823 o0_824 o0_825 o1_826 t_966 ht_966) <| ai c_967 <| ai rT <| ai rT <| hr) (by kernel_rfl)
  · refine pathE 472 [.call [0, 1] (arena_Arena_Has.R id_817 o0_818 o0_819 o0_820 o0_821 o0_822 o0_823 o0_824 o0_825 o1_826 t_966) (arena_Arena_Has.S1 id_817 o0_818 o0_819 o0_820 o0_821 o0_822 o0_823 o0_824 o0_825 o1_826 t_966), .b false, .b false, .i 2, .keep [0, 1, 16], .stop] (ai (arena_Arena_Has.ok id_817 o0_818 o0_819 o0_820 o0_821 o0_822 o0_823 o0_824 o0_825 o1_826 t_966 ht_966) <| ai (bool_false c_967) <| ai rF <| (?_ : RunE Try.prog ⟨2, arena_Arena_Free.rs, res, st⟩ (koOf arena_Arena_Free.b .done [1, 0, 1]) [(0, .one (.ptr 0 0)), (1, .one (.p (.int .i64 id_817))), (16, .one (.p (.bool (id_817 == 0))))] [.box [.mp 1, .p (.int .i64 o0_818), .p (.int .i64 o0_819), .p (.int .i64 o0_820), .p (.int .i64 o0_821), .p (.int .i64 o0_822), .p (.int .i64 o0_823), .p (.int .i64 o0_824), .p (.int .i64 o0_825)], .map (enE en_arena_Node o1_826)])) (by kernel_rfl)
    rcases ite_some h with ⟨c_968, h⟩ | ⟨c_968, h⟩
    · obtain rfl := Option.some.inj h
      exact pathE 436 [.b true, .i 4, .fin [0, 1]] (ai (beq_iff_eq.2 c_968) <| hr) (by kernel_rfl)
    · rcases oel_some h with ⟨hv_969, h⟩ | ⟨v_969, hv_969, h⟩
      · obtain ⟨v_979, hv_979, h⟩ := bind_some h
        refine pathE 496 [.b false, .e none, .m (enE en_arena_Node (adel o1_826 id_817)), .dr 0 [[], [], [], [], [], [], [], [], [], [], [], []] [.one (.ptr 0 0), .one (.ptr 2 1), .one (.p (.int .i64 0)), .one (.ptr 0 0), .one (.ptr 0 5), .one (.ptr 0 5), .one (.p (.int .i64 o0_822)), .one (.p (.int .i64 (w64 (o0_822 - 1)))), .one (.ptr 0 0), .one (.ptr 0 5), .one (.ptr 0 5), .top] [[], [], [], [], [], [], [], [], [], [], [], [(0, .box [.mp 1, .p (.int .i64 o0_818), .p (.int .i64 o0_819), .p (.int .i64 o0_820), .p (.int .i64 o0_821), .p (.int .i64 (w64 (o0_822 - 1))), .p (.int .i64 o0_823), .p (.int .i64 o0_824), .p (.int .i64 o0_825)])]], .i 14, .gc [0, 1], .keep [0, 6, 40, 41, 42], .stop] (ai (beq_eq_false_iff_ne.2 c_968) <| ai (asc_ob en_arena_Node hv_969) <| ai (adel_ob en_arena_Node o1_826 id_817) <| ai (drE arena_Arena_Free.b [1, 1, 1, 1, 0] [.one (.ptr 0 0), .one (.ptr 2 1), .one (.p (.int .i64 0)), .one (.ptr 0 0), .one (.ptr 0 5), .one (.ptr 0 5), .one (.p (.int .i64 o0_822)), .one (.p (.int .i64 (w64 (o0_822 - 1)))), .one (.ptr 0 0), .one (.ptr 0 5), .one (.ptr 0 5), .top] [[], [], [], [], [], [], [], [], [], [], [], [(0, .box [.mp 1, .p (.int .i64 o0_818), .p (.int .i64 o0_819), .p (.int .i64 o0_820), .p (.int .i64 o0_821), .p (.int .i64 (w64 (o0_822 - 1))), .p (.int .i64 o0_823), .p (.int .i64 o0_824), .p (.int .i64 o0_825)])]] ([.box [.mp 1, .p (.int .i64 o0_818), .p (.int .i64 o0_819), .p (.int .i64 o0_820), .p (.int .i64 o0_821), .p (.int .i64 o0_822), .p (.int .i64 o0_823), .p (.int .i64 o0_824), .p (.int .i64 o0_825)], .map (enE en_arena_Node (adel o1_826 id_817)), .box [.p (.int .i64 0), .p (.int .i64 0), .p (.int .i64 0), .p (.int .i64 0), .p (.str []), .nil 2, .p (.str []), .p (.int .i64 0), .nil 4, .nil 3, .nil 1, .p (.str []), .nil 2]] ++ List.replicate 0 .res)) <| (ih_arena_Arena_Free_l1 o0_818 o0_819 o0_820 o0_821 (w64 (o0_822 - 1)) o0_823 o0_824 o0_825 (adel o1_826 id_817) v_979 hv_979 res st ?_)) (by kernel_rfl)
        · intro y hx
          subst hx
          obtain rfl := Option.some.inj h
          exact pathE 424 [.i 5, .fin [0, 1]] (hr) (by kernel_rfl)
      · rcases ite_some h with ⟨c_980, h⟩ | ⟨c_980, h⟩
        · obtain ⟨v_1014, hv_1014, h⟩ := bind_some h
          refine pathE 532 [.b false, .e (some (en_arena_Node v_969)), .m (enE en_arena_Node (adel o1_826 id_817)), .i 2, .clit 2 1 0, .dr 0 [[], [], [], [], [], [], [], [], [], [], [], []] [.one (.ptr 0 0), .one (.ptr 2 1), .one (.p (.int .i64 0)), .one (.ptr 0 0), .one (.ptr 0 5), .one (.ptr 0 5), .one (.p (.int .i64 o0_822)), .one (.p (.int .i64 (w64 (o0_822 - 1)))), .one (.ptr 0 0), .one (.ptr 0 5), .one (.ptr 0 5), .top] [[], [], [], [], [], [], [], [], [], [], [], [(0, .box [.mp 1, .p (.int .i64 o0_818), .p (.int .i64 o0_819), .p (.int .i64 o0_820), .p (.int .i64 o0_821), .p (.int .i64 (w64 (o0_822 - 1))), .p (.int .i64 o0_823), .p (.int .i64 o0_824), .p (.int .i64 o0_825)])]], .n v_969.Kids.length, .i 4, .gc [0, 1], .keep [0, 6, 40, 41, 42], .stop] (ai (beq_eq_false_iff_ne.2 c_968) <| ai (asc_ob en_arena_Node hv_969) <| ai (adel_ob en_arena_Node o1_826 id_817) <| ai c_980 <| ai (drE arena_Arena_Free.b [1, 1, 1, 1, 0] [.one (.ptr 0 0), .one (.ptr 2 1), .one (.p (.int .i64 0)), .one (.ptr 0 0), .one (.ptr 0 5), .one (.ptr 0 5), .one (.p (.int .i64 o0_822)), .one (.p (.int .i64 (w64 (o0_822 - 1)))), .one (.ptr 0 0), .one (.ptr 0 5), .one (.ptr 0 5), .top] [[], [], [], [], [], [], [], [], [], [], [], [(0, .box [.mp 1, .p (.int .i64 o0_818), .p (.int .i64 o0_819), .p (.int .i64 o0_820), .p (.int .i64 o0_821), .p (.int .i64 (w64 (o0_822 - 1))), .p (.int .i64 o0_823), .p (.int .i64 o0_824), .p (.int .i64 o0_825)])]] ([.box [.mp 1, .p (.int .i64 o0_818), .p (.int .i64 o0_819), .p (.int .i64 o0_820), .p (.int .i64 o0_821), .p (.int .i64 o0_822), .p (.int .i64 o0_823), .p (.int .i64 o0_824), .p (.int .i64 o0_825)], .map (enE en_arena_Node (adel o1_826 id_817)), .box [.p (.int .i64 v_969.Id), .p (.int .i64 0), .p (.int .i64 v_969.Parent), .p (.int .i64 v_969.Kind), .p (.str v_969.Tag.Text), .p (.sl 2 (v_969.Tag.Runs.map en_api_Run)), .p (.str v_969.Key), .p (.int .i64 v_969.Slot), .p (.sl 4 (v_969.Attrs.map en_api_Attr)), .p (.sl 3 (v_969.Hooks.map en_api_Hook)), .p (.sl 1 (v_969.Kids.map en_i64)), .p (.str v_969.Text.Text), .p (.sl 2 (v_969.Text.Runs.map en_api_Run))]] ++ List.replicate 0 .res)) <| ai (len_ob en_i64 v_969.Kids) <| (ih_arena_Arena_Free_l2 v_969.Kids (v_969.Kids.length : Int) o0_818 o0_819 o0_820 o0_821 1 0 (w64 (o0_822 - 1)) o0_823 o0_824 o0_825 (adel o1_826 id_817) v_1014 hv_1014 res st ?_)) (by kernel_rfl)
          · intro y hx
            subst hx
            obtain rfl := Option.some.inj h
            exact pathE 424 [.i 5, .fin [0, 1]] (hr) (by kernel_rfl)
        · rcases ite_some h with ⟨c_1015, h⟩ | ⟨c_1015, h⟩
          · obtain ⟨v_1016, hv_1016, h⟩ := bind_some h
            refine pathE 532 [.b false, .e (some (en_arena_Node v_969)), .m (enE en_arena_Node (adel o1_826 id_817)), .i 2, .clit 2 1 1, .dr 0 [[], [], [], [], [], [], [], [], [], [], [], []] [.one (.ptr 0 0), .one (.ptr 2 1), .one (.p (.int .i64 1)), .one (.ptr 0 0), .one (.ptr 0 5), .one (.ptr 0 6), .one (.p (.int .i64 o0_823)), .one (.p (.int .i64 (w64 (o0_823 - 1)))), .one (.ptr 0 0), .one (.ptr 0 5), .one (.ptr 0 6), .top] [[], [], [], [], [], [], [], [], [], [], [], [(0, .box [.mp 1, .p (.int .i64 o0_818), .p (.int .i64 o0_819), .p (.int .i64 o0_820), .p (.int .i64 o0_821), .p (.int .i64 o0_822), .p (.int .i64 (w64 (o0_823 - 1))), .p (.int .i64 o0_824), .p (.int .i64 o0_825)])]], .n v_969.Kids.length, .i 4, .gc [0, 1], .keep [0, 6, 40, 41, 42], .stop] (ai (beq_eq_false_iff_ne.2 c_968) <| ai (asc_ob en_arena_Node hv_969) <| ai (adel_ob en_arena_Node o1_826 id_817) <| ai c_1015 <| ai (drE arena_Arena_Free.b [1, 1, 1, 1, 0] [.one (.ptr 0 0), .one (.ptr 2 1), .one (.p (.int .i64 1)), .one (.ptr 0 0), .one (.ptr 0 5), .one (.ptr 0 6), .one (.p (.int .i64 o0_823)), .one (.p (.int .i64 (w64 (o0_823 - 1)))), .one (.ptr 0 0), .one (.ptr 0 5), .one (.ptr 0 6), .top] [[], [], [], [], [], [], [], [], [], [], [], [(0, .box [.mp 1, .p (.int .i64 o0_818), .p (.int .i64 o0_819), .p (.int .i64 o0_820), .p (.int .i64 o0_821), .p (.int .i64 o0_822), .p (.int .i64 (w64 (o0_823 - 1))), .p (.int .i64 o0_824), .p (.int .i64 o0_825)])]] ([.box [.mp 1, .p (.int .i64 o0_818), .p (.int .i64 o0_819), .p (.int .i64 o0_820), .p (.int .i64 o0_821), .p (.int .i64 o0_822), .p (.int .i64 o0_823), .p (.int .i64 o0_824), .p (.int .i64 o0_825)], .map (enE en_arena_Node (adel o1_826 id_817)), .box [.p (.int .i64 v_969.Id), .p (.int .i64 1), .p (.int .i64 v_969.Parent), .p (.int .i64 v_969.Kind), .p (.str v_969.Tag.Text), .p (.sl 2 (v_969.Tag.Runs.map en_api_Run)), .p (.str v_969.Key), .p (.int .i64 v_969.Slot), .p (.sl 4 (v_969.Attrs.map en_api_Attr)), .p (.sl 3 (v_969.Hooks.map en_api_Hook)), .p (.sl 1 (v_969.Kids.map en_i64)), .p (.str v_969.Text.Text), .p (.sl 2 (v_969.Text.Runs.map en_api_Run))]] ++ List.replicate 0 .res)) <| ai (len_ob en_i64 v_969.Kids) <| (ih_arena_Arena_Free_l2 v_969.Kids (v_969.Kids.length : Int) o0_818 o0_819 o0_820 o0_821 1 0 o0_822 (w64 (o0_823 - 1)) o0_824 o0_825 (adel o1_826 id_817) v_1016 hv_1016 res st ?_)) (by kernel_rfl)
            · intro y hx
              subst hx
              obtain rfl := Option.some.inj h
              exact pathE 424 [.i 5, .fin [0, 1]] (hr) (by kernel_rfl)
          · rcases ite_some h with ⟨c_1017, h⟩ | ⟨c_1017, h⟩
            · obtain ⟨v_1018, hv_1018, h⟩ := bind_some h
              refine pathE 532 [.b false, .e (some (en_arena_Node v_969)), .m (enE en_arena_Node (adel o1_826 id_817)), .i 2, .clit 2 1 2, .dr 0 [[], [], [], [], [], [], [], [], [], [], [], []] [.one (.ptr 0 0), .one (.ptr 2 1), .one (.p (.int .i64 2)), .one (.ptr 0 0), .one (.ptr 0 5), .one (.ptr 0 7), .one (.p (.int .i64 o0_824)), .one (.p (.int .i64 (w64 (o0_824 - 1)))), .one (.ptr 0 0), .one (.ptr 0 5), .one (.ptr 0 7), .top] [[], [], [], [], [], [], [], [], [], [], [], [(0, .box [.mp 1, .p (.int .i64 o0_818), .p (.int .i64 o0_819), .p (.int .i64 o0_820), .p (.int .i64 o0_821), .p (.int .i64 o0_822), .p (.int .i64 o0_823), .p (.int .i64 (w64 (o0_824 - 1))), .p (.int .i64 o0_825)])]], .n v_969.Kids.length, .i 4, .gc [0, 1], .keep [0, 6, 40, 41, 42], .stop] (ai (beq_eq_false_iff_ne.2 c_968) <| ai (asc_ob en_arena_Node hv_969) <| ai (adel_ob en_arena_Node o1_826 id_817) <| ai c_1017 <| ai (drE arena_Arena_Free.b [1, 1, 1, 1, 0] [.one (.ptr 0 0), .one (.ptr 2 1), .one (.p (.int .i64 2)), .one (.ptr 0 0), .one (.ptr 0 5), .one (.ptr 0 7), .one (.p (.int .i64 o0_824)), .one (.p (.int .i64 (w64 (o0_824 - 1)))), .one (.ptr 0 0), .one (.ptr 0 5), .one (.ptr 0 7), .top] [[], [], [], [], [], [], [], [], [], [], [], [(0, .box [.mp 1, .p (.int .i64 o0_818), .p (.int .i64 o0_819), .p (.int .i64 o0_820), .p (.int .i64 o0_821), .p (.int .i64 o0_822), .p (.int .i64 o0_823), .p (.int .i64 (w64 (o0_824 - 1))), .p (.int .i64 o0_825)])]] ([.box [.mp 1, .p (.int .i64 o0_818), .p (.int .i64 o0_819), .p (.int .i64 o0_820), .p (.int .i64 o0_821), .p (.int .i64 o0_822), .p (.int .i64 o0_823), .p (.int .i64 o0_824), .p (.int .i64 o0_825)], .map (enE en_arena_Node (adel o1_826 id_817)), .box [.p (.int .i64 v_969.Id), .p (.int .i64 2), .p (.int .i64 v_969.Parent), .p (.int .i64 v_969.Kind), .p (.str v_969.Tag.Text), .p (.sl 2 (v_969.Tag.Runs.map en_api_Run)), .p (.str v_969.Key), .p (.int .i64 v_969.Slot), .p (.sl 4 (v_969.Attrs.map en_api_Attr)), .p (.sl 3 (v_969.Hooks.map en_api_Hook)), .p (.sl 1 (v_969.Kids.map en_i64)), .p (.str v_969.Text.Text), .p (.sl 2 (v_969.Text.Runs.map en_api_Run))]] ++ List.replicate 0 .res)) <| ai (len_ob en_i64 v_969.Kids) <| (ih_arena_Arena_Free_l2 v_969.Kids (v_969.Kids.length : Int) o0_818 o0_819 o0_820 o0_821 1 0 o0_822 o0_823 (w64 (o0_824 - 1)) o0_825 (adel o1_826 id_817) v_1018 hv_1018 res st ?_)) (by kernel_rfl)
              · intro y hx
                subst hx
                obtain rfl := Option.some.inj h
                exact pathE 424 [.i 5, .fin [0, 1]] (hr) (by kernel_rfl)
            · rcases ite_some h with ⟨c_1019, h⟩ | ⟨c_1019, h⟩
              · obtain ⟨v_1020, hv_1020, h⟩ := bind_some h
                refine pathE 532 [.b false, .e (some (en_arena_Node v_969)), .m (enE en_arena_Node (adel o1_826 id_817)), .i 2, .clit 2 1 3, .dr 0 [[], [], [], [], [], [], [], [], [], [], [], []] [.one (.ptr 0 0), .one (.ptr 2 1), .one (.p (.int .i64 3)), .one (.ptr 0 0), .one (.ptr 0 5), .one (.ptr 0 8), .one (.p (.int .i64 o0_825)), .one (.p (.int .i64 (w64 (o0_825 - 1)))), .one (.ptr 0 0), .one (.ptr 0 5), .one (.ptr 0 8), .top] [[], [], [], [], [], [], [], [], [], [], [], [(0, .box [.mp 1, .p (.int .i64 o0_818), .p (.int .i64 o0_819), .p (.int .i64 o0_820), .p (.int .i64 o0_821), .p (.int .i64 o0_822), .p (.int .i64 o0_823), .p (.int .i64 o0_824), .p (.int .i64 (w64 (o0_825 - 1)))])]], .n v_969.Kids.length, .i 4, .gc [0, 1], .keep [0, 6, 40, 41, 42], .stop] (ai (beq_eq_false_iff_ne.2 c_968) <| ai (asc_ob en_arena_Node hv_969) <| ai (adel_ob en_arena_Node o1_826 id_817) <| ai c_1019 <| ai (drE arena_Arena_Free.b [1, 1, 1, 1, 0] [.one (.ptr 0 0), .one (.ptr 2 1), .one (.p (.int .i64 3)), .one (.ptr 0 0), .one (.ptr 0 5), .one (.ptr 0 8), .one (.p (.int .i64 o0_825)), .one (.p (.int .i64 (w64 (o0_825 - 1)))), .one (.ptr 0 0), .one (.ptr 0 5), .one (.ptr 0 8), .top] [[], [], [], [], [], [], [], [], [], [], [], [(0, .box [.mp 1, .p (.int .i64 o0_818), .p (.int .i64 o0_819), .p (.int .i64 o0_820), .p (.int .i64 o0_821), .p (.int .i64 o0_822), .p (.int .i64 o0_823), .p (.int .i64 o0_824), .p (.int .i64 (w64 (o0_825 - 1)))])]] ([.box [.mp 1, .p (.int .i64 o0_818), .p (.int .i64 o0_819), .p (.int .i64 o0_820), .p (.int .i64 o0_821), .p (.int .i64 o0_822), .p (.int .i64 o0_823), .p (.int .i64 o0_824), .p (.int .i64 o0_825)], .map (enE en_arena_Node (adel o1_826 id_817)), .box [.p (.int .i64 v_969.Id), .p (.int .i64 3), .p (.int .i64 v_969.Parent), .p (.int .i64 v_969.Kind), .p (.str v_969.Tag.Text), .p (.sl 2 (v_969.Tag.Runs.map en_api_Run)), .p (.str v_969.Key), .p (.int .i64 v_969.Slot), .p (.sl 4 (v_969.Attrs.map en_api_Attr)), .p (.sl 3 (v_969.Hooks.map en_api_Hook)), .p (.sl 1 (v_969.Kids.map en_i64)), .p (.str v_969.Text.Text), .p (.sl 2 (v_969.Text.Runs.map en_api_Run))]] ++ List.replicate 0 .res)) <| ai (len_ob en_i64 v_969.Kids) <| (ih_arena_Arena_Free_l2 v_969.Kids (v_969.Kids.length : Int) o0_818 o0_819 o0_820 o0_821 1 0 o0_822 o0_823 o0_824 (w64 (o0_825 - 1)) (adel o1_826 id_817) v_1020 hv_1020 res st ?_)) (by kernel_rfl)
                · intro y hx
                  subst hx
                  obtain rfl := Option.some.inj h
                  exact pathE 424 [.i 5, .fin [0, 1]] (hr) (by kernel_rfl)
              · cases h
theorem arena_Arena_Free.all : ∀ k, arena_Arena_Free_l1.S k ∧ arena_Arena_Free_l2.S k ∧ arena_Arena_Free.S k
  | 0 => ⟨arena_Arena_Free_l1.z, arena_Arena_Free_l2.z, arena_Arena_Free.z⟩
  | k + 1 => by
    obtain ⟨a0, a1, a2⟩ := arena_Arena_Free.all k
    exact ⟨arena_Arena_Free_l1.step k a0 a1 a2, arena_Arena_Free_l2.step k a0 a1 a2, arena_Arena_Free.step k a0 a1 a2⟩
theorem arena_Arena_Free_l1.ok (k : Nat) : arena_Arena_Free_l1.S k := (arena_Arena_Free.all k).1
theorem arena_Arena_Free_l2.ok (k : Nat) : arena_Arena_Free_l2.S k := (arena_Arena_Free.all k).2.1
theorem arena_Arena_Free.ok (k : Nat) : arena_Arena_Free.S k := (arena_Arena_Free.all k).2.2
-- 65 glazier/dom.Remove
def d65 : FnDef := ⟨41, [.tmp 4, .tmp 5],
  (.seq
  (.ops [
    ⟨some 4, .mv (.c (.one (.p (.int .i64 0)))), none⟩,
    ⟨some 5, .mv (.c (.one (.p (.int .i64 0)))), none⟩] [0, 1])
  (.seq
  (.ops [
    ⟨some 11, .mv (.t 0), none⟩,
    ⟨some 12, .mv (.t 1), none⟩,
    ⟨some 13, .call 34 [(.t 11), (.t 12)], none⟩,
    ⟨some 10, .mv (.t 13), none⟩,
    ⟨some 14, .ext (.t 10) 0, none⟩,
    ⟨some 15, .ext (.t 10) 1, none⟩,
    ⟨some 6, .alloc [.p (.int .i64 0), .p (.int .i64 0), .p (.int .i64 0), .p (.int .i64 0), .p (.str []), .nil 2, .p (.str []), .p (.int .i64 0), .nil 4, .nil 3, .nil 1, .p (.str []), .nil 2], none⟩,
    ⟨none, .store 13 (.t 6) (.t 14), none⟩,
    ⟨some 7, .mv (.t 15), none⟩] [0, 1, 6, 7])
  (.seq
  (.block 0
    (.seq
    (.ops [
      ⟨some 17, .mv (.t 7), none⟩,
      ⟨some 18, .un .not (.t 17), none⟩,
      ⟨some 16, .mv (.t 18), none⟩] [0, 1, 6, 16])
    (.cond (.t 16)
      (.seq
      (.ops [
        ⟨some 4, .mv (.c (.one (.p (.int .i64 0)))), none⟩,
        ⟨some 5, .mv (.c (.one (.p (.int .i64 14)))), none⟩] [4, 5])
      .ret)
      (.seq
      (.ops [
        ⟨some 20, .mv (.t 1), none⟩,
        ⟨some 21, .bin 0 .eql (.t 20) (.c (.one (.p (.int .i64 0)))), none⟩,
        ⟨some 19, .mv (.t 21), none⟩] [0, 1, 6, 19])
      (.cond (.t 19)
        (.seq
        (.ops [
          ⟨some 4, .mv (.c (.one (.p (.int .i64 0)))), none⟩,
          ⟨some 5, .mv (.c (.one (.p (.int .i64 20)))), none⟩] [4, 5])
        .ret)
        .skip)))))
  (.seq
  (.seq
  (.ops [
    ⟨some 23, .mv (.t 0), none⟩,
    ⟨some 24, .faddr 2 (.t 6), none⟩,
    ⟨some 25, .load 1 false (.t 24), none⟩,
    ⟨some 26, .call 34 [(.t 23), (.t 25)], none⟩,
    ⟨some 22, .mv (.t 26), none⟩,
    ⟨some 27, .ext (.t 22) 0, none⟩,
    ⟨some 28, .ext (.t 22) 1, none⟩,
    ⟨some 8, .alloc [.p (.int .i64 0), .p (.int .i64 0), .p (.int .i64 0), .p (.int .i64 0), .p (.str []), .nil 2, .p (.str []), .p (.int .i64 0), .nil 4, .nil 3, .nil 1, .p (.str []), .nil 2], none⟩,
    ⟨none, .store 13 (.t 8) (.t 27), none⟩,
    ⟨some 9, .mv (.t 28), none⟩] [0, 1, 8, 9])
  (.seq
  (.ops [
    ⟨some 29, .mv (.t 9), none⟩] [0, 1, 8, 29])
  (.cond (.t 29)
    (.seq
    (.ops [
      ⟨some 30, .faddr 10 (.t 8), none⟩,
      ⟨some 31, .load 1 false (.t 30), none⟩,
      ⟨some 32, .mv (.t 1), none⟩,
      ⟨some 33, .call 123 [(.t 31), (.t 32)], none⟩,
      ⟨some 34, .faddr 10 (.t 8), none⟩,
      ⟨none, .store 1 (.t 34) (.t 33), none⟩] [0, 1, 8])
    (.ops [
      ⟨some 35, .mv (.t 0), none⟩,
      ⟨some 36, .load 13 true (.t 8), none⟩,
      ⟨some 37, .call 101 [(.t 35), (.t 36)], none⟩] [0, 1]))
    .skip)))
  (.seq
  (.ops [
    ⟨some 38, .mv (.t 0), none⟩,
    ⟨some 39, .mv (.t 1), none⟩,
    ⟨some 40, .call 47 [(.t 38), (.t 39)], none⟩,
    ⟨some 4, .mv (.t 40), none⟩,
    ⟨some 5, .mv (.c (.one (.p (.int .i64 0)))), none⟩] [4, 5])
  .ret)))))⟩
theorem m65 : mFn Try.prog d65 Try.f65 = true := by kernel_rfl
def dom_Remove.A (id_657 : Int) (o0_658 : Int) (o0_659 : Int) (o0_660 : Int) (o0_661 : Int) (o0_662 : Int) (o0_663 : Int) (o0_664 : Int) (o0_665 : Int) (o1_666 : (List (Int × arena_Node))) : List Vv := [.one (.ptr 0 0), .one (.p (.int .i64 id_657))]
def dom_Remove.S0 (id_657 : Int) (o0_658 : Int) (o0_659 : Int) (o0_660 : Int) (o0_661 : Int) (o0_662 : Int) (o0_663 : Int) (o0_664 : Int) (o0_665 : Int) (o1_666 : (List (Int × arena_Node))) : Sto := [.box [.mp 1, .p (.int .i64 o0_658), .p (.int .i64 o0_659), .p (.int .i64 o0_660), .p (.int .i64 o0_661), .p (.int .i64 o0_662), .p (.int .i64 o0_663), .p (.int .i64 o0_664), .p (.int .i64 o0_665)], .map (enE en_arena_Node o1_666)]
def dom_Remove.R (id_657 : Int) (o0_658 : Int) (o0_659 : Int) (o0_660 : Int) (o0_661 : Int) (o0_662 : Int) (o0_663 : Int) (o0_664 : Int) (o0_665 : Int) (o1_666 : (List (Int × arena_Node))) (r_0 : Int × Int × Int × Int × Int × Int × (List (Int × arena_Node))) : Vv := .tup [.one (.p (.int .i64 r_0.1)), .one (.p (.int .i64 r_0.2.1))]
def dom_Remove.S1 (id_657 : Int) (o0_658 : Int) (o0_659 : Int) (o0_660 : Int) (o0_661 : Int) (o0_662 : Int) (o0_663 : Int) (o0_664 : Int) (o0_665 : Int) (o1_666 : (List (Int × arena_Node))) (r_0 : Int × Int × Int × Int × Int × Int × (List (Int × arena_Node))) : Sto := [.box [.mp 1, .p (.int .i64 o0_658), .p (.int .i64 o0_659), .p (.int .i64 o0_660), .p (.int .i64 o0_661), .p (.int .i64 r_0.2.2.1), .p (.int .i64 r_0.2.2.2.1), .p (.int .i64 r_0.2.2.2.2.1), .p (.int .i64 r_0.2.2.2.2.2.1)], .map (enE en_arena_Node r_0.2.2.2.2.2.2)]
def dom_Remove.rs : List Rv := d65.res
def dom_Remove.b : Sx := d65.body
def dom_Remove.f (k : Nat) (id_657 : Int) (o0_658 : Int) (o0_659 : Int) (o0_660 : Int) (o0_661 : Int) (o0_662 : Int) (o0_663 : Int) (o0_664 : Int) (o0_665 : Int) (o1_666 : (List (Int × arena_Node))) : Option (Int × Int × Int × Int × Int × Int × (List (Int × arena_Node))) := ((arena_Arena_Get.f k id_657 o0_658 o0_659 o0_660 o0_661 o0_662 o0_663 o0_664 o0_665 o1_666).bind fun t_1032 => (if (!t_1032.2) = true then (some (0, 14, o0_662, o0_663, o0_664, o0_665, o1_666)) else (if id_657 = 0 then (some (0, 20, o0_662, o0_663, o0_664, o0_665, o1_666)) else ((arena_Arena_Get.f k t_1032.1.Parent o0_658 o0_659 o0_660 o0_661 o0_662 o0_663 o0_664 o0_665 o1_666).bind fun t_1035 => (if t_1035.2 = true then ((dom_without.f k id_657 t_1035.1.Kids).bind fun t_1037 => ((arena_Arena_Set.f k (arena_Node.mk t_1035.1.Id t_1035.1.Owner t_1035.1.Parent t_1035.1.Kind t_1035.1.Tag t_1035.1.Key t_1035.1.Slot t_1035.1.Attrs t_1035.1.Hooks t_1037 t_1035.1.Text) o0_658 o0_659 o0_660 o0_661 o0_662 o0_663 o0_664 o0_665 o1_666).bind fun t_1038 => ((arena_Arena_Free.f k id_657 o0_658 o0_659 o0_660 o0_661 o0_662 o0_663 o0_664 o0_665 t_1038.2).bind fun t_1039 => (some (t_1039.1, 0, t_1039.2.1, t_1039.2.2.1, t_1039.2.2.2.1, t_1039.2.2.2.2.1, t_1039.2.2.2.2.2))))) else ((arena_Arena_Free.f k id_657 o0_658 o0_659 o0_660 o0_661 o0_662 o0_663 o0_664 o0_665 o1_666).bind fun t_1040 => (some (t_1040.1, 0, t_1040.2.1, t_1040.2.2.1, t_1040.2.2.2.1, t_1040.2.2.2.2.1, t_1040.2.2.2.2.2))))))))
theorem dom_Remove.run (k : Nat) (id_657 : Int) (o0_658 : Int) (o0_659 : Int) (o0_660 : Int) (o0_661 : Int) (o0_662 : Int) (o0_663 : Int) (o0_664 : Int) (o0_665 : Int) (o1_666 : (List (Int × arena_Node))) (r : Int × Int × Int × Int × Int × Int × (List (Int × arena_Node))) (h : dom_Remove.f k id_657 o0_658 o0_659 o0_660 o0_661 o0_662 o0_663 o0_664 o0_665 o1_666 = some r) (res : Vv) (st : Sto) (hr : (dom_Remove.R id_657 o0_658 o0_659 o0_660 o0_661 o0_662 o0_663 o0_664 o0_665 o1_666 r, dom_Remove.S1 id_657 o0_658 o0_659 o0_660 o0_661 o0_662 o0_663 o0_664 o0_665 o1_666 r) = (res, st)) : RunE Try.prog ⟨2, dom_Remove.rs, res, st⟩ (.st dom_Remove.b .done) (argE 0 (dom_Remove.A id_657 o0_658 o0_659 o0_660 o0_661 o0_662 o0_663 o0_664 o0_665 o1_666)) (dom_Remove.S0 id_657 o0_658 o0_659 o0_660 o0_661 o0_662 o0_663 o0_664 o0_665 o1_666) := by
  unfold dom_Remove.f at h
  obtain ⟨t_1032, ht_1032, h⟩ := bind_some h
  rcases ite_some h with ⟨c_1033, h⟩ | ⟨c_1033, h⟩
  · obtain rfl := Option.some.inj h
    exact pathE 448 [.call [0, 1] (arena_Arena_Get.R id_657 o0_658 o0_659 o0_660 o0_661 o0_662 o0_663 o0_664 o0_665 o1_666 t_1032) (arena_Arena_Get.S1 id_657 o0_658 o0_659 o0_660 o0_661 o0_662 o0_663 o0_664 o0_665 o1_666 t_1032), .b true, .i 5, .fin [0, 1]] (ai (arena_Arena_Get.ok k id_657 o0_658 o0_659 o0_660 o0_661 o0_662 o0_663 o0_664 o0_665 o1_666 t_1032 ht_1032) <| ai c_1033 <| hr) (by kernel_rfl)
  · rcases ite_some h with ⟨c_1034, h⟩ | ⟨c_1034, h⟩
    · obtain rfl := Option.some.inj h
      exact pathE 460 [.call [0, 1] (arena_Arena_Get.R id_657 o0_658 o0_659 o0_660 o0_661 o0_662 o0_663 o0_664 o0_665 o1_666 t_1032) (arena_Arena_Get.S1 id_657 o0_658 o0_659 o0_660 o0_661 o0_662 o0_663 o0_664 o0_665 o1_666 t_1032), .b false, .b true, .i 5, .fin [0, 1]] (ai (arena_Arena_Get.ok k id_657 o0_658 o0_659 o0_660 o0_661 o0_662 o0_663 o0_664 o0_665 o1_666 t_1032 ht_1032) <| ai (bool_false c_1033) <| ai (beq_iff_eq.2 c_1034) <| hr) (by kernel_rfl)
    · obtain ⟨t_1035, ht_1035, h⟩ := bind_some h
      refine pathE 496 [.call [0, 1] (arena_Arena_Get.R id_657 o0_658 o0_659 o0_660 o0_661 o0_662 o0_663 o0_664 o0_665 o1_666 t_1032) (arena_Arena_Get.S1 id_657 o0_658 o0_659 o0_660 o0_661 o0_662 o0_663 o0_664 o0_665 o1_666 t_1032), .b false, .b false, .call [0, 1] (arena_Arena_Get.R t_1032.1.Parent o0_658 o0_659 o0_660 o0_661 o0_662 o0_663 o0_664 o0_665 o1_666 t_1035) (arena_Arena_Get.S1 t_1032.1.Parent o0_658 o0_659 o0_660 o0_661 o0_662 o0_663 o0_664 o0_665 o1_666 t_1035), .i 11, .gc [0, 1, 7, 5, 6], .keep [0, 1, 8, 29], .stop] (ai (arena_Arena_Get.ok k id_657 o0_658 o0_659 o0_660 o0_661 o0_662 o0_663 o0_664 o0_665 o1_666 t_1032 ht_1032) <| ai (bool_false c_1033) <| ai (beq_eq_false_iff_ne.2 c_1034) <| ai (arena_Arena_Get.ok k t_1032.1.Parent o0_658 o0_659 o0_660 o0_661 o0_662 o0_663 o0_664 o0_665 o1_666 t_1035 ht_1035) <| (?_ : RunE Try.prog ⟨2, dom_Remove.rs, res, st⟩ (koOf dom_Remove.b .done [1, 1, 1, 0, 1, 1]) [(0, .one (.ptr 0 0)), (1, .one (.p (.int .i64 id_657))), (8, .one (.ptr 2 0)), (29, .one (.p (.bool t_1035.2)))] [.box [.mp 1, .p (.int .i64 o0_658), .p (.int .i64 o0_659), .p (.int .i64 o0_660), .p (.int .i64 o0_661), .p (.int .i64 o0_662), .p (.int .i64 o0_663), .p (.int .i64 o0_664), .p (.int .i64 o0_665)], .map (enE en_arena_Node o1_666), .box [.p (.int .i64 t_1035.1.Id), .p (.int .i64 t_1035.1.Owner), .p (.int .i64 t_1035.1.Parent), .p (.int .i64 t_1035.1.Kind), .p (.str t_1035.1.Tag.Text), .p (.sl 2 (t_1035.1.Tag.Runs.map en_api_Run)), .p (.str t_1035.1.Key), .p (.int .i64 t_1035.1.Slot), .p (.sl 4 (t_1035.1.Attrs.map en_api_Attr)), .own 3 3 0 t_1035.1.Hooks.length, .own 4 1 0 t_1035.1.Kids.length, .p (.str t_1035.1.Text.Text), .p (.sl 2 (t_1035.1.Text.Runs.map en_api_Run))], .row 69 3 t_1035.1.Hooks.length (t_1035.1.Hooks.map en_api_Hook), .row 3 1 t_1035.1.Kids.length (t_1035.1.Kids.map en_i64)])) (by kernel_rfl)
      rcases ite_some h with ⟨c_1036, h⟩ | ⟨c_1036, h⟩
      · obtain ⟨t_1037, ht_1037, h⟩ := bind_some h
        obtain ⟨t_1038, ht_1038, h⟩ := bind_some h
        obtain ⟨t_1039, ht_1039, h⟩ := bind_some h
        obtain rfl := Option.some.inj h
        exact pathE 520 [.b true, .call [4] (dom_without.R id_657 t_1035.1.Kids t_1037) (dom_without.S1 id_657 t_1035.1.Kids t_1037), .i 6, .fz 36 [], .z (t_1035.1.Hooks.map en_api_Hook), .z (t_1037.map en_i64), .call [0, 1] (arena_Arena_Set.R (arena_Node.mk t_1035.1.Id t_1035.1.Owner t_1035.1.Parent t_1035.1.Kind t_1035.1.Tag t_1035.1.Key t_1035.1.Slot t_1035.1.Attrs t_1035.1.Hooks t_1037 t_1035.1.Text) o0_658 o0_659 o0_660 o0_661 o0_662 o0_663 o0_664 o0_665 o1_666 t_1038) (arena_Arena_Set.S1 (arena_Node.mk t_1035.1.Id t_1035.1.Owner t_1035.1.Parent t_1035.1.Kind t_1035.1.Tag t_1035.1.Key t_1035.1.Slot t_1035.1.Attrs t_1035.1.Hooks t_1037 t_1035.1.Text) o0_658 o0_659 o0_660 o0_661 o0_662 o0_663 o0_664 o0_665 o1_666 t_1038), .call [0, 1] (arena_Arena_Free.R id_657 o0_658 o0_659 o0_660 o0_661 o0_662 o0_663 o0_664 o0_665 t_1038.2 t_1039) (arena_Arena_Free.S1 id_657 o0_658 o0_659 o0_660 o0_661 o0_662 o0_663 o0_664 o0_665 t_1038.2 t_1039), .i 3, .fin [0, 1]] (ai c_1036 <| ai (dom_without.ok k id_657 t_1035.1.Kids t_1037 ht_1037) <| ai (set_obE en_api_Hook (l := t_1035.1.Hooks) (m := t_1035.1.Hooks.length) rfl) <| ai (set_obE en_i64 (l := t_1037) (m := t_1037.length) rfl) <| ai (arena_Arena_Set.ok k (arena_Node.mk t_1035.1.Id t_1035.1.Owner t_1035.1.Parent t_1035.1.Kind t_1035.1.Tag t_1035.1.Key t_1035.1.Slot t_1035.1.Attrs t_1035.1.Hooks t_1037 t_1035.1.Text) o0_658 o0_659 o0_660 o0_661 o0_662 o0_663 o0_664 o0_665 o1_666 t_1038 ht_1038) <| ai (arena_Arena_Free.ok k id_657 o0_658 o0_659 o0_660 o0_661 o0_662 o0_663 o0_664 o0_665 t_1038.2 t_1039 ht_1039) <| hr) (by kernel_rfl)
      · obtain ⟨t_1040, ht_1040, h⟩ := bind_some h
        obtain rfl := Option.some.inj h
        exact pathE 448 [.b false, .call [0, 1] (arena_Arena_Free.R id_657 o0_658 o0_659 o0_660 o0_661 o0_662 o0_663 o0_664 o0_665 o1_666 t_1040) (arena_Arena_Free.S1 id_657 o0_658 o0_659 o0_660 o0_661 o0_662 o0_663 o0_664 o0_665 o1_666 t_1040), .i 3, .fin [0, 1]] (ai (bool_false c_1036) <| ai (arena_Arena_Free.ok k id_657 o0_658 o0_659 o0_660 o0_661 o0_662 o0_663 o0_664 o0_665 o1_666 t_1040 ht_1040) <| hr) (by kernel_rfl)
theorem dom_Remove.ok (k : Nat) (id_657 : Int) (o0_658 : Int) (o0_659 : Int) (o0_660 : Int) (o0_661 : Int) (o0_662 : Int) (o0_663 : Int) (o0_664 : Int) (o0_665 : Int) (o1_666 : (List (Int × arena_Node))) (r : Int × Int × Int × Int × Int × Int × (List (Int × arena_Node))) (h : dom_Remove.f k id_657 o0_658 o0_659 o0_660 o0_661 o0_662 o0_663 o0_664 o0_665 o1_666 = some r) : OkS Try.prog 65 (dom_Remove.A id_657 o0_658 o0_659 o0_660 o0_661 o0_662 o0_663 o0_664 o0_665 o1_666) (dom_Remove.S0 id_657 o0_658 o0_659 o0_660 o0_661 o0_662 o0_663 o0_664 o0_665 o1_666) (dom_Remove.R id_657 o0_658 o0_659 o0_660 o0_661 o0_662 o0_663 o0_664 o0_665 o1_666 r) (dom_Remove.S1 id_657 o0_658 o0_659 o0_660 o0_661 o0_662 o0_663 o0_664 o0_665 o1_666 r) := okE Try.func65 m65 rfl rfl rfl (dom_Remove.run k id_657 o0_658 o0_659 o0_660 o0_661 o0_662 o0_663 o0_664 o0_665 o1_666 r h _ _ rfl)
-- 124 (*glazier/caps.Table).Mount
def d124 : FnDef := ⟨12, [.tmp 2],
  (.seq
  (.ops [
    ⟨some 2, .mv (.c (.one (.p (.int .i64 0)))), none⟩] [0])
  (.seq
  (.seq
  (.ops [
    ⟨some 3, .mv (.t 0), none⟩,
    ⟨some 4, .call 121 [(.t 3)], none⟩,
    ⟨some 5, .un .not (.t 4), none⟩] [0, 5])
  (.cond (.t 5)
    (.seq
    (.ops [
      ⟨some 2, .mv (.c (.one (.p (.int .i64 0)))), none⟩] [2])
    .ret)
    .skip))
  (.seq
  (.ops [
    ⟨some 6, .mv (.t 0), none⟩,
    ⟨some 7, .nilck (.t 6), none⟩,
    ⟨some 8, .faddr 1 (.t 7), none⟩,
    ⟨some 9, .load 1 false (.t 8), none⟩,
    ⟨some 10, .iaddr 1 (.t 9) (.c (.one (.p (.int .i64 0)))), none⟩,
    ⟨some 11, .load 1 false (.t 10), none⟩,
    ⟨some 2, .mv (.t 11), none⟩] [2])
  .ret)))⟩
theorem m124 : mFn Try.prog d124 Try.f124 = true := by kernel_rfl
def caps_Table_Mount.A (o0_674 : Int) (o1_675 : (List Int)) : List Vv := [.one (.ptr 0 0)]
def caps_Table_Mount.S0 (o0_674 : Int) (o1_675 : (List Int)) : Sto := [.box [.p (.int .i64 o0_674), .own 1 1 0 o1_675.length], .row 3 1 o1_675.length (o1_675.map en_i64)]
def caps_Table_Mount.R (o0_674 : Int) (o1_675 : (List Int)) (r_0 : Int) : Vv := .one (.p (.int .i64 r_0))
def caps_Table_Mount.S1 (o0_674 : Int) (o1_675 : (List Int)) (r_0 : Int) : Sto := [.box [.p (.int .i64 o0_674), .own 1 1 0 o1_675.length], .row 3 1 o1_675.length (o1_675.map en_i64)]
def caps_Table_Mount.rs : List Rv := d124.res
def caps_Table_Mount.b : Sx := d124.body
def caps_Table_Mount.f (o0_674 : Int) (o1_675 : (List Int)) : Option (Int) := ((caps_Table_is.f o0_674 o1_675).bind fun t_682 => (if (!(decide ((o1_675.length : Int) > 0))) = true then (some 0) else ((idx o1_675 0).bind fun x_684 => (some x_684))))
theorem caps_Table_Mount.run (o0_674 : Int) (o1_675 : (List Int)) (r : Int) (h : caps_Table_Mount.f o0_674 o1_675 = some r) (res : Vv) (st : Sto) (hr : (caps_Table_Mount.R o0_674 o1_675 r, caps_Table_Mount.S1 o0_674 o1_675 r) = (res, st)) : RunE Try.prog ⟨2, caps_Table_Mount.rs, res, st⟩ (.st caps_Table_Mount.b .done) (argE 0 (caps_Table_Mount.A o0_674 o1_675)) (caps_Table_Mount.S0 o0_674 o1_675) := by
  unfold caps_Table_Mount.f at h
  obtain ⟨t_682, ht_682, h⟩ := bind_some h
  rcases ite_some h with ⟨c_683, h⟩ | ⟨c_683, h⟩
  · obtain rfl := Option.some.inj h
    exact pathE 448 [.call [0, 1] (caps_Table_is.R o0_674 o1_675 t_682) (caps_Table_is.S1 o0_674 o1_675 t_682), .b true, .i 4, .fin [0, 1]] (ai (caps_Table_is.ok o0_674 o1_675 t_682 ht_682) <| ai c_683 <| hr) (by kernel_rfl)
  · obtain ⟨x_684, hx_684, h⟩ := bind_some h
    obtain rfl := Option.some.inj h
    exact pathE 460 [.call [0, 1] (caps_Table_is.R o0_674 o1_675 t_682) (caps_Table_is.S1 o0_674 o1_675 t_682), .b false, .c (en_i64 x_684), .i 2, .fin [0, 1]] (ai (caps_Table_is.ok o0_674 o1_675 t_682 ht_682) <| ai (bool_false c_683) <| ai (idx_ownE (m := o1_675.length) rfl hx_684) <| ai (idx_ob en_i64 hx_684).2 <| hr) (by kernel_rfl)
theorem caps_Table_Mount.ok (o0_674 : Int) (o1_675 : (List Int)) (r : Int) (h : caps_Table_Mount.f o0_674 o1_675 = some r) : OkS Try.prog 124 (caps_Table_Mount.A o0_674 o1_675) (caps_Table_Mount.S0 o0_674 o1_675) (caps_Table_Mount.R o0_674 o1_675 r) (caps_Table_Mount.S1 o0_674 o1_675 r) := okE Try.func124 m124 rfl rfl rfl (caps_Table_Mount.run o0_674 o1_675 r h _ _ rfl)
-- 66 (*glazier/caps.Table).Sees
def d66 : FnDef := ⟨56, [.cell 6 13 true, .tmp 7],
  (.seq
  (.ops [
    ⟨some 6, .alloc [.p (.int .i64 0), .p (.int .i64 0), .p (.int .i64 0), .p (.int .i64 0), .p (.str []), .nil 2, .p (.str []), .p (.int .i64 0), .nil 4, .nil 3, .nil 1, .p (.str []), .nil 2], none⟩,
    ⟨some 7, .mv (.c (.one (.p (.int .i64 0)))), none⟩] [0, 1, 2, 6])
  (.seq
  (.ops [
    ⟨some 13, .mv (.t 0), none⟩,
    ⟨some 14, .mv (.t 2), none⟩,
    ⟨some 15, .call 118 [(.t 13), (.t 14)], none⟩,
    ⟨some 12, .mv (.t 15), none⟩,
    ⟨some 16, .ext (.t 12) 0, none⟩,
    ⟨some 17, .ext (.t 12) 1, none⟩,
    ⟨some 8, .mv (.t 16), none⟩,
    ⟨some 9, .mv (.t 17), none⟩] [0, 1, 6, 8, 9])
  (.seq
  (.seq
  (.ops [
    ⟨some 18, .mv (.t 9), none⟩,
    ⟨some 19, .bin 0 .neq (.t 18) (.c (.one (.p (.int .i64 0)))), none⟩] [0, 1, 6, 8, 9, 19])
  (.cond (.t 19)
    (.seq
    (.ops [
      ⟨some 20, .build [.p (.int .i64 0), .p (.int .i64 0), .p (.int .i64 0), .p (.int .i64 0), .p (.str []), .nil 2, .p (.str []), .p (.int .i64 0), .nil 4, .nil 3, .nil 1, .p (.str []), .nil 2] [], none⟩,
      ⟨some 21, .mv (.t 9), none⟩,
      ⟨none, .store 13 (.t 6) (.t 20), none⟩,
      ⟨some 7, .mv (.t 21), none⟩] [6, 7])
    .ret)
    .skip))
  (.seq
  (.ops [
    ⟨some 23, .mv (.t 1), none⟩,
    ⟨some 24, .mv (.t 8), none⟩,
    ⟨some 25, .call 34 [(.t 23), (.t 24)], none⟩,
    ⟨some 22, .mv (.t 25), none⟩,
    ⟨some 26, .ext (.t 22) 0, none⟩,
    ⟨some 27, .ext (.t 22) 1, none⟩,
    ⟨some 10, .alloc [.p (.int .i64 0), .p (.int .i64 0), .p (.int .i64 0), .p (.int .i64 0), .p (.str []), .nil 2, .p (.str []), .p (.int .i64 0), .nil 4, .nil 3, .nil 1, .p (.str []), .nil 2], none⟩,
    ⟨none, .store 13 (.t 10) (.t 26), none⟩,
    ⟨some 11, .mv (.t 27), none⟩] [0, 1, 6, 8, 10, 11])
  (.seq
  (.block 0
    (.seq
    (.ops [
      ⟨some 29, .mv (.t 11), none⟩,
      ⟨some 30, .un .not (.t 29), none⟩,
      ⟨some 31, .mv (.t 30), none⟩,
      ⟨some 32, .mv (.t 1), some (31, false)⟩,
      ⟨some 33, .mv (.t 8), some (31, false)⟩,
      ⟨some 34, .mv (.t 0), some (31, false)⟩,
      ⟨some 35, .call 124 [(.t 34)], some (31, false)⟩,
      ⟨some 36, .call 92 [(.t 32), (.t 33), (.t 35)], some (31, false)⟩,
      ⟨some 37, .un .not (.t 36), some (31, false)⟩,
      ⟨some 38, .pick (.t 31) (.c (.one (.p (.bool true)))) (.t 37), none⟩,
      ⟨some 28, .mv (.t 38), none⟩] [0, 6, 8, 10, 28])
    (.cond (.t 28)
      (.seq
      (.ops [
        ⟨some 39, .build [.p (.int .i64 0), .p (.int .i64 0), .p (.int .i64 0), .p (.int .i64 0), .p (.str []), .nil 2, .p (.str []), .p (.int .i64 0), .nil 4, .nil 3, .nil 1, .p (.str []), .nil 2] [], none⟩,
        ⟨none, .store 13 (.t 6) (.t 39), none⟩,
        ⟨some 7, .mv (.c (.one (.p (.int .i64 21)))), none⟩] [6, 7])
      .ret)
      (.seq
      (.drawn [
        ⟨⟨some 41, .mv (.t 8), none⟩, [], false⟩,
        ⟨⟨some 42, .mv (.t 0), none⟩, [], false⟩,
        ⟨⟨some 43, .call 124 [(.t 42)], none⟩, [1], true⟩,
        ⟨⟨some 44, .bin 0 .neq (.t 41) (.t 43), none⟩, [0, 1, 2], false⟩,
        ⟨⟨some 45, .mv (.t 44), none⟩, [0, 1, 2, 3], false⟩,
        ⟨⟨some 46, .faddr 1 (.t 10), some (45, true)⟩, [0, 1, 2, 3, 4], false⟩,
        ⟨⟨some 47, .load 1 false (.t 46), some (45, true)⟩, [0, 1, 2, 3, 4, 5], false⟩,
        ⟨⟨some 48, .mv (.t 0), some (45, true)⟩, [0, 1, 2, 3, 4], false⟩,
        ⟨⟨some 49, .nilck (.t 48), some (45, true)⟩, [0, 1, 2, 3, 4, 7], false⟩,
        ⟨⟨some 50, .faddr 0 (.t 49), some (45, true)⟩, [0, 1, 2, 3, 4, 7, 8], false⟩,
        ⟨⟨some 51, .load 1 false (.t 50), some (45, true)⟩, [0, 1, 2, 3, 4, 7, 8, 9], false⟩,
        ⟨⟨some 52, .bin 0 .neq (.t 47) (.t 51), some (45, true)⟩, [0, 1, 2, 3, 4, 5, 6, 7, 8, 9, 10], false⟩,
        ⟨⟨some 53, .pick (.t 45) (.t 52) (.c (.one (.p (.bool false)))), none⟩, [0, 1, 2, 3, 4, 5, 6, 7, 8, 9, 10, 11], false⟩,
        ⟨⟨some 40, .mv (.t 53), none⟩, [0, 1, 2, 3, 4, 5, 6, 7, 8, 9, 10, 11, 12], false⟩] [[], [2]] [6, 10, 40])
      (.cond (.t 40)
        (.seq
        (.ops [
          ⟨some 54, .build [.p (.int .i64 0), .p (.int .i64 0), .p (.int .i64 0), .p (.int .i64 0), .p (.str []), .nil 2, .p (.str []), .p (.int .i64 0), .nil 4, .nil 3, .nil 1, .p (.str []), .nil 2] [], none⟩,
          ⟨none, .store 13 (.t 6) (.t 54), none⟩,
          ⟨some 7, .mv (.c (.one (.p (.int .i64 20)))), none⟩] [6, 7])
        .ret)
        .skip)))))
  (.seq
  (.ops [
    ⟨some 55, .load 13 true (.t 10), none⟩,
    ⟨none, .store 13 (.t 6) (.t 55), none⟩,
    ⟨some 7, .mv (.c (.one (.p (.int .i64 0)))), none⟩] [6, 7])
  .ret))))))⟩
theorem m66 : mFn Try.prog d66 Try.f66 = true := by kernel_rfl
def caps_Table_Sees.A (handle_658 : Int) (o0_659 : Int) (o1_660 : Int) (o1_661 : Int) (o1_662 : Int) (o1_663 : Int) (o1_664 : Int) (o1_665 : Int) (o1_666 : Int) (o1_667 : Int) (o2_668 : (List (Int × arena_Node))) (o3_669 : (List Int)) : List Vv := [.one (.ptr 0 0), .one (.ptr 1 0), .one (.p (.int .i64 handle_658))]
def caps_Table_Sees.S0 (handle_658 : Int) (o0_659 : Int) (o1_660 : Int) (o1_661 : Int) (o1_662 : Int) (o1_663 : Int) (o1_664 : Int) (o1_665 : Int) (o1_666 : Int) (o1_667 : Int) (o2_668 : (List (Int × arena_Node))) (o3_669 : (List Int)) : Sto := [.box [.p (.int .i64 o0_659), .own 3 1 0 o3_669.length], .box [.mp 2, .p (.int .i64 o1_660), .p (.int .i64 o1_661), .p (.int .i64 o1_662), .p (.int .i64 o1_663), .p (.int .i64 o1_664), .p (.int .i64 o1_665), .p (.int .i64 o1_666), .p (.int .i64 o1_667)], .map (enE en_arena_Node o2_668), .row 3 1 o3_669.length (o3_669.map en_i64)]
def caps_Table_Sees.R (handle_658 : Int) (o0_659 : Int) (o1_660 : Int) (o1_661 : Int) (o1_662 : Int) (o1_663 : Int) (o1_664 : Int) (o1_665 : Int) (o1_666 : Int) (o1_667 : Int) (o2_668 : (List (Int × arena_Node))) (o3_669 : (List Int)) (r_0 : arena_Node × Int) : Vv := .tup [.agg [.p (.int .i64 r_0.1.Id), .p (.int .i64 r_0.1.Owner), .p (.int .i64 r_0.1.Parent), .p (.int .i64 r_0.1.Kind), .p (.str r_0.1.Tag.Text), .p (.sl 2 (r_0.1.Tag.Runs.map en_api_Run)), .p (.str r_0.1.Key), .p (.int .i64 r_0.1.Slot), .p (.sl 4 (r_0.1.Attrs.map en_api_Attr)), .p (.sl 3 (r_0.1.Hooks.map en_api_Hook)), .p (.sl 1 (r_0.1.Kids.map en_i64)), .p (.str r_0.1.Text.Text), .p (.sl 2 (r_0.1.Text.Runs.map en_api_Run))], .one (.p (.int .i64 r_0.2))]
def caps_Table_Sees.S1 (handle_658 : Int) (o0_659 : Int) (o1_660 : Int) (o1_661 : Int) (o1_662 : Int) (o1_663 : Int) (o1_664 : Int) (o1_665 : Int) (o1_666 : Int) (o1_667 : Int) (o2_668 : (List (Int × arena_Node))) (o3_669 : (List Int)) (r_0 : arena_Node × Int) : Sto := [.box [.p (.int .i64 o0_659), .own 3 1 0 o3_669.length], .box [.mp 2, .p (.int .i64 o1_660), .p (.int .i64 o1_661), .p (.int .i64 o1_662), .p (.int .i64 o1_663), .p (.int .i64 o1_664), .p (.int .i64 o1_665), .p (.int .i64 o1_666), .p (.int .i64 o1_667)], .map (enE en_arena_Node o2_668), .row 3 1 o3_669.length (o3_669.map en_i64)]
def caps_Table_Sees.rs : List Rv := d66.res
def caps_Table_Sees.b : Sx := d66.body
def caps_Table_Sees.f (k : Nat) (handle_658 : Int) (o0_659 : Int) (o1_660 : Int) (o1_661 : Int) (o1_662 : Int) (o1_663 : Int) (o1_664 : Int) (o1_665 : Int) (o1_666 : Int) (o1_667 : Int) (o2_668 : (List (Int × arena_Node))) (o3_669 : (List Int)) : Option (arena_Node × Int) := ((caps_Table_Find.f handle_658 o0_659 o3_669).bind fun t_701 => (if t_701.2 ≠ 0 then (some ((arena_Node.mk 0 0 0 0 (api_Str.mk [] ([] : List api_Run)) [] 0 ([] : List api_Attr) ([] : List api_Hook) ([] : List Int) (api_Str.mk [] ([] : List api_Run))), t_701.2)) else ((arena_Arena_Get.f k t_701.1 o1_660 o1_661 o1_662 o1_663 o1_664 o1_665 o1_666 o1_667 o2_668).bind fun t_703 => (if (!t_703.2) = true then (some ((arena_Node.mk 0 0 0 0 (api_Str.mk [] ([] : List api_Run)) [] 0 ([] : List api_Attr) ([] : List api_Hook) ([] : List Int) (api_Str.mk [] ([] : List api_Run))), 21)) else ((caps_Table_Mount.f o0_659 o3_669).bind fun t_705 => ((dom_Inside.f k t_701.1 t_705 o1_660 o1_661 o1_662 o1_663 o1_664 o1_665 o1_666 o1_667 o2_668).bind fun t_706 => (if (!t_706) = true then (some ((arena_Node.mk 0 0 0 0 (api_Str.mk [] ([] : List api_Run)) [] 0 ([] : List api_Attr) ([] : List api_Hook) ([] : List Int) (api_Str.mk [] ([] : List api_Run))), 21)) else ((caps_Table_Mount.f o0_659 o3_669).bind fun t_708 => (if t_701.1 ≠ t_708 then (if t_703.1.Owner ≠ o0_659 then (some ((arena_Node.mk 0 0 0 0 (api_Str.mk [] ([] : List api_Run)) [] 0 ([] : List api_Attr) ([] : List api_Hook) ([] : List Int) (api_Str.mk [] ([] : List api_Run))), 20)) else (some (t_703.1, 0))) else (some (t_703.1, 0)))))))))))
theorem caps_Table_Sees.run (k : Nat) (handle_658 : Int) (o0_659 : Int) (o1_660 : Int) (o1_661 : Int) (o1_662 : Int) (o1_663 : Int) (o1_664 : Int) (o1_665 : Int) (o1_666 : Int) (o1_667 : Int) (o2_668 : (List (Int × arena_Node))) (o3_669 : (List Int)) (r : arena_Node × Int) (h : caps_Table_Sees.f k handle_658 o0_659 o1_660 o1_661 o1_662 o1_663 o1_664 o1_665 o1_666 o1_667 o2_668 o3_669 = some r) (res : Vv) (st : Sto) (hr : (caps_Table_Sees.R handle_658 o0_659 o1_660 o1_661 o1_662 o1_663 o1_664 o1_665 o1_666 o1_667 o2_668 o3_669 r, caps_Table_Sees.S1 handle_658 o0_659 o1_660 o1_661 o1_662 o1_663 o1_664 o1_665 o1_666 o1_667 o2_668 o3_669 r) = (res, st)) : RunE Try.prog ⟨4, caps_Table_Sees.rs, res, st⟩ (.st caps_Table_Sees.b .done) (argE 0 (caps_Table_Sees.A handle_658 o0_659 o1_660 o1_661 o1_662 o1_663 o1_664 o1_665 o1_666 o1_667 o2_668 o3_669)) (caps_Table_Sees.S0 handle_658 o0_659 o1_660 o1_661 o1_662 o1_663 o1_664 o1_665 o1_666 o1_667 o2_668 o3_669) := by
  unfold caps_Table_Sees.f at h
  obtain ⟨t_701, ht_701, h⟩ := bind_some h
  rcases ite_some h with ⟨c_702, h⟩ | ⟨c_702, h⟩
  · obtain rfl := Option.some.inj h
    exact pathE 508 [.call [0, 3] (caps_Table_Find.R handle_658 o0_659 o3_669 t_701) (caps_Table_Find.S1 handle_658 o0_659 o3_669 t_701), .b true, .i 7, .fzc 4 5 [], .fzc 4 8 [], .fzc 4 9 [], .fzc 4 10 [], .fzc 4 12 [], .fin [0, 1, 2, 3]] (ai (caps_Table_Find.ok handle_658 o0_659 o3_669 t_701 ht_701) <| ai (bne_iff_ne.2 c_702) <| ai (Eq.refl ([.p (.int .i64 0), .p (.int .i64 0), .p (.int .i64 0), .p (.int .i64 0), .p (.str []), .nil 2, .p (.str []), .p (.int .i64 0), .nil 4, .nil 3, .nil 1, .p (.str []), .nil 2] : List Dd)) <| ai (Eq.refl ([.p (.int .i64 0), .p (.int .i64 0), .p (.int .i64 0), .p (.int .i64 0), .p (.str []), .p (.sl 2 (([] : List api_Run).map en_api_Run)), .p (.str []), .p (.int .i64 0), .nil 4, .nil 3, .nil 1, .p (.str []), .nil 2] : List Dd)) <| ai (Eq.refl ([.p (.int .i64 0), .p (.int .i64 0), .p (.int .i64 0), .p (.int .i64 0), .p (.str []), .p (.sl 2 (([] : List api_Run).map en_api_Run)), .p (.str []), .p (.int .i64 0), .p (.sl 4 (([] : List api_Attr).map en_api_Attr)), .nil 3, .nil 1, .p (.str []), .nil 2] : List Dd)) <| ai (Eq.refl ([.p (.int .i64 0), .p (.int .i64 0), .p (.int .i64 0), .p (.int .i64 0), .p (.str []), .p (.sl 2 (([] : List api_Run).map en_api_Run)), .p (.str []), .p (.int .i64 0), .p (.sl 4 (([] : List api_Attr).map en_api_Attr)), .p (.sl 3 (([] : List api_Hook).map en_api_Hook)), .nil 1, .p (.str []), .nil 2] : List Dd)) <| ai (Eq.refl ([.p (.int .i64 0), .p (.int .i64 0), .p (.int .i64 0), .p (.int .i64 0), .p (.str []), .p (.sl 2 (([] : List api_Run).map en_api_Run)), .p (.str []), .p (.int .i64 0), .p (.sl 4 (([] : List api_Attr).map en_api_Attr)), .p (.sl 3 (([] : List api_Hook).map en_api_Hook)), .p (.sl 1 (([] : List Int).map en_i64)), .p (.str []), .nil 2] : List Dd)) <| hr) (by kernel_rfl)
  · obtain ⟨t_703, ht_703, h⟩ := bind_some h
    rcases ite_some h with ⟨c_704, h⟩ | ⟨c_704, h⟩
    · obtain rfl := Option.some.inj h
      exact pathE 604 [.call [0, 3] (caps_Table_Find.R handle_658 o0_659 o3_669 t_701) (caps_Table_Find.S1 handle_658 o0_659 o3_669 t_701), .b false, .call [1, 2] (arena_Arena_Get.R t_701.1 o1_660 o1_661 o1_662 o1_663 o1_664 o1_665 o1_666 o1_667 o2_668 t_703) (arena_Arena_Get.S1 t_701.1 o1_660 o1_661 o1_662 o1_663 o1_664 o1_665 o1_666 o1_667 o2_668 t_703), .b true, .b true, .b true, .b true, .b true, .b true, .b true, .i 6, .fzc 4 5 [], .fzc 4 8 [], .fzc 4 9 [], .fzc 4 10 [], .fzc 4 12 [], .fin [0, 1, 2, 3]] (ai (caps_Table_Find.ok handle_658 o0_659 o3_669 t_701 ht_701) <| ai (bne_false c_702) <| ai (arena_Arena_Get.ok k t_701.1 o1_660 o1_661 o1_662 o1_663 o1_664 o1_665 o1_666 o1_667 o2_668 t_703 ht_703) <| ai c_704 <| ai rT <| ai rT <| ai rT <| ai rT <| ai rT <| ai rT <| ai (Eq.refl ([.p (.int .i64 0), .p (.int .i64 0), .p (.int .i64 0), .p (.int .i64 0), .p (.str []), .nil 2, .p (.str []), .p (.int .i64 0), .nil 4, .nil 3, .nil 1, .p (.str []), .nil 2] : List Dd)) <| ai (Eq.refl ([.p (.int .i64 0), .p (.int .i64 0), .p (.int .i64 0), .p (.int .i64 0), .p (.str []), .p (.sl 2 (([] : List api_Run).map en_api_Run)), .p (.str []), .p (.int .i64 0), .nil 4, .nil 3, .nil 1, .p (.str []), .nil 2] : List Dd)) <| ai (Eq.refl ([.p (.int .i64 0), .p (.int .i64 0), .p (.int .i64 0), .p (.int .i64 0), .p (.str []), .p (.sl 2 (([] : List api_Run).map en_api_Run)), .p (.str []), .p (.int .i64 0), .p (.sl 4 (([] : List api_Attr).map en_api_Attr)), .nil 3, .nil 1, .p (.str []), .nil 2] : List Dd)) <| ai (Eq.refl ([.p (.int .i64 0), .p (.int .i64 0), .p (.int .i64 0), .p (.int .i64 0), .p (.str []), .p (.sl 2 (([] : List api_Run).map en_api_Run)), .p (.str []), .p (.int .i64 0), .p (.sl 4 (([] : List api_Attr).map en_api_Attr)), .p (.sl 3 (([] : List api_Hook).map en_api_Hook)), .nil 1, .p (.str []), .nil 2] : List Dd)) <| ai (Eq.refl ([.p (.int .i64 0), .p (.int .i64 0), .p (.int .i64 0), .p (.int .i64 0), .p (.str []), .p (.sl 2 (([] : List api_Run).map en_api_Run)), .p (.str []), .p (.int .i64 0), .p (.sl 4 (([] : List api_Attr).map en_api_Attr)), .p (.sl 3 (([] : List api_Hook).map en_api_Hook)), .p (.sl 1 (([] : List Int).map en_i64)), .p (.str []), .nil 2] : List Dd)) <| hr) (by kernel_rfl)
    · obtain ⟨t_705, ht_705, h⟩ := bind_some h
      obtain ⟨t_706, ht_706, h⟩ := bind_some h
      refine pathE 580 [.call [0, 3] (caps_Table_Find.R handle_658 o0_659 o3_669 t_701) (caps_Table_Find.S1 handle_658 o0_659 o3_669 t_701), .b false, .call [1, 2] (arena_Arena_Get.R t_701.1 o1_660 o1_661 o1_662 o1_663 o1_664 o1_665 o1_666 o1_667 o2_668 t_703) (arena_Arena_Get.S1 t_701.1 o1_660 o1_661 o1_662 o1_663 o1_664 o1_665 o1_666 o1_667 o2_668 t_703), .b false, .b false, .b false, .b false, .call [0, 3] (caps_Table_Mount.R o0_659 o3_669 t_705) (caps_Table_Mount.S1 o0_659 o3_669 t_705), .b false, .call [1, 2] (dom_Inside.R t_701.1 t_705 o1_660 o1_661 o1_662 o1_663 o1_664 o1_665 o1_666 o1_667 o2_668 t_706) (dom_Inside.S1 t_701.1 t_705 o1_660 o1_661 o1_662 o1_663 o1_664 o1_665 o1_666 o1_667 o2_668 t_706), .b false, .i 3, .gc [0, 1, 2, 3, 4, 7, 5, 6], .keep [0, 6, 8, 10, 28], .stop] (ai (caps_Table_Find.ok handle_658 o0_659 o3_669 t_701 ht_701) <| ai (bne_false c_702) <| ai (arena_Arena_Get.ok k t_701.1 o1_660 o1_661 o1_662 o1_663 o1_664 o1_665 o1_666 o1_667 o2_668 t_703 ht_703) <| ai (bool_false c_704) <| ai rF <| ai rF <| ai rF <| ai (caps_Table_Mount.ok o0_659 o3_669 t_705 ht_705) <| ai rF <| ai (dom_Inside.ok k t_701.1 t_705 o1_660 o1_661 o1_662 o1_663 o1_664 o1_665 o1_666 o1_667 o2_668 t_706 ht_706) <| ai rF <| (?_ : RunE Try.prog ⟨4, caps_Table_Sees.rs, res, st⟩ (koOf caps_Table_Sees.b .done [1, 1, 1, 1, 0, 0, 1]) [(0, .one (.ptr 0 0)), (6, .one (.ptr 4 0)), (8, .one (.p (.int .i64 t_701.1))), (10, .one (.ptr 5 0)), (28, .one (.p (.bool (!t_706))))] [.box [.p (.int .i64 o0_659), .own 3 1 0 o3_669.length], .box [.mp 2, .p (.int .i64 o1_660), .p (.int .i64 o1_661), .p (.int .i64 o1_662), .p (.int .i64 o1_663), .p (.int .i64 o1_664), .p (.int .i64 o1_665), .p (.int .i64 o1_666), .p (.int .i64 o1_667)], .map (enE en_arena_Node o2_668), .row 3 1 o3_669.length (o3_669.map en_i64), .box [.p (.int .i64 0), .p (.int .i64 0), .p (.int .i64 0), .p (.int .i64 0), .p (.str []), .nil 2, .p (.str []), .p (.int .i64 0), .nil 4, .nil 3, .nil 1, .p (.str []), .nil 2], .box [.p (.int .i64 t_703.1.Id), .p (.int .i64 t_703.1.Owner), .p (.int .i64 t_703.1.Parent), .p (.int .i64 t_703.1.Kind), .p (.str t_703.1.Tag.Text), .p (.sl 2 (t_703.1.Tag.Runs.map en_api_Run)), .p (.str t_703.1.Key), .p (.int .i64 t_703.1.Slot), .p (.sl 4 (t_703.1.Attrs.map en_api_Attr)), .own 6 3 0 t_703.1.Hooks.length, .own 7 1 0 t_703.1.Kids.length, .p (.str t_703.1.Text.Text), .p (.sl 2 (t_703.1.Text.Runs.map en_api_Run))], .row 69 3 t_703.1.Hooks.length (t_703.1.Hooks.map en_api_Hook), .row 3 1 t_703.1.Kids.length (t_703.1.Kids.map en_i64)])) (by kernel_rfl)
      rcases ite_some h with ⟨c_707, h⟩ | ⟨c_707, h⟩
      · obtain rfl := Option.some.inj h
        exact pathE 496 [.b true, .i 6, .fzc 4 5 [], .fzc 4 8 [], .fzc 4 9 [], .fzc 4 10 [], .fzc 4 12 [], .fin [0, 1, 2, 3]] (ai c_707 <| ai (Eq.refl ([.p (.int .i64 0), .p (.int .i64 0), .p (.int .i64 0), .p (.int .i64 0), .p (.str []), .nil 2, .p (.str []), .p (.int .i64 0), .nil 4, .nil 3, .nil 1, .p (.str []), .nil 2] : List Dd)) <| ai (Eq.refl ([.p (.int .i64 0), .p (.int .i64 0), .p (.int .i64 0), .p (.int .i64 0), .p (.str []), .p (.sl 2 (([] : List api_Run).map en_api_Run)), .p (.str []), .p (.int .i64 0), .nil 4, .nil 3, .nil 1, .p (.str []), .nil 2] : List Dd)) <| ai (Eq.refl ([.p (.int .i64 0), .p (.int .i64 0), .p (.int .i64 0), .p (.int .i64 0), .p (.str []), .p (.sl 2 (([] : List api_Run).map en_api_Run)), .p (.str []), .p (.int .i64 0), .p (.sl 4 (([] : List api_Attr).map en_api_Attr)), .nil 3, .nil 1, .p (.str []), .nil 2] : List Dd)) <| ai (Eq.refl ([.p (.int .i64 0), .p (.int .i64 0), .p (.int .i64 0), .p (.int .i64 0), .p (.str []), .p (.sl 2 (([] : List api_Run).map en_api_Run)), .p (.str []), .p (.int .i64 0), .p (.sl 4 (([] : List api_Attr).map en_api_Attr)), .p (.sl 3 (([] : List api_Hook).map en_api_Hook)), .nil 1, .p (.str []), .nil 2] : List Dd)) <| ai (Eq.refl ([.p (.int .i64 0), .p (.int .i64 0), .p (.int .i64 0), .p (.int .i64 0), .p (.str []), .p (.sl 2 (([] : List api_Run).map en_api_Run)), .p (.str []), .p (.int .i64 0), .p (.sl 4 (([] : List api_Attr).map en_api_Attr)), .p (.sl 3 (([] : List api_Hook).map en_api_Hook)), .p (.sl 1 (([] : List Int).map en_i64)), .p (.str []), .nil 2] : List Dd)) <| hr) (by kernel_rfl)
      · obtain ⟨t_708, ht_708, h⟩ := bind_some h
        rcases ite_some h with ⟨c_709, h⟩ | ⟨c_709, h⟩
        · rcases ite_some h with ⟨c_710, h⟩ | ⟨c_710, h⟩
          · obtain rfl := Option.some.inj h
            exact pathE 520 [.b false, .dr 0 [[], [], [.call [0, 3] (caps_Table_Mount.R o0_659 o3_669 t_708) (caps_Table_Mount.S1 o0_659 o3_669 t_708)], [], [.lt true], [.b true], [.b true], [.b true], [.b true], [.b true], [.b true], [.b true], [], []] [.one (.p (.int .i64 t_701.1)), .one (.ptr 0 0), .one (.p (.int .i64 t_708)), .one (.p (.bool (t_701.1 != t_708))), .one (.p (.bool true)), .one (.ptr 5 1), .one (.p (.int .i64 t_703.1.Owner)), .one (.ptr 0 0), .one (.ptr 0 0), .one (.ptr 0 0), .one (.p (.int .i64 o0_659)), .one (.p (.bool (t_703.1.Owner != o0_659))), .one (.p (.bool (t_703.1.Owner != o0_659))), .one (.p (.bool (t_703.1.Owner != o0_659)))] [[], [], [], [], [], [], [], [], [], [], [], [], [], []], .b true, .i 6, .fzc 4 5 [], .fzc 4 8 [], .fzc 4 9 [], .fzc 4 10 [], .fzc 4 12 [], .fin [0, 1, 2, 3]] (ai (bool_false c_707) <| ai (caps_Table_Mount.ok o0_659 o3_669 t_708 ht_708) <| ai (bne_iff_ne.2 c_709) <| ai rT <| ai rT <| ai rT <| ai rT <| ai rT <| ai rT <| ai rT <| ai (drE caps_Table_Sees.b [1, 1, 1, 1, 0, 0, 1, 1, 0] [.one (.p (.int .i64 t_701.1)), .one (.ptr 0 0), .one (.p (.int .i64 t_708)), .one (.p (.bool (t_701.1 != t_708))), .one (.p (.bool true)), .one (.ptr 5 1), .one (.p (.int .i64 t_703.1.Owner)), .one (.ptr 0 0), .one (.ptr 0 0), .one (.ptr 0 0), .one (.p (.int .i64 o0_659)), .one (.p (.bool (t_703.1.Owner != o0_659))), .one (.p (.bool (t_703.1.Owner != o0_659))), .one (.p (.bool (t_703.1.Owner != o0_659)))] [[], [], [], [], [], [], [], [], [], [], [], [], [], []] ([.box [.p (.int .i64 o0_659), .own 3 1 0 o3_669.length], .box [.mp 2, .p (.int .i64 o1_660), .p (.int .i64 o1_661), .p (.int .i64 o1_662), .p (.int .i64 o1_663), .p (.int .i64 o1_664), .p (.int .i64 o1_665), .p (.int .i64 o1_666), .p (.int .i64 o1_667)], .map (enE en_arena_Node o2_668), .row 3 1 o3_669.length (o3_669.map en_i64), .box [.p (.int .i64 0), .p (.int .i64 0), .p (.int .i64 0), .p (.int .i64 0), .p (.str []), .nil 2, .p (.str []), .p (.int .i64 0), .nil 4, .nil 3, .nil 1, .p (.str []), .nil 2], .box [.p (.int .i64 t_703.1.Id), .p (.int .i64 t_703.1.Owner), .p (.int .i64 t_703.1.Parent), .p (.int .i64 t_703.1.Kind), .p (.str t_703.1.Tag.Text), .p (.sl 2 (t_703.1.Tag.Runs.map en_api_Run)), .p (.str t_703.1.Key), .p (.int .i64 t_703.1.Slot), .p (.sl 4 (t_703.1.Attrs.map en_api_Attr)), .own 6 3 0 t_703.1.Hooks.length, .own 7 1 0 t_703.1.Kids.length, .p (.str t_703.1.Text.Text), .p (.sl 2 (t_703.1.Text.Runs.map en_api_Run))], .row 69 3 t_703.1.Hooks.length (t_703.1.Hooks.map en_api_Hook), .row 3 1 t_703.1.Kids.length (t_703.1.Kids.map en_i64)] ++ List.replicate 0 .res)) <| ai (bne_iff_ne.2 c_710) <| ai (Eq.refl ([.p (.int .i64 0), .p (.int .i64 0), .p (.int .i64 0), .p (.int .i64 0), .p (.str []), .nil 2, .p (.str []), .p (.int .i64 0), .nil 4, .nil 3, .nil 1, .p (.str []), .nil 2] : List Dd)) <| ai (Eq.refl ([.p (.int .i64 0), .p (.int .i64 0), .p (.int .i64 0), .p (.int .i64 0), .p (.str []), .p (.sl 2 (([] : List api_Run).map en_api_Run)), .p (.str []), .p (.int .i64 0), .nil 4, .nil 3, .nil 1, .p (.str []), .nil 2] : List Dd)) <| ai (Eq.refl ([.p (.int .i64 0), .p (.int .i64 0), .p (.int .i64 0), .p (.int .i64 0), .p (.str []), .p (.sl 2 (([] : List api_Run).map en_api_Run)), .p (.str []), .p (.int .i64 0), .p (.sl 4 (([] : List api_Attr).map en_api_Attr)), .nil 3, .nil 1, .p (.str []), .nil 2] : List Dd)) <| ai (Eq.refl ([.p (.int .i64 0), .p (.int .i64 0), .p (.int .i64 0), .p (.int .i64 0), .p (.str []), .p (.sl 2 (([] : List api_Run).map en_api_Run)), .p (.str []), .p (.int .i64 0), .p (.sl 4 (([] : List api_Attr).map en_api_Attr)), .p (.sl 3 (([] : List api_Hook).map en_api_Hook)), .nil 1, .p (.str []), .nil 2] : List Dd)) <| ai (Eq.refl ([.p (.int .i64 0), .p (.int .i64 0), .p (.int .i64 0), .p (.int .i64 0), .p (.str []), .p (.sl 2 (([] : List api_Run).map en_api_Run)), .p (.str []), .p (.int .i64 0), .p (.sl 4 (([] : List api_Attr).map en_api_Attr)), .p (.sl 3 (([] : List api_Hook).map en_api_Hook)), .p (.sl 1 (([] : List Int).map en_i64)), .p (.str []), .nil 2] : List Dd)) <| hr) (by kernel_rfl)
          · obtain rfl := Option.some.inj h
            exact pathE 508 [.b false, .dr 0 [[], [], [.call [0, 3] (caps_Table_Mount.R o0_659 o3_669 t_708) (caps_Table_Mount.S1 o0_659 o3_669 t_708)], [], [.lt true], [.b true], [.b true], [.b true], [.b true], [.b true], [.b true], [.b true], [], []] [.one (.p (.int .i64 t_701.1)), .one (.ptr 0 0), .one (.p (.int .i64 t_708)), .one (.p (.bool (t_701.1 != t_708))), .one (.p (.bool true)), .one (.ptr 5 1), .one (.p (.int .i64 t_703.1.Owner)), .one (.ptr 0 0), .one (.ptr 0 0), .one (.ptr 0 0), .one (.p (.int .i64 o0_659)), .one (.p (.bool (t_703.1.Owner != o0_659))), .one (.p (.bool (t_703.1.Owner != o0_659))), .one (.p (.bool (t_703.1.Owner != o0_659)))] [[], [], [], [], [], [], [], [], [], [], [], [], [], []], .b false, .i 8, .fzc 4 9 [], .z (t_703.1.Hooks.map en_api_Hook), .fzc 4 10 [], .z (t_703.1.Kids.map en_i64), .fin [0, 1, 2, 3]] (ai (bool_false c_707) <| ai (caps_Table_Mount.ok o0_659 o3_669 t_708 ht_708) <| ai (bne_iff_ne.2 c_709) <| ai rT <| ai rT <| ai rT <| ai rT <| ai rT <| ai rT <| ai rT <| ai (drE caps_Table_Sees.b [1, 1, 1, 1, 0, 0, 1, 1, 0] [.one (.p (.int .i64 t_701.1)), .one (.ptr 0 0), .one (.p (.int .i64 t_708)), .one (.p (.bool (t_701.1 != t_708))), .one (.p (.bool true)), .one (.ptr 5 1), .one (.p (.int .i64 t_703.1.Owner)), .one (.ptr 0 0), .one (.ptr 0 0), .one (.ptr 0 0), .one (.p (.int .i64 o0_659)), .one (.p (.bool (t_703.1.Owner != o0_659))), .one (.p (.bool (t_703.1.Owner != o0_659))), .one (.p (.bool (t_703.1.Owner != o0_659)))] [[], [], [], [], [], [], [], [], [], [], [], [], [], []] ([.box [.p (.int .i64 o0_659), .own 3 1 0 o3_669.length], .box [.mp 2, .p (.int .i64 o1_660), .p (.int .i64 o1_661), .p (.int .i64 o1_662), .p (.int .i64 o1_663), .p (.int .i64 o1_664), .p (.int .i64 o1_665), .p (.int .i64 o1_666), .p (.int .i64 o1_667)], .map (enE en_arena_Node o2_668), .row 3 1 o3_669.length (o3_669.map en_i64), .box [.p (.int .i64 0), .p (.int .i64 0), .p (.int .i64 0), .p (.int .i64 0), .p (.str []), .nil 2, .p (.str []), .p (.int .i64 0), .nil 4, .nil 3, .nil 1, .p (.str []), .nil 2], .box [.p (.int .i64 t_703.1.Id), .p (.int .i64 t_703.1.Owner), .p (.int .i64 t_703.1.Parent), .p (.int .i64 t_703.1.Kind), .p (.str t_703.1.Tag.Text), .p (.sl 2 (t_703.1.Tag.Runs.map en_api_Run)), .p (.str t_703.1.Key), .p (.int .i64 t_703.1.Slot), .p (.sl 4 (t_703.1.Attrs.map en_api_Attr)), .own 6 3 0 t_703.1.Hooks.length, .own 7 1 0 t_703.1.Kids.length, .p (.str t_703.1.Text.Text), .p (.sl 2 (t_703.1.Text.Runs.map en_api_Run))], .row 69 3 t_703.1.Hooks.length (t_703.1.Hooks.map en_api_Hook), .row 3 1 t_703.1.Kids.length (t_703.1.Kids.map en_i64)] ++ List.replicate 0 .res)) <| ai (bne_false c_710) <| ai (set_obE en_api_Hook (l := t_703.1.Hooks) (m := t_703.1.Hooks.length) rfl) <| ai (Eq.refl ([.p (.int .i64 t_703.1.Id), .p (.int .i64 t_703.1.Owner), .p (.int .i64 t_703.1.Parent), .p (.int .i64 t_703.1.Kind), .p (.str t_703.1.Tag.Text), .p (.sl 2 (t_703.1.Tag.Runs.map en_api_Run)), .p (.str t_703.1.Key), .p (.int .i64 t_703.1.Slot), .p (.sl 4 (t_703.1.Attrs.map en_api_Attr)), .own 6 3 0 t_703.1.Hooks.length, .own 7 1 0 t_703.1.Kids.length, .p (.str t_703.1.Text.Text), .p (.sl 2 (t_703.1.Text.Runs.map en_api_Run))] : List Dd)) <| ai (set_obE en_i64 (l := t_703.1.Kids) (m := t_703.1.Kids.length) rfl) <| ai (Eq.refl ([.p (.int .i64 t_703.1.Id), .p (.int .i64 t_703.1.Owner), .p (.int .i64 t_703.1.Parent), .p (.int .i64 t_703.1.Kind), .p (.str t_703.1.Tag.Text), .p (.sl 2 (t_703.1.Tag.Runs.map en_api_Run)), .p (.str t_703.1.Key), .p (.int .i64 t_703.1.Slot), .p (.sl 4 (t_703.1.Attrs.map en_api_Attr)), .p (.sl 3 (t_703.1.Hooks.map en_api_Hook)), .own 7 1 0 t_703.1.Kids.length, .p (.str t_703.1.Text.Text), .p (.sl 2 (t_703.1.Text.Runs.map en_api_Run))] : List Dd)) <| hr) (by kernel_rfl)
        · obtain rfl := Option.some.inj h
          exact pathE 508 [.b false, .dr 0 [[], [], [.call [0, 3] (caps_Table_Mount.R o0_659 o3_669 t_708) (caps_Table_Mount.S1 o0_659 o3_669 t_708)], [], [.lt false], [.b false], [.b false], [.b false], [.b false], [.b false], [.b false], [.b false], [], []] [.one (.p (.int .i64 t_701.1)), .one (.ptr 0 0), .one (.p (.int .i64 t_708)), .one (.p (.bool (t_701.1 != t_708))), .one (.p (.bool false)), .tup [], .tup [], .tup [], .tup [], .tup [], .tup [], .tup [], .one (.p (.bool false)), .one (.p (.bool false))] [[], [], [], [], [], [], [], [], [], [], [], [], [], []], .b false, .i 8, .fzc 4 9 [], .z (t_703.1.Hooks.map en_api_Hook), .fzc 4 10 [], .z (t_703.1.Kids.map en_i64), .fin [0, 1, 2, 3]] (ai (bool_false c_707) <| ai (caps_Table_Mount.ok o0_659 o3_669 t_708 ht_708) <| ai (bne_false c_709) <| ai rF <| ai rF <| ai rF <| ai rF <| ai rF <| ai rF <| ai rF <| ai (drE caps_Table_Sees.b [1, 1, 1, 1, 0, 0, 1, 1, 0] [.one (.p (.int .i64 t_701.1)), .one (.ptr 0 0), .one (.p (.int .i64 t_708)), .one (.p (.bool (t_701.1 != t_708))), .one (.p (.bool false)), .tup [], .tup [], .tup [], .tup [], .tup [], .tup [], .tup [], .one (.p (.bool false)), .one (.p (.bool false))] [[], [], [], [], [], [], [], [], [], [], [], [], [], []] ([.box [.p (.int .i64 o0_659), .own 3 1 0 o3_669.length], .box [.mp 2, .p (.int .i64 o1_660), .p (.int .i64 o1_661), .p (.int .i64 o1_662), .p (.int .i64 o1_663), .p (.int .i64 o1_664), .p (.int .i64 o1_665), .p (.int .i64 o1_666), .p (.int .i64 o1_667)], .map (enE en_arena_Node o2_668), .row 3 1 o3_669.length (o3_669.map en_i64), .box [.p (.int .i64 0), .p (.int .i64 0), .p (.int .i64 0), .p (.int .i64 0), .p (.str []), .nil 2, .p (.str []), .p (.int .i64 0), .nil 4, .nil 3, .nil 1, .p (.str []), .nil 2], .box [.p (.int .i64 t_703.1.Id), .p (.int .i64 t_703.1.Owner), .p (.int .i64 t_703.1.Parent), .p (.int .i64 t_703.1.Kind), .p (.str t_703.1.Tag.Text), .p (.sl 2 (t_703.1.Tag.Runs.map en_api_Run)), .p (.str t_703.1.Key), .p (.int .i64 t_703.1.Slot), .p (.sl 4 (t_703.1.Attrs.map en_api_Attr)), .own 6 3 0 t_703.1.Hooks.length, .own 7 1 0 t_703.1.Kids.length, .p (.str t_703.1.Text.Text), .p (.sl 2 (t_703.1.Text.Runs.map en_api_Run))], .row 69 3 t_703.1.Hooks.length (t_703.1.Hooks.map en_api_Hook), .row 3 1 t_703.1.Kids.length (t_703.1.Kids.map en_i64)] ++ List.replicate 0 .res)) <| ai rF <| ai (set_obE en_api_Hook (l := t_703.1.Hooks) (m := t_703.1.Hooks.length) rfl) <| ai (Eq.refl ([.p (.int .i64 t_703.1.Id), .p (.int .i64 t_703.1.Owner), .p (.int .i64 t_703.1.Parent), .p (.int .i64 t_703.1.Kind), .p (.str t_703.1.Tag.Text), .p (.sl 2 (t_703.1.Tag.Runs.map en_api_Run)), .p (.str t_703.1.Key), .p (.int .i64 t_703.1.Slot), .p (.sl 4 (t_703.1.Attrs.map en_api_Attr)), .own 6 3 0 t_703.1.Hooks.length, .own 7 1 0 t_703.1.Kids.length, .p (.str t_703.1.Text.Text), .p (.sl 2 (t_703.1.Text.Runs.map en_api_Run))] : List Dd)) <| ai (set_obE en_i64 (l := t_703.1.Kids) (m := t_703.1.Kids.length) rfl) <| ai (Eq.refl ([.p (.int .i64 t_703.1.Id), .p (.int .i64 t_703.1.Owner), .p (.int .i64 t_703.1.Parent), .p (.int .i64 t_703.1.Kind), .p (.str t_703.1.Tag.Text), .p (.sl 2 (t_703.1.Tag.Runs.map en_api_Run)), .p (.str t_703.1.Key), .p (.int .i64 t_703.1.Slot), .p (.sl 4 (t_703.1.Attrs.map en_api_Attr)), .p (.sl 3 (t_703.1.Hooks.map en_api_Hook)), .own 7 1 0 t_703.1.Kids.length, .p (.str t_703.1.Text.Text), .p (.sl 2 (t_703.1.Text.Runs.map en_api_Run))] : List Dd)) <| hr) (by kernel_rfl)
theorem caps_Table_Sees.ok (k : Nat) (handle_658 : Int) (o0_659 : Int) (o1_660 : Int) (o1_661 : Int) (o1_662 : Int) (o1_663 : Int) (o1_664 : Int) (o1_665 : Int) (o1_666 : Int) (o1_667 : Int) (o2_668 : (List (Int × arena_Node))) (o3_669 : (List Int)) (r : arena_Node × Int) (h : caps_Table_Sees.f k handle_658 o0_659 o1_660 o1_661 o1_662 o1_663 o1_664 o1_665 o1_666 o1_667 o2_668 o3_669 = some r) : OkS Try.prog 66 (caps_Table_Sees.A handle_658 o0_659 o1_660 o1_661 o1_662 o1_663 o1_664 o1_665 o1_666 o1_667 o2_668 o3_669) (caps_Table_Sees.S0 handle_658 o0_659 o1_660 o1_661 o1_662 o1_663 o1_664 o1_665 o1_666 o1_667 o2_668 o3_669) (caps_Table_Sees.R handle_658 o0_659 o1_660 o1_661 o1_662 o1_663 o1_664 o1_665 o1_666 o1_667 o2_668 o3_669 r) (caps_Table_Sees.S1 handle_658 o0_659 o1_660 o1_661 o1_662 o1_663 o1_664 o1_665 o1_666 o1_667 o2_668 o3_669 r) := okE Try.func66 m66 rfl rfl rfl (caps_Table_Sees.run k handle_658 o0_659 o1_660 o1_661 o1_662 o1_663 o1_664 o1_665 o1_666 o1_667 o2_668 o3_669 r h _ _ rfl)
-- 67 (*glazier/caps.Table).Owns
def d67 : FnDef := ⟨30, [.cell 6 13 true, .tmp 7],
  (.seq
  (.ops [
    ⟨some 6, .alloc [.p (.int .i64 0), .p (.int .i64 0), .p (.int .i64 0), .p (.int .i64 0), .p (.str []), .nil 2, .p (.str []), .p (.int .i64 0), .nil 4, .nil 3, .nil 1, .p (.str []), .nil 2], none⟩,
    ⟨some 7, .mv (.c (.one (.p (.int .i64 0)))), none⟩] [0, 1, 2, 6])
  (.seq
  (.ops [
    ⟨some 11, .mv (.t 0), none⟩,
    ⟨some 12, .mv (.t 1), none⟩,
    ⟨some 13, .mv (.t 2), none⟩,
    ⟨some 14, .call 66 [(.t 11), (.t 12), (.t 13)], none⟩,
    ⟨some 10, .mv (.t 14), none⟩,
    ⟨some 15, .ext (.t 10) 0, none⟩,
    ⟨some 16, .ext (.t 10) 1, none⟩,
    ⟨some 8, .alloc [.p (.int .i64 0), .p (.int .i64 0), .p (.int .i64 0), .p (.int .i64 0), .p (.str []), .nil 2, .p (.str []), .p (.int .i64 0), .nil 4, .nil 3, .nil 1, .p (.str []), .nil 2], none⟩,
    ⟨none, .store 13 (.t 8) (.t 15), none⟩,
    ⟨some 9, .mv (.t 16), none⟩] [0, 6, 8, 9])
  (.seq
  (.block 0
    (.seq
    (.ops [
      ⟨some 18, .mv (.t 9), none⟩,
      ⟨some 19, .bin 0 .neq (.t 18) (.c (.one (.p (.int .i64 0)))), none⟩,
      ⟨some 17, .mv (.t 19), none⟩] [0, 6, 8, 9, 17])
    (.cond (.t 17)
      (.seq
      (.ops [
        ⟨some 20, .build [.p (.int .i64 0), .p (.int .i64 0), .p (.int .i64 0), .p (.int .i64 0), .p (.str []), .nil 2, .p (.str []), .p (.int .i64 0), .nil 4, .nil 3, .nil 1, .p (.str []), .nil 2] [], none⟩,
        ⟨some 21, .mv (.t 9), none⟩,
        ⟨none, .store 13 (.t 6) (.t 20), none⟩,
        ⟨some 7, .mv (.t 21), none⟩] [6, 7])
      .ret)
      (.seq
      (.drawn [
        ⟨⟨some 23, .faddr 0 (.t 8), none⟩, [], false⟩,
        ⟨⟨some 24, .load 1 false (.t 23), none⟩, [0], false⟩,
        ⟨⟨some 25, .mv (.t 0), none⟩, [], false⟩,
        ⟨⟨some 26, .call 124 [(.t 25)], none⟩, [2], true⟩,
        ⟨⟨some 27, .bin 0 .eql (.t 24) (.t 26), none⟩, [0, 1, 2, 3], false⟩,
        ⟨⟨some 22, .mv (.t 27), none⟩, [0, 1, 2, 3, 4], false⟩] [[], [3]] [6, 8, 22])
      (.cond (.t 22)
        (.seq
        (.ops [
          ⟨some 28, .build [.p (.int .i64 0), .p (.int .i64 0), .p (.int .i64 0), .p (.int .i64 0), .p (.str []), .nil 2, .p (.str []), .p (.int .i64 0), .nil 4, .nil 3, .nil 1, .p (.str []), .nil 2] [], none⟩,
          ⟨none, .store 13 (.t 6) (.t 28), none⟩,
          ⟨some 7, .mv (.c (.one (.p (.int .i64 20)))), none⟩] [6, 7])
        .ret)
        .skip)))))
  (.seq
  (.ops [
    ⟨some 29, .load 13 true (.t 8), none⟩,
    ⟨none, .store 13 (.t 6) (.t 29), none⟩,
    ⟨some 7, .mv (.c (.one (.p (.int .i64 0)))), none⟩] [6, 7])
  .ret))))⟩
theorem m67 : mFn Try.prog d67 Try.f67 = true := by kernel_rfl
def caps_Table_Owns.A (handle_712 : Int) (o0_713 : Int) (o1_714 : Int) (o1_715 : Int) (o1_716 : Int) (o1_717 : Int) (o1_718 : Int) (o1_719 : Int) (o1_720 : Int) (o1_721 : Int) (o2_722 : (List (Int × arena_Node))) (o3_723 : (List Int)) : List Vv := [.one (.ptr 0 0), .one (.ptr 1 0), .one (.p (.int .i64 handle_712))]
def caps_Table_Owns.S0 (handle_712 : Int) (o0_713 : Int) (o1_714 : Int) (o1_715 : Int) (o1_716 : Int) (o1_717 : Int) (o1_718 : Int) (o1_719 : Int) (o1_720 : Int) (o1_721 : Int) (o2_722 : (List (Int × arena_Node))) (o3_723 : (List Int)) : Sto := [.box [.p (.int .i64 o0_713), .own 3 1 0 o3_723.length], .box [.mp 2, .p (.int .i64 o1_714), .p (.int .i64 o1_715), .p (.int .i64 o1_716), .p (.int .i64 o1_717), .p (.int .i64 o1_718), .p (.int .i64 o1_719), .p (.int .i64 o1_720), .p (.int .i64 o1_721)], .map (enE en_arena_Node o2_722), .row 3 1 o3_723.length (o3_723.map en_i64)]
def caps_Table_Owns.R (handle_712 : Int) (o0_713 : Int) (o1_714 : Int) (o1_715 : Int) (o1_716 : Int) (o1_717 : Int) (o1_718 : Int) (o1_719 : Int) (o1_720 : Int) (o1_721 : Int) (o2_722 : (List (Int × arena_Node))) (o3_723 : (List Int)) (r_0 : arena_Node × Int) : Vv := .tup [.agg [.p (.int .i64 r_0.1.Id), .p (.int .i64 r_0.1.Owner), .p (.int .i64 r_0.1.Parent), .p (.int .i64 r_0.1.Kind), .p (.str r_0.1.Tag.Text), .p (.sl 2 (r_0.1.Tag.Runs.map en_api_Run)), .p (.str r_0.1.Key), .p (.int .i64 r_0.1.Slot), .p (.sl 4 (r_0.1.Attrs.map en_api_Attr)), .p (.sl 3 (r_0.1.Hooks.map en_api_Hook)), .p (.sl 1 (r_0.1.Kids.map en_i64)), .p (.str r_0.1.Text.Text), .p (.sl 2 (r_0.1.Text.Runs.map en_api_Run))], .one (.p (.int .i64 r_0.2))]
def caps_Table_Owns.S1 (handle_712 : Int) (o0_713 : Int) (o1_714 : Int) (o1_715 : Int) (o1_716 : Int) (o1_717 : Int) (o1_718 : Int) (o1_719 : Int) (o1_720 : Int) (o1_721 : Int) (o2_722 : (List (Int × arena_Node))) (o3_723 : (List Int)) (r_0 : arena_Node × Int) : Sto := [.box [.p (.int .i64 o0_713), .own 3 1 0 o3_723.length], .box [.mp 2, .p (.int .i64 o1_714), .p (.int .i64 o1_715), .p (.int .i64 o1_716), .p (.int .i64 o1_717), .p (.int .i64 o1_718), .p (.int .i64 o1_719), .p (.int .i64 o1_720), .p (.int .i64 o1_721)], .map (enE en_arena_Node o2_722), .row 3 1 o3_723.length (o3_723.map en_i64)]
def caps_Table_Owns.rs : List Rv := d67.res
def caps_Table_Owns.b : Sx := d67.body
def caps_Table_Owns.f (k : Nat) (handle_712 : Int) (o0_713 : Int) (o1_714 : Int) (o1_715 : Int) (o1_716 : Int) (o1_717 : Int) (o1_718 : Int) (o1_719 : Int) (o1_720 : Int) (o1_721 : Int) (o2_722 : (List (Int × arena_Node))) (o3_723 : (List Int)) : Option (arena_Node × Int) := ((caps_Table_Sees.f k handle_712 o0_713 o1_714 o1_715 o1_716 o1_717 o1_718 o1_719 o1_720 o1_721 o2_722 o3_723).bind fun t_732 => (if t_732.2 ≠ 0 then (some ((arena_Node.mk 0 0 0 0 (api_Str.mk [] ([] : List api_Run)) [] 0 ([] : List api_Attr) ([] : List api_Hook) ([] : List Int) (api_Str.mk [] ([] : List api_Run))), t_732.2)) else ((caps_Table_Mount.f o0_713 o3_723).bind fun t_734 => (if t_732.1.Id = t_734 then (some ((arena_Node.mk 0 0 0 0 (api_Str.mk [] ([] : List api_Run)) [] 0 ([] : List api_Attr) ([] : List api_Hook) ([] : List Int) (api_Str.mk [] ([] : List api_Run))), 20)) else (some (t_732.1, 0))))))
theorem caps_Table_Owns.run (k : Nat) (handle_712 : Int) (o0_713 : Int) (o1_714 : Int) (o1_715 : Int) (o1_716 : Int) (o1_717 : Int) (o1_718 : Int) (o1_719 : Int) (o1_720 : Int) (o1_721 : Int) (o2_722 : (List (Int × arena_Node))) (o3_723 : (List Int)) (r : arena_Node × Int) (h : caps_Table_Owns.f k handle_712 o0_713 o1_714 o1_715 o1_716 o1_717 o1_718 o1_719 o1_720 o1_721 o2_722 o3_723 = some r) (res : Vv) (st : Sto) (hr : (caps_Table_Owns.R handle_712 o0_713 o1_714 o1_715 o1_716 o1_717 o1_718 o1_719 o1_720 o1_721 o2_722 o3_723 r, caps_Table_Owns.S1 handle_712 o0_713 o1_714 o1_715 o1_716 o1_717 o1_718 o1_719 o1_720 o1_721 o2_722 o3_723 r) = (res, st)) : RunE Try.prog ⟨4, caps_Table_Owns.rs, res, st⟩ (.st caps_Table_Owns.b .done) (argE 0 (caps_Table_Owns.A handle_712 o0_713 o1_714 o1_715 o1_716 o1_717 o1_718 o1_719 o1_720 o1_721 o2_722 o3_723)) (caps_Table_Owns.S0 handle_712 o0_713 o1_714 o1_715 o1_716 o1_717 o1_718 o1_719 o1_720 o1_721 o2_722 o3_723) := by
  unfold caps_Table_Owns.f at h
  obtain ⟨t_732, ht_732, h⟩ := bind_some h
  rcases ite_some h with ⟨c_733, h⟩ | ⟨c_733, h⟩
  · obtain rfl := Option.some.inj h
    exact pathE 508 [.call [0, 1, 2, 3] (caps_Table_Sees.R handle_712 o0_713 o1_714 o1_715 o1_716 o1_717 o1_718 o1_719 o1_720 o1_721 o2_722 o3_723 t_732) (caps_Table_Sees.S1 handle_712 o0_713 o1_714 o1_715 o1_716 o1_717 o1_718 o1_719 o1_720 o1_721 o2_722 o3_723 t_732), .b true, .i 7, .fzc 4 5 [], .fzc 4 8 [], .fzc 4 9 [], .fzc 4 10 [], .fzc 4 12 [], .fin [0, 1, 2, 3]] (ai (caps_Table_Sees.ok k handle_712 o0_713 o1_714 o1_715 o1_716 o1_717 o1_718 o1_719 o1_720 o1_721 o2_722 o3_723 t_732 ht_732) <| ai (bne_iff_ne.2 c_733) <| ai (Eq.refl ([.p (.int .i64 0), .p (.int .i64 0), .p (.int .i64 0), .p (.int .i64 0), .p (.str []), .nil 2, .p (.str []), .p (.int .i64 0), .nil 4, .nil 3, .nil 1, .p (.str []), .nil 2] : List Dd)) <| ai (Eq.refl ([.p (.int .i64 0), .p (.int .i64 0), .p (.int .i64 0), .p (.int .i64 0), .p (.str []), .p (.sl 2 (([] : List api_Run).map en_api_Run)), .p (.str []), .p (.int .i64 0), .nil 4, .nil 3, .nil 1, .p (.str []), .nil 2] : List Dd)) <| ai (Eq.refl ([.p (.int .i64 0), .p (.int .i64 0), .p (.int .i64 0), .p (.int .i64 0), .p (.str []), .p (.sl 2 (([] : List api_Run).map en_api_Run)), .p (.str []), .p (.int .i64 0), .p (.sl 4 (([] : List api_Attr).map en_api_Attr)), .nil 3, .nil 1, .p (.str []), .nil 2] : List Dd)) <| ai (Eq.refl ([.p (.int .i64 0), .p (.int .i64 0), .p (.int .i64 0), .p (.int .i64 0), .p (.str []), .p (.sl 2 (([] : List api_Run).map en_api_Run)), .p (.str []), .p (.int .i64 0), .p (.sl 4 (([] : List api_Attr).map en_api_Attr)), .p (.sl 3 (([] : List api_Hook).map en_api_Hook)), .nil 1, .p (.str []), .nil 2] : List Dd)) <| ai (Eq.refl ([.p (.int .i64 0), .p (.int .i64 0), .p (.int .i64 0), .p (.int .i64 0), .p (.str []), .p (.sl 2 (([] : List api_Run).map en_api_Run)), .p (.str []), .p (.int .i64 0), .p (.sl 4 (([] : List api_Attr).map en_api_Attr)), .p (.sl 3 (([] : List api_Hook).map en_api_Hook)), .p (.sl 1 (([] : List Int).map en_i64)), .p (.str []), .nil 2] : List Dd)) <| hr) (by kernel_rfl)
  · obtain ⟨t_734, ht_734, h⟩ := bind_some h
    refine pathE 460 [.call [0, 1, 2, 3] (caps_Table_Sees.R handle_712 o0_713 o1_714 o1_715 o1_716 o1_717 o1_718 o1_719 o1_720 o1_721 o2_722 o3_723 t_732) (caps_Table_Sees.S1 handle_712 o0_713 o1_714 o1_715 o1_716 o1_717 o1_718 o1_719 o1_720 o1_721 o2_722 o3_723 t_732), .b false, .dr 0 [[], [], [], [.call [0, 3] (caps_Table_Mount.R o0_713 o3_723 t_734) (caps_Table_Mount.S1 o0_713 o3_723 t_734)], [], []] [.one (.ptr 5 0), .one (.p (.int .i64 t_732.1.Id)), .one (.ptr 0 0), .one (.p (.int .i64 t_734)), .one (.p (.bool (t_732.1.Id == t_734))), .one (.p (.bool (t_732.1.Id == t_734)))] [[], [], [], [], [], []], .keep [6, 8, 22], .stop] (ai (caps_Table_Sees.ok k handle_712 o0_713 o1_714 o1_715 o1_716 o1_717 o1_718 o1_719 o1_720 o1_721 o2_722 o3_723 t_732 ht_732) <| ai (bne_false c_733) <| ai (caps_Table_Mount.ok o0_713 o3_723 t_734 ht_734) <| ai (drE caps_Table_Owns.b [1, 1, 0, 0, 1, 1, 0] [.one (.ptr 5 0), .one (.p (.int .i64 t_732.1.Id)), .one (.ptr 0 0), .one (.p (.int .i64 t_734)), .one (.p (.bool (t_732.1.Id == t_734))), .one (.p (.bool (t_732.1.Id == t_734)))] [[], [], [], [], [], []] ([.box [.p (.int .i64 o0_713), .own 3 1 0 o3_723.length], .box [.mp 2, .p (.int .i64 o1_714), .p (.int .i64 o1_715), .p (.int .i64 o1_716), .p (.int .i64 o1_717), .p (.int .i64 o1_718), .p (.int .i64 o1_719), .p (.int .i64 o1_720), .p (.int .i64 o1_721)], .map (enE en_arena_Node o2_722), .row 3 1 o3_723.length (o3_723.map en_i64), .box [.p (.int .i64 0), .p (.int .i64 0), .p (.int .i64 0), .p (.int .i64 0), .p (.str []), .nil 2, .p (.str []), .p (.int .i64 0), .nil 4, .nil 3, .nil 1, .p (.str []), .nil 2], .box [.p (.int .i64 t_732.1.Id), .p (.int .i64 t_732.1.Owner), .p (.int .i64 t_732.1.Parent), .p (.int .i64 t_732.1.Kind), .p (.str t_732.1.Tag.Text), .p (.sl 2 (t_732.1.Tag.Runs.map en_api_Run)), .p (.str t_732.1.Key), .p (.int .i64 t_732.1.Slot), .p (.sl 4 (t_732.1.Attrs.map en_api_Attr)), .p (.sl 3 (t_732.1.Hooks.map en_api_Hook)), .p (.sl 1 (t_732.1.Kids.map en_i64)), .p (.str t_732.1.Text.Text), .p (.sl 2 (t_732.1.Text.Runs.map en_api_Run))]] ++ List.replicate 0 .res)) <| (?_ : RunE Try.prog ⟨4, caps_Table_Owns.rs, res, st⟩ (koOf caps_Table_Owns.b .done [1, 1, 0, 0, 1, 1, 1]) [(6, .one (.ptr 4 0)), (8, .one (.ptr 5 0)), (22, .one (.p (.bool (t_732.1.Id == t_734))))] [.box [.p (.int .i64 o0_713), .own 3 1 0 o3_723.length], .box [.mp 2, .p (.int .i64 o1_714), .p (.int .i64 o1_715), .p (.int .i64 o1_716), .p (.int .i64 o1_717), .p (.int .i64 o1_718), .p (.int .i64 o1_719), .p (.int .i64 o1_720), .p (.int .i64 o1_721)], .map (enE en_arena_Node o2_722), .row 3 1 o3_723.length (o3_723.map en_i64), .box [.p (.int .i64 0), .p (.int .i64 0), .p (.int .i64 0), .p (.int .i64 0), .p (.str []), .nil 2, .p (.str []), .p (.int .i64 0), .nil 4, .nil 3, .nil 1, .p (.str []), .nil 2], .box [.p (.int .i64 t_732.1.Id), .p (.int .i64 t_732.1.Owner), .p (.int .i64 t_732.1.Parent), .p (.int .i64 t_732.1.Kind), .p (.str t_732.1.Tag.Text), .p (.sl 2 (t_732.1.Tag.Runs.map en_api_Run)), .p (.str t_732.1.Key), .p (.int .i64 t_732.1.Slot), .p (.sl 4 (t_732.1.Attrs.map en_api_Attr)), .p (.sl 3 (t_732.1.Hooks.map en_api_Hook)), .p (.sl 1 (t_732.1.Kids.map en_i64)), .p (.str t_732.1.Text.Text), .p (.sl 2 (t_732.1.Text.Runs.map en_api_Run))]])) (by kernel_rfl)
    rcases ite_some h with ⟨c_735, h⟩ | ⟨c_735, h⟩
    · obtain rfl := Option.some.inj h
      exact pathE 496 [.b true, .i 6, .fzc 4 5 [], .fzc 4 8 [], .fzc 4 9 [], .fzc 4 10 [], .fzc 4 12 [], .fin [0, 1, 2, 3]] (ai (beq_iff_eq.2 c_735) <| ai (Eq.refl ([.p (.int .i64 0), .p (.int .i64 0), .p (.int .i64 0), .p (.int .i64 0), .p (.str []), .nil 2, .p (.str []), .p (.int .i64 0), .nil 4, .nil 3, .nil 1, .p (.str []), .nil 2] : List Dd)) <| ai (Eq.refl ([.p (.int .i64 0), .p (.int .i64 0), .p (.int .i64 0), .p (.int .i64 0), .p (.str []), .p (.sl 2 (([] : List api_Run).map en_api_Run)), .p (.str []), .p (.int .i64 0), .nil 4, .nil 3, .nil 1, .p (.str []), .nil 2] : List Dd)) <| ai (Eq.refl ([.p (.int .i64 0), .p (.int .i64 0), .p (.int .i64 0), .p (.int .i64 0), .p (.str []), .p (.sl 2 (([] : List api_Run).map en_api_Run)), .p (.str []), .p (.int .i64 0), .p (.sl 4 (([] : List api_Attr).map en_api_Attr)), .nil 3, .nil 1, .p (.str []), .nil 2] : List Dd)) <| ai (Eq.refl ([.p (.int .i64 0), .p (.int .i64 0), .p (.int .i64 0), .p (.int .i64 0), .p (.str []), .p (.sl 2 (([] : List api_Run).map en_api_Run)), .p (.str []), .p (.int .i64 0), .p (.sl 4 (([] : List api_Attr).map en_api_Attr)), .p (.sl 3 (([] : List api_Hook).map en_api_Hook)), .nil 1, .p (.str []), .nil 2] : List Dd)) <| ai (Eq.refl ([.p (.int .i64 0), .p (.int .i64 0), .p (.int .i64 0), .p (.int .i64 0), .p (.str []), .p (.sl 2 (([] : List api_Run).map en_api_Run)), .p (.str []), .p (.int .i64 0), .p (.sl 4 (([] : List api_Attr).map en_api_Attr)), .p (.sl 3 (([] : List api_Hook).map en_api_Hook)), .p (.sl 1 (([] : List Int).map en_i64)), .p (.str []), .nil 2] : List Dd)) <| hr) (by kernel_rfl)
    · obtain rfl := Option.some.inj h
      exact pathE 436 [.b false, .i 8, .fin [0, 1, 2, 3]] (ai (beq_eq_false_iff_ne.2 c_735) <| hr) (by kernel_rfl)
theorem caps_Table_Owns.ok (k : Nat) (handle_712 : Int) (o0_713 : Int) (o1_714 : Int) (o1_715 : Int) (o1_716 : Int) (o1_717 : Int) (o1_718 : Int) (o1_719 : Int) (o1_720 : Int) (o1_721 : Int) (o2_722 : (List (Int × arena_Node))) (o3_723 : (List Int)) (r : arena_Node × Int) (h : caps_Table_Owns.f k handle_712 o0_713 o1_714 o1_715 o1_716 o1_717 o1_718 o1_719 o1_720 o1_721 o2_722 o3_723 = some r) : OkS Try.prog 67 (caps_Table_Owns.A handle_712 o0_713 o1_714 o1_715 o1_716 o1_717 o1_718 o1_719 o1_720 o1_721 o2_722 o3_723) (caps_Table_Owns.S0 handle_712 o0_713 o1_714 o1_715 o1_716 o1_717 o1_718 o1_719 o1_720 o1_721 o2_722 o3_723) (caps_Table_Owns.R handle_712 o0_713 o1_714 o1_715 o1_716 o1_717 o1_718 o1_719 o1_720 o1_721 o2_722 o3_723 r) (caps_Table_Owns.S1 handle_712 o0_713 o1_714 o1_715 o1_716 o1_717 o1_718 o1_719 o1_720 o1_721 o2_722 o3_723 r) := okE Try.func67 m67 rfl rfl rfl (caps_Table_Owns.run k handle_712 o0_713 o1_714 o1_715 o1_716 o1_717 o1_718 o1_719 o1_720 o1_721 o2_722 o3_723 r h _ _ rfl)
-- 11 glazier/glazierlaw26.CapsSees
def d11 : FnDef := ⟨173, [.tmp 8],
  (.seq
  (.ops [
    ⟨some 8, .mv (.c (.one (.p (.bool false)))), none⟩] [0, 1, 2, 3])
  (.seq
  (.seq
  (.ops [
    ⟨some 27, .call 61 [], none⟩,
    ⟨some 28, .un .not (.t 27), none⟩] [0, 1, 2, 3, 28])
  (.cond (.t 28)
    (.seq
    (.ops [
      ⟨some 8, .mv (.c (.one (.p (.bool false)))), none⟩] [8])
    .ret)
    .skip))
  (.seq
  (.ops [
    ⟨some 29, .mv (.t 0), none⟩,
    ⟨some 30, .bin 0 .rem (.t 29) (.c (.one (.p (.int .i64 3)))), none⟩,
    ⟨some 31, .bin 0 .add (.t 30) (.c (.one (.p (.int .i64 3)))), none⟩,
    ⟨some 32, .bin 0 .rem (.t 31) (.c (.one (.p (.int .i64 3)))), none⟩,
    ⟨some 33, .bin 0 .add (.c (.one (.p (.int .i64 1)))) (.t 32), none⟩,
    ⟨some 34, .mv (.t 1), none⟩,
    ⟨some 35, .bin 0 .rem (.t 34) (.c (.one (.p (.int .i64 4)))), none⟩,
    ⟨some 36, .bin 0 .add (.t 35) (.c (.one (.p (.int .i64 4)))), none⟩,
    ⟨some 37, .bin 0 .rem (.t 36) (.c (.one (.p (.int .i64 4)))), none⟩,
    ⟨some 0, .mv (.t 33), none⟩,
    ⟨some 1, .mv (.t 37), none⟩] [0, 1, 2, 3])
  (.seq
  (.ops [
    ⟨some 38, .call 30 [], none⟩,
    ⟨some 9, .mv (.t 38), none⟩] [0, 1, 2, 3, 9])
  (.seq
  (.ops [
    ⟨some 40, .mv (.t 9), none⟩,
    ⟨some 41, .build [.p (.str []), .nil 2] [], none⟩,
    ⟨some 42, .mv (.t 0), none⟩,
    ⟨some 43, .call 31 [(.t 40), (.c (.one (.p (.int .i64 0)))), (.c (.one (.p (.int .i64 3)))), (.t 41), (.c (.one (.p (.str [])))), (.t 42)], none⟩,
    ⟨some 39, .mv (.t 43), none⟩,
    ⟨some 44, .ext (.t 39) 0, none⟩,
    ⟨some 45, .ext (.t 39) 1, none⟩,
    ⟨some 10, .mv (.t 44), none⟩,
    ⟨some 11, .mv (.t 45), none⟩] [0, 1, 2, 3, 9, 10, 11])
  (.seq
  (.ops [
    ⟨some 47, .mv (.t 9), none⟩,
    ⟨some 48, .mv (.t 1), none⟩,
    ⟨some 49, .call 32 [(.c (.one (.p (.str [112])))), (.c (.one (.p (.int .i64 0))))], none⟩,
    ⟨some 50, .call 31 [(.t 47), (.t 48), (.c (.one (.p (.int .i64 1)))), (.t 49), (.c (.one (.p (.str [])))), (.c (.one (.p (.int .i64 0))))], none⟩,
    ⟨some 46, .mv (.t 50), none⟩,
    ⟨some 51, .ext (.t 46) 0, none⟩,
    ⟨some 52, .ext (.t 46) 1, none⟩,
    ⟨some 12, .mv (.t 51), none⟩,
    ⟨some 13, .mv (.t 52), none⟩] [0, 1, 2, 3, 9, 10, 11, 12, 13])
  (.seq
  (.seq
  (.ops [
    ⟨some 53, .mv (.t 11), none⟩,
    ⟨some 54, .bin 0 .neq (.t 53) (.c (.one (.p (.int .i64 0)))), none⟩,
    ⟨some 55, .mv (.t 54), none⟩,
    ⟨some 56, .mv (.t 13), some (55, false)⟩,
    ⟨some 57, .bin 0 .neq (.t 56) (.c (.one (.p (.int .i64 0)))), some (55, false)⟩,
    ⟨some 58, .pick (.t 55) (.c (.one (.p (.bool true)))) (.t 57), none⟩,
    ⟨some 59, .mv (.t 58), none⟩,
    ⟨some 60, .mv (.t 9), some (59, false)⟩,
    ⟨some 61, .mv (.t 10), some (59, false)⟩,
    ⟨some 62, .call 62 [(.t 60), (.c (.one (.p (.int .i64 0)))), (.c (.one (.p (.int .i64 0)))), (.t 61)], some (59, false)⟩,
    ⟨some 63, .bin 0 .neq (.t 62) (.c (.one (.p (.int .i64 0)))), some (59, false)⟩,
    ⟨some 64, .pick (.t 59) (.c (.one (.p (.bool true)))) (.t 63), none⟩] [0, 1, 2, 3, 9, 10, 12, 64])
  (.cond (.t 64)
    (.seq
    (.ops [
      ⟨some 8, .mv (.c (.one (.p (.bool false)))), none⟩] [8])
    .ret)
    .skip))
  (.seq
  (.ops [
    ⟨some 14, .mv (.c (.one (.p (.int .i64 0)))), none⟩] [0, 1, 2, 3, 9, 10, 12, 14])
  (.seq
  (.seq
  (.ops [
    ⟨some 65, .mv (.t 2), none⟩] [0, 1, 2, 3, 9, 10, 12, 14, 65])
  (.cond (.t 65)
    (.ops [
      ⟨some 66, .mv (.t 10), none⟩,
      ⟨some 14, .mv (.t 66), none⟩] [0, 1, 2, 3, 9, 10, 12, 14])
    .skip))
  (.seq
  (.seq
  (.ops [
    ⟨some 67, .mv (.t 9), none⟩,
    ⟨some 68, .mv (.t 14), none⟩,
    ⟨some 69, .mv (.t 12), none⟩,
    ⟨some 70, .call 62 [(.t 67), (.t 68), (.c (.one (.p (.int .i64 0)))), (.t 69)], none⟩,
    ⟨some 71, .bin 0 .neq (.t 70) (.c (.one (.p (.int .i64 0)))), none⟩] [0, 1, 2, 3, 9, 10, 12, 71])
  (.cond (.t 71)
    (.seq
    (.ops [
      ⟨some 8, .mv (.c (.one (.p (.bool false)))), none⟩] [8])
    .ret)
    .skip))
  (.seq
  (.ops [
    ⟨some 72, .mv (.t 0), none⟩,
    ⟨some 73, .mv (.t 10), none⟩,
    ⟨some 74, .call 63 [(.t 72), (.t 73)], none⟩,
    ⟨some 15, .mv (.t 74), none⟩] [0, 1, 2, 3, 9, 10, 12, 15])
  (.seq
  (.ops [
    ⟨some 76, .mv (.t 15), none⟩,
    ⟨some 77, .mv (.t 12), none⟩,
    ⟨some 78, .call 64 [(.t 76), (.t 77)], none⟩,
    ⟨some 75, .mv (.t 78), none⟩,
    ⟨some 79, .ext (.t 75) 0, none⟩,
    ⟨some 80, .ext (.t 75) 1, none⟩,
    ⟨some 16, .mv (.t 79), none⟩,
    ⟨some 17, .mv (.t 80), none⟩] [0, 1, 2, 3, 9, 10, 12, 15, 16, 17])
  (.seq
  (.seq
  (.ops [
    ⟨some 81, .mv (.t 3), none⟩] [0, 1, 2, 3, 9, 10, 12, 15, 16, 17, 81])
  (.cond (.t 81)
    (.ops [
      ⟨some 82, .mv (.t 9), none⟩,
      ⟨some 83, .mv (.t 12), none⟩,
      ⟨some 84, .call 65 [(.t 82), (.t 83)], none⟩] [0, 1, 2, 3, 9, 10, 12, 15, 16, 17])
    .skip))
  (.seq
  (.ops [
    ⟨some 86, .mv (.t 15), none⟩,
    ⟨some 87, .mv (.t 9), none⟩,
    ⟨some 88, .mv (.t 16), none⟩,
    ⟨some 89, .call 66 [(.t 86), (.t 87), (.t 88)], none⟩,
    ⟨some 85, .mv (.t 89), none⟩,
    ⟨some 90, .ext (.t 85) 0, none⟩,
    ⟨some 91, .ext (.t 85) 1, none⟩,
    ⟨some 18, .alloc [.p (.int .i64 0), .p (.int .i64 0), .p (.int .i64 0), .p (.int .i64 0), .p (.str []), .nil 2, .p (.str []), .p (.int .i64 0), .nil 4, .nil 3, .nil 1, .p (.str []), .nil 2], none⟩,
    ⟨none, .store 13 (.t 18) (.t 90), none⟩,
    ⟨some 19, .mv (.t 91), none⟩] [0, 1, 2, 3, 9, 10, 12, 15, 16, 17, 18, 19])
  (.seq
  (.ops [
    ⟨some 93, .mv (.t 15), none⟩,
    ⟨some 94, .mv (.t 9), none⟩,
    ⟨some 95, .mv (.t 16), none⟩,
    ⟨some 96, .call 67 [(.t 93), (.t 94), (.t 95)], none⟩,
    ⟨some 92, .mv (.t 96), none⟩,
    ⟨some 97, .ext (.t 92) 0, none⟩,
    ⟨some 98, .ext (.t 92) 1, none⟩,
    ⟨some 20, .alloc [.p (.int .i64 0), .p (.int .i64 0), .p (.int .i64 0), .p (.int .i64 0), .p (.str []), .nil 2, .p (.str []), .p (.int .i64 0), .nil 4, .nil 3, .nil 1, .p (.str []), .nil 2], none⟩,
    ⟨none, .store 13 (.t 20) (.t 97), none⟩,
    ⟨some 21, .mv (.t 98), none⟩] [0, 1, 2, 3, 9, 10, 12, 15, 17, 18, 19, 20, 21])
  (.seq
  (.ops [
    ⟨some 100, .mv (.t 15), none⟩,
    ⟨some 101, .mv (.t 9), none⟩,
    ⟨some 102, .call 67 [(.t 100), (.t 101), (.c (.one (.p (.int .i64 1))))], none⟩,
    ⟨some 99, .mv (.t 102), none⟩,
    ⟨some 103, .ext (.t 99) 0, none⟩,
    ⟨some 104, .ext (.t 99) 1, none⟩,
    ⟨some 22, .alloc [.p (.int .i64 0), .p (.int .i64 0), .p (.int .i64 0), .p (.int .i64 0), .p (.str []), .nil 2, .p (.str []), .p (.int .i64 0), .nil 4, .nil 3, .nil 1, .p (.str []), .nil 2], none⟩,
    ⟨none, .store 13 (.t 22) (.t 103), none⟩,
    ⟨some 23, .mv (.t 104), none⟩] [0, 1, 2, 3, 9, 10, 12, 15, 17, 18, 19, 20, 21, 23])
  (.seq
  (.ops [
    ⟨some 106, .mv (.t 15), none⟩,
    ⟨some 107, .mv (.t 9), none⟩,
    ⟨some 108, .call 66 [(.t 106), (.t 107), (.c (.one (.p (.int .i64 1))))], none⟩,
    ⟨some 105, .mv (.t 108), none⟩,
    ⟨some 109, .ext (.t 105) 0, none⟩,
    ⟨some 110, .ext (.t 105) 1, none⟩,
    ⟨some 24, .alloc [.p (.int .i64 0), .p (.int .i64 0), .p (.int .i64 0), .p (.int .i64 0), .p (.str []), .nil 2, .p (.str []), .p (.int .i64 0), .nil 4, .nil 3, .nil 1, .p (.str []), .nil 2], none⟩,
    ⟨none, .store 13 (.t 24) (.t 109), none⟩,
    ⟨some 25, .mv (.t 110), none⟩] [0, 1, 2, 3, 10, 12, 17, 18, 19, 20, 21, 23, 24, 25])
  (.seq
  (.seq
  (.ops [
    ⟨some 111, .mv (.t 17), none⟩,
    ⟨some 112, .bin 0 .neq (.t 111) (.c (.one (.p (.int .i64 0)))), none⟩,
    ⟨some 113, .mv (.t 112), none⟩,
    ⟨some 114, .mv (.t 23), some (113, false)⟩,
    ⟨some 115, .bin 0 .neq (.t 114) (.c (.one (.p (.int .i64 20)))), some (113, false)⟩,
    ⟨some 116, .pick (.t 113) (.c (.one (.p (.bool true)))) (.t 115), none⟩,
    ⟨some 117, .mv (.t 116), none⟩,
    ⟨some 118, .mv (.t 25), some (117, false)⟩,
    ⟨some 119, .bin 0 .neq (.t 118) (.c (.one (.p (.int .i64 0)))), some (117, false)⟩,
    ⟨some 120, .pick (.t 117) (.c (.one (.p (.bool true)))) (.t 119), none⟩,
    ⟨some 121, .mv (.t 120), none⟩,
    ⟨some 122, .faddr 0 (.t 24), some (121, false)⟩,
    ⟨some 123, .load 1 false (.t 122), some (121, false)⟩,
    ⟨some 124, .mv (.t 10), some (121, false)⟩,
    ⟨some 125, .bin 0 .neq (.t 123) (.t 124), some (121, false)⟩,
    ⟨some 126, .pick (.t 121) (.c (.one (.p (.bool true)))) (.t 125), none⟩] [0, 1, 2, 3, 12, 18, 19, 20, 21, 126])
  (.cond (.t 126)
    (.seq
    (.ops [
      ⟨some 8, .mv (.c (.one (.p (.bool false)))), none⟩] [8])
    .ret)
    .skip))
  (.seq
  (.ops [
    ⟨some 26, .mv (.c (.one (.p (.int .i64 0)))), none⟩] [0, 1, 2, 3, 12, 18, 19, 20, 21, 26])
  (.seq
  (.block 0
    (.seq
    (.ops [
      ⟨some 128, .mv (.t 3), none⟩,
      ⟨some 129, .mv (.t 128), none⟩,
      ⟨some 130, .mv (.t 2), some (129, false)⟩,
      ⟨some 131, .un .not (.t 130), some (129, false)⟩,
      ⟨some 132, .pick (.t 129) (.c (.one (.p (.bool true)))) (.t 131), none⟩,
      ⟨some 127, .mv (.t 132), none⟩] [0, 1, 12, 18, 19, 20, 21, 26, 127])
    (.cond (.t 127)
      (.ops [
        ⟨some 26, .mv (.c (.one (.p (.int .i64 21)))), none⟩] [12, 18, 19, 20, 21, 26])
      (.seq
      (.ops [
        ⟨some 134, .mv (.t 1), none⟩,
        ⟨some 135, .mv (.t 0), none⟩,
        ⟨some 136, .bin 0 .neq (.t 134) (.t 135), none⟩,
        ⟨some 133, .mv (.t 136), none⟩] [12, 18, 19, 20, 21, 26, 133])
      (.cond (.t 133)
        (.ops [
          ⟨some 26, .mv (.c (.one (.p (.int .i64 20)))), none⟩] [12, 18, 19, 20, 21, 26])
        .skip)))))
  (.seq
  (.seq
  (.ops [
    ⟨some 137, .mv (.t 19), none⟩,
    ⟨some 138, .mv (.t 26), none⟩,
    ⟨some 139, .bin 0 .neq (.t 137) (.t 138), none⟩,
    ⟨some 140, .mv (.t 139), none⟩,
    ⟨some 141, .mv (.t 21), some (140, false)⟩,
    ⟨some 142, .mv (.t 26), some (140, false)⟩,
    ⟨some 143, .bin 0 .neq (.t 141) (.t 142), some (140, false)⟩,
    ⟨some 144, .pick (.t 140) (.c (.one (.p (.bool true)))) (.t 143), none⟩] [12, 18, 20, 26, 144])
  (.cond (.t 144)
    (.seq
    (.ops [
      ⟨some 8, .mv (.c (.one (.p (.bool false)))), none⟩] [8])
    .ret)
    .skip))
  (.seq
  (.ops [
    ⟨some 145, .mv (.t 26), none⟩,
    ⟨some 146, .bin 0 .neq (.t 145) (.c (.one (.p (.int .i64 0)))), none⟩,
    ⟨some 147, .mv (.t 146), none⟩,
    ⟨some 148, .faddr 0 (.t 18), some (147, true)⟩,
    ⟨some 149, .load 1 false (.t 148), some (147, true)⟩,
    ⟨some 150, .bin 0 .eql (.t 149) (.c (.one (.p (.int .i64 0)))), some (147, true)⟩,
    ⟨some 151, .pick (.t 147) (.t 150) (.c (.one (.p (.bool false)))), none⟩,
    ⟨some 152, .mv (.t 151), none⟩,
    ⟨some 153, .faddr 0 (.t 20), some (152, true)⟩,
    ⟨some 154, .load 1 false (.t 153), some (152, true)⟩,
    ⟨some 155, .bin 0 .eql (.t 154) (.c (.one (.p (.int .i64 0)))), some (152, true)⟩,
    ⟨some 156, .pick (.t 152) (.t 155) (.c (.one (.p (.bool false)))), none⟩,
    ⟨some 157, .mv (.t 156), none⟩,
    ⟨some 158, .mv (.t 26), some (157, false)⟩,
    ⟨some 159, .bin 0 .eql (.t 158) (.c (.one (.p (.int .i64 0)))), some (157, false)⟩,
    ⟨some 160, .mv (.t 159), some (157, false)⟩,
    ⟨some 161, .faddr 0 (.t 18), some (160, true)⟩,
    ⟨some 162, .load 1 false (.t 161), some (160, true)⟩,
    ⟨some 163, .mv (.t 12), some (160, true)⟩,
    ⟨some 164, .bin 0 .eql (.t 162) (.t 163), some (160, true)⟩,
    ⟨some 165, .pick (.t 160) (.t 164) (.c (.one (.p (.bool false)))), some (157, false)⟩,
    ⟨some 166, .mv (.t 165), some (157, false)⟩,
    ⟨some 167, .faddr 0 (.t 20), some (166, true)⟩,
    ⟨some 168, .load 1 false (.t 167), some (166, true)⟩,
    ⟨some 169, .mv (.t 12), some (166, true)⟩,
    ⟨some 170, .bin 0 .eql (.t 168) (.t 169), some (166, true)⟩,
    ⟨some 171, .pick (.t 166) (.t 170) (.c (.one (.p (.bool false)))), some (157, false)⟩,
    ⟨some 172, .pick (.t 157) (.c (.one (.p (.bool true)))) (.t 171), none⟩,
    ⟨some 8, .mv (.t 172), none⟩] [8])
  .ret))))))))))))))))))))))⟩
theorem m11 : mFn Try.prog d11 Try.f11 = true := by kernel_rfl
def law26_CapsSees.A (owner_1 : Int) (whose_2 : Int) (inside_3 : Bool) (gone_4 : Bool) : List Vv := [.one (.p (.int .i64 owner_1)), .one (.p (.int .i64 whose_2)), .one (.p (.bool inside_3)), .one (.p (.bool gone_4))]
def law26_CapsSees.S0 (owner_1 : Int) (whose_2 : Int) (inside_3 : Bool) (gone_4 : Bool) : Sto := []
def law26_CapsSees.R (owner_1 : Int) (whose_2 : Int) (inside_3 : Bool) (gone_4 : Bool) (r_0 : Bool) : Vv := .one (.p (.bool r_0))
def law26_CapsSees.S1 (owner_1 : Int) (whose_2 : Int) (inside_3 : Bool) (gone_4 : Bool) (r_0 : Bool) : Sto := []
def law26_CapsSees.rs : List Rv := d11.res
def law26_CapsSees.b : Sx := d11.body
def law26_CapsSees.f (k : Nat) (owner_1 : Int) (whose_2 : Int) (inside_3 : Bool) (gone_4 : Bool) : Option (Bool) := ((law26_alive.f ).bind fun t_807 => (if (!t_807) = true then (some false) else ((arena_New.f ).bind fun t_809 => ((arena_Arena_Make.f k 0 3 (api_Str.mk [] ([] : List api_Run)) ([] : List UInt8) (w64 (1 + (Int.tmod (w64 ((Int.tmod owner_1 3) + 3)) 3))) 0 0 0 0 1 0 0 0 t_809).bind fun t_810 => ((mark_Of.f ([112] : List UInt8) 0).bind fun t_811 => ((arena_Arena_Make.f k (Int.tmod (w64 ((Int.tmod whose_2 4) + 4)) 4) 1 t_811 ([] : List UInt8) 0 t_810.2.2.1 t_810.2.2.2.1 t_810.2.2.2.2.1 t_810.2.2.2.2.2.1 t_810.2.2.2.2.2.2.1 t_810.2.2.2.2.2.2.2.1 t_810.2.2.2.2.2.2.2.2.1 t_810.2.2.2.2.2.2.2.2.2.1 t_810.2.2.2.2.2.2.2.2.2.2).bind fun t_812 => (if t_810.2.1 ≠ 0 then (some false) else (if t_812.2.1 ≠ 0 then (some false) else ((dom_Insert.f k 0 0 t_810.1 t_812.2.2.1 t_812.2.2.2.1 t_812.2.2.2.2.1 t_812.2.2.2.2.2.1 t_812.2.2.2.2.2.2.1 t_812.2.2.2.2.2.2.2.1 t_812.2.2.2.2.2.2.2.2.1 t_812.2.2.2.2.2.2.2.2.2.1 t_812.2.2.2.2.2.2.2.2.2.2).bind fun t_815 => (if t_815.1 ≠ 0 then (some false) else (Option.bind ((if inside_3 = true then (some t_810.1) else (some 0)) : Option ((Int))) (fun v_817 => ((dom_Insert.f k v_817 0 t_812.1 t_812.2.2.1 t_812.2.2.2.1 t_812.2.2.2.2.1 t_812.2.2.2.2.2.1 t_812.2.2.2.2.2.2.1 t_812.2.2.2.2.2.2.2.1 t_812.2.2.2.2.2.2.2.2.1 t_812.2.2.2.2.2.2.2.2.2.1 t_815.2).bind fun t_819 => (if t_819.1 ≠ 0 then (some false) else ((caps_New.f (w64 (1 + (Int.tmod (w64 ((Int.tmod owner_1 3) + 3)) 3))) t_810.1).bind fun t_821 => ((caps_Table_Grant.f k t_812.1 (w64 (1 + (Int.tmod (w64 ((Int.tmod owner_1 3) + 3)) 3))) ([t_810.1] : List Int)).bind fun t_822 => (Option.bind ((if gone_4 = true then ((dom_Remove.f k t_812.1 t_812.2.2.1 t_812.2.2.2.1 t_812.2.2.2.2.1 t_812.2.2.2.2.2.1 t_812.2.2.2.2.2.2.1 t_812.2.2.2.2.2.2.2.1 t_812.2.2.2.2.2.2.2.2.1 t_812.2.2.2.2.2.2.2.2.2.1 t_819.2).bind fun t_850 => (some (t_850.2.2.1, t_850.2.2.2.1, t_850.2.2.2.2.1, t_850.2.2.2.2.2.1, t_850.2.2.2.2.2.2))) else (some (t_812.2.2.2.2.2.2.1, t_812.2.2.2.2.2.2.2.1, t_812.2.2.2.2.2.2.2.2.1, t_812.2.2.2.2.2.2.2.2.2.1, t_819.2))) : Option ((Int × Int × Int × Int × (List (Int × arena_Node))))) (fun v_823 => ((caps_Table_Sees.f k t_822.1 (w64 (1 + (Int.tmod (w64 ((Int.tmod owner_1 3) + 3)) 3))) t_812.2.2.1 t_812.2.2.2.1 t_812.2.2.2.2.1 t_812.2.2.2.2.2.1 v_823.1 v_823.2.1 v_823.2.2.1 v_823.2.2.2.1 v_823.2.2.2.2 t_822.2.2).bind fun t_825 => ((caps_Table_Owns.f k t_822.1 (w64 (1 + (Int.tmod (w64 ((Int.tmod owner_1 3) + 3)) 3))) t_812.2.2.1 t_812.2.2.2.1 t_812.2.2.2.2.1 t_812.2.2.2.2.2.1 v_823.1 v_823.2.1 v_823.2.2.1 v_823.2.2.2.1 v_823.2.2.2.2 t_822.2.2).bind fun t_826 => ((caps_Table_Owns.f k 1 (w64 (1 + (Int.tmod (w64 ((Int.tmod owner_1 3) + 3)) 3))) t_812.2.2.1 t_812.2.2.2.1 t_812.2.2.2.2.1 t_812.2.2.2.2.2.1 v_823.1 v_823.2.1 v_823.2.2.1 v_823.2.2.2.1 v_823.2.2.2.2 t_822.2.2).bind fun t_827 => ((caps_Table_Sees.f k 1 (w64 (1 + (Int.tmod (w64 ((Int.tmod owner_1 3) + 3)) 3))) t_812.2.2.1 t_812.2.2.2.1 t_812.2.2.2.2.1 t_812.2.2.2.2.2.1 v_823.1 v_823.2.1 v_823.2.2.1 v_823.2.2.2.1 v_823.2.2.2.2 t_822.2.2).bind fun t_828 => (if t_822.2.1 ≠ 0 then (some false) else (if t_827.2 ≠ 20 then (some false) else (if t_828.2 ≠ 0 then (some false) else (if t_828.1.Id ≠ t_810.1 then (some false) else (Option.bind ((if gone_4 = true then (some 21) else (if (!inside_3) = true then (some 21) else (if (Int.tmod (w64 ((Int.tmod whose_2 4) + 4)) 4) ≠ (w64 (1 + (Int.tmod (w64 ((Int.tmod owner_1 3) + 3)) 3))) then (some 20) else (some 0)))) : Option ((Int))) (fun v_833 => (if t_825.2 ≠ v_833 then (some false) else (if t_826.2 ≠ v_833 then (some false) else (if v_833 ≠ 0 then (if t_825.1.Id = 0 then (if t_826.1.Id = 0 then (some true) else (if v_833 = 0 then (if t_825.1.Id = t_812.1 then (some (t_826.1.Id == t_812.1)) else (some false)) else (some false))) else (if v_833 = 0 then (if t_825.1.Id = t_812.1 then (some (t_826.1.Id == t_812.1)) else (some false)) else (some false))) else (if v_833 = 0 then (if t_825.1.Id = t_812.1 then (some (t_826.1.Id == t_812.1)) else (some false)) else (some false)))))))))))))))))))))))))))))))))
theorem law26_CapsSees.run (k : Nat) (owner_1 : Int) (whose_2 : Int) (inside_3 : Bool) (gone_4 : Bool) (r : Bool) (h : law26_CapsSees.f k owner_1 whose_2 inside_3 gone_4 = some r) (res : Vv) (st : Sto) (hr : (law26_CapsSees.R owner_1 whose_2 inside_3 gone_4 r, law26_CapsSees.S1 owner_1 whose_2 inside_3 gone_4 r) = (res, st)) : RunE Try.prog ⟨0, law26_CapsSees.rs, res, st⟩ (.st law26_CapsSees.b .done) (argE 0 (law26_CapsSees.A owner_1 whose_2 inside_3 gone_4)) (law26_CapsSees.S0 owner_1 whose_2 inside_3 gone_4) := by
  unfold law26_CapsSees.f at h
  obtain ⟨t_807, ht_807, h⟩ := bind_some h
  rcases ite_some h with ⟨c_808, h⟩ | ⟨c_808, h⟩
  · obtain rfl := Option.some.inj h
    exact pathE 448 [.call [] (law26_alive.R  t_807) (law26_alive.S1  t_807), .b true, .i 4, .fin []] (ai (law26_alive.ok  t_807 ht_807) <| ai c_808 <| hr) (by kernel_rfl)
  · obtain ⟨t_809, ht_809, h⟩ := bind_some h
    obtain ⟨t_810, ht_810, h⟩ := bind_some h
    obtain ⟨t_811, ht_811, h⟩ := bind_some h
    obtain ⟨t_812, ht_812, h⟩ := bind_some h
    rcases ite_some h with ⟨c_813, h⟩ | ⟨c_813, h⟩
    · obtain rfl := Option.some.inj h
      exact pathE 604 [.call [] (law26_alive.R  t_807) (law26_alive.S1  t_807), .b false, .call [] (arena_New.R  t_809) (arena_New.S1  t_809), .i 7, .fz 41 [], .call [0, 1] (arena_Arena_Make.R 0 3 (api_Str.mk [] ([] : List api_Run)) ([] : List UInt8) (w64 (1 + (Int.tmod (w64 ((Int.tmod owner_1 3) + 3)) 3))) 0 0 0 0 1 0 0 0 t_809 t_810) (arena_Arena_Make.S1 0 3 (api_Str.mk [] ([] : List api_Run)) ([] : List UInt8) (w64 (1 + (Int.tmod (w64 ((Int.tmod owner_1 3) + 3)) 3))) 0 0 0 0 1 0 0 0 t_809 t_810), .call [] (mark_Of.R ([112] : List UInt8) 0 t_811) (mark_Of.S1 ([112] : List UInt8) 0 t_811), .call [0, 1] (arena_Arena_Make.R (Int.tmod (w64 ((Int.tmod whose_2 4) + 4)) 4) 1 t_811 ([] : List UInt8) 0 t_810.2.2.1 t_810.2.2.2.1 t_810.2.2.2.2.1 t_810.2.2.2.2.2.1 t_810.2.2.2.2.2.2.1 t_810.2.2.2.2.2.2.2.1 t_810.2.2.2.2.2.2.2.2.1 t_810.2.2.2.2.2.2.2.2.2.1 t_810.2.2.2.2.2.2.2.2.2.2 t_812) (arena_Arena_Make.S1 (Int.tmod (w64 ((Int.tmod whose_2 4) + 4)) 4) 1 t_811 ([] : List UInt8) 0 t_810.2.2.1 t_810.2.2.2.1 t_810.2.2.2.2.1 t_810.2.2.2.2.2.1 t_810.2.2.2.2.2.2.1 t_810.2.2.2.2.2.2.2.1 t_810.2.2.2.2.2.2.2.2.1 t_810.2.2.2.2.2.2.2.2.2.1 t_810.2.2.2.2.2.2.2.2.2.2 t_812), .b true, .b true, .b true, .b true, .b true, .b true, .b true, .i 4, .fin []] (ai (law26_alive.ok  t_807 ht_807) <| ai (bool_false c_808) <| ai (by decide : (3 : Int) ≠ 0) <| ai (by decide : (3 : Int) ≠ 0) <| ai (by decide : (4 : Int) ≠ 0) <| ai (by decide : (4 : Int) ≠ 0) <| ai (arena_New.ok  t_809 ht_809) <| ai (arena_Arena_Make.ok k 0 3 (api_Str.mk [] ([] : List api_Run)) ([] : List UInt8) (w64 (1 + (Int.tmod (w64 ((Int.tmod owner_1 3) + 3)) 3))) 0 0 0 0 1 0 0 0 t_809 t_810 ht_810) <| ai (mark_Of.ok ([112] : List UInt8) 0 t_811 ht_811) <| ai (arena_Arena_Make.ok k (Int.tmod (w64 ((Int.tmod whose_2 4) + 4)) 4) 1 t_811 ([] : List UInt8) 0 t_810.2.2.1 t_810.2.2.2.1 t_810.2.2.2.2.1 t_810.2.2.2.2.2.1 t_810.2.2.2.2.2.2.1 t_810.2.2.2.2.2.2.2.1 t_810.2.2.2.2.2.2.2.2.1 t_810.2.2.2.2.2.2.2.2.2.1 t_810.2.2.2.2.2.2.2.2.2.2 t_812 ht_812) <| ai (bne_iff_ne.2 c_813) <| ai rT <| ai rT <| ai rT <| ai rT <| ai rT <| ai rT <| hr) (by kernel_rfl)
    · rcases ite_some h with ⟨c_814, h⟩ | ⟨c_814, h⟩
      · obtain rfl := Option.some.inj h
        exact pathE 604 [.call [] (law26_alive.R  t_807) (law26_alive.S1  t_807), .b false, .call [] (arena_New.R  t_809) (arena_New.S1  t_809), .i 7, .fz 41 [], .call [0, 1] (arena_Arena_Make.R 0 3 (api_Str.mk [] ([] : List api_Run)) ([] : List UInt8) (w64 (1 + (Int.tmod (w64 ((Int.tmod owner_1 3) + 3)) 3))) 0 0 0 0 1 0 0 0 t_809 t_810) (arena_Arena_Make.S1 0 3 (api_Str.mk [] ([] : List api_Run)) ([] : List UInt8) (w64 (1 + (Int.tmod (w64 ((Int.tmod owner_1 3) + 3)) 3))) 0 0 0 0 1 0 0 0 t_809 t_810), .call [] (mark_Of.R ([112] : List UInt8) 0 t_811) (mark_Of.S1 ([112] : List UInt8) 0 t_811), .call [0, 1] (arena_Arena_Make.R (Int.tmod (w64 ((Int.tmod whose_2 4) + 4)) 4) 1 t_811 ([] : List UInt8) 0 t_810.2.2.1 t_810.2.2.2.1 t_810.2.2.2.2.1 t_810.2.2.2.2.2.1 t_810.2.2.2.2.2.2.1 t_810.2.2.2.2.2.2.2.1 t_810.2.2.2.2.2.2.2.2.1 t_810.2.2.2.2.2.2.2.2.2.1 t_810.2.2.2.2.2.2.2.2.2.2 t_812) (arena_Arena_Make.S1 (Int.tmod (w64 ((Int.tmod whose_2 4) + 4)) 4) 1 t_811 ([] : List UInt8) 0 t_810.2.2.1 t_810.2.2.2.1 t_810.2.2.2.2.1 t_810.2.2.2.2.2.1 t_810.2.2.2.2.2.2.1 t_810.2.2.2.2.2.2.2.1 t_810.2.2.2.2.2.2.2.2.1 t_810.2.2.2.2.2.2.2.2.2.1 t_810.2.2.2.2.2.2.2.2.2.2 t_812), .b false, .b false, .b true, .b true, .b true, .b true, .b true, .i 4, .fin []] (ai (law26_alive.ok  t_807 ht_807) <| ai (bool_false c_808) <| ai (by decide : (3 : Int) ≠ 0) <| ai (by decide : (3 : Int) ≠ 0) <| ai (by decide : (4 : Int) ≠ 0) <| ai (by decide : (4 : Int) ≠ 0) <| ai (arena_New.ok  t_809 ht_809) <| ai (arena_Arena_Make.ok k 0 3 (api_Str.mk [] ([] : List api_Run)) ([] : List UInt8) (w64 (1 + (Int.tmod (w64 ((Int.tmod owner_1 3) + 3)) 3))) 0 0 0 0 1 0 0 0 t_809 t_810 ht_810) <| ai (mark_Of.ok ([112] : List UInt8) 0 t_811 ht_811) <| ai (arena_Arena_Make.ok k (Int.tmod (w64 ((Int.tmod whose_2 4) + 4)) 4) 1 t_811 ([] : List UInt8) 0 t_810.2.2.1 t_810.2.2.2.1 t_810.2.2.2.2.1 t_810.2.2.2.2.2.1 t_810.2.2.2.2.2.2.1 t_810.2.2.2.2.2.2.2.1 t_810.2.2.2.2.2.2.2.2.1 t_810.2.2.2.2.2.2.2.2.2.1 t_810.2.2.2.2.2.2.2.2.2.2 t_812 ht_812) <| ai (bne_false c_813) <| ai rF <| ai (bne_iff_ne.2 c_814) <| ai rT <| ai rT <| ai rT <| ai rT <| hr) (by kernel_rfl)
      · obtain ⟨t_815, ht_815, h⟩ := bind_some h
        refine pathE 616 [.call [] (law26_alive.R  t_807) (law26_alive.S1  t_807), .b false, .call [] (arena_New.R  t_809) (arena_New.S1  t_809), .i 7, .fz 41 [], .call [0, 1] (arena_Arena_Make.R 0 3 (api_Str.mk [] ([] : List api_Run)) ([] : List UInt8) (w64 (1 + (Int.tmod (w64 ((Int.tmod owner_1 3) + 3)) 3))) 0 0 0 0 1 0 0 0 t_809 t_810) (arena_Arena_Make.S1 0 3 (api_Str.mk [] ([] : List api_Run)) ([] : List UInt8) (w64 (1 + (Int.tmod (w64 ((Int.tmod owner_1 3) + 3)) 3))) 0 0 0 0 1 0 0 0 t_809 t_810), .call [] (mark_Of.R ([112] : List UInt8) 0 t_811) (mark_Of.S1 ([112] : List UInt8) 0 t_811), .call [0, 1] (arena_Arena_Make.R (Int.tmod (w64 ((Int.tmod whose_2 4) + 4)) 4) 1 t_811 ([] : List UInt8) 0 t_810.2.2.1 t_810.2.2.2.1 t_810.2.2.2.2.1 t_810.2.2.2.2.2.1 t_810.2.2.2.2.2.2.1 t_810.2.2.2.2.2.2.2.1 t_810.2.2.2.2.2.2.2.2.1 t_810.2.2.2.2.2.2.2.2.2.1 t_810.2.2.2.2.2.2.2.2.2.2 t_812) (arena_Arena_Make.S1 (Int.tmod (w64 ((Int.tmod whose_2 4) + 4)) 4) 1 t_811 ([] : List UInt8) 0 t_810.2.2.1 t_810.2.2.2.1 t_810.2.2.2.2.1 t_810.2.2.2.2.2.1 t_810.2.2.2.2.2.2.1 t_810.2.2.2.2.2.2.2.1 t_810.2.2.2.2.2.2.2.2.1 t_810.2.2.2.2.2.2.2.2.2.1 t_810.2.2.2.2.2.2.2.2.2.2 t_812), .b false, .b false, .b false, .b false, .b false, .call [0, 1] (dom_Insert.R 0 0 t_810.1 t_812.2.2.1 t_812.2.2.2.1 t_812.2.2.2.2.1 t_812.2.2.2.2.2.1 t_812.2.2.2.2.2.2.1 t_812.2.2.2.2.2.2.2.1 t_812.2.2.2.2.2.2.2.2.1 t_812.2.2.2.2.2.2.2.2.2.1 t_812.2.2.2.2.2.2.2.2.2.2 t_815) (dom_Insert.S1 0 0 t_810.1 t_812.2.2.1 t_812.2.2.2.1 t_812.2.2.2.2.1 t_812.2.2.2.2.2.1 t_812.2.2.2.2.2.2.1 t_812.2.2.2.2.2.2.2.1 t_812.2.2.2.2.2.2.2.2.1 t_812.2.2.2.2.2.2.2.2.2.1 t_812.2.2.2.2.2.2.2.2.2.2 t_815), .b false, .i 2, .keep [0, 1, 2, 3, 9, 10, 12, 64], .stop] (ai (law26_alive.ok  t_807 ht_807) <| ai (bool_false c_808) <| ai (by decide : (3 : Int) ≠ 0) <| ai (by decide : (3 : Int) ≠ 0) <| ai (by decide : (4 : Int) ≠ 0) <| ai (by decide : (4 : Int) ≠ 0) <| ai (arena_New.ok  t_809 ht_809) <| ai (arena_Arena_Make.ok k 0 3 (api_Str.mk [] ([] : List api_Run)) ([] : List UInt8) (w64 (1 + (Int.tmod (w64 ((Int.tmod owner_1 3) + 3)) 3))) 0 0 0 0 1 0 0 0 t_809 t_810 ht_810) <| ai (mark_Of.ok ([112] : List UInt8) 0 t_811 ht_811) <| ai (arena_Arena_Make.ok k (Int.tmod (w64 ((Int.tmod whose_2 4) + 4)) 4) 1 t_811 ([] : List UInt8) 0 t_810.2.2.1 t_810.2.2.2.1 t_810.2.2.2.2.1 t_810.2.2.2.2.2.1 t_810.2.2.2.2.2.2.1 t_810.2.2.2.2.2.2.2.1 t_810.2.2.2.2.2.2.2.2.1 t_810.2.2.2.2.2.2.2.2.2.1 t_810.2.2.2.2.2.2.2.2.2.2 t_812 ht_812) <| ai (bne_false c_813) <| ai rF <| ai (bne_false c_814) <| ai rF <| ai rF <| ai (dom_Insert.ok k 0 0 t_810.1 t_812.2.2.1 t_812.2.2.2.1 t_812.2.2.2.2.1 t_812.2.2.2.2.2.1 t_812.2.2.2.2.2.2.1 t_812.2.2.2.2.2.2.2.1 t_812.2.2.2.2.2.2.2.2.1 t_812.2.2.2.2.2.2.2.2.2.1 t_812.2.2.2.2.2.2.2.2.2.2 t_815 ht_815) <| ai rF <| (?_ : RunE Try.prog ⟨0, law26_CapsSees.rs, res, st⟩ (koOf law26_CapsSees.b .done [1, 1, 1, 1, 1, 1, 0, 1]) [(0, .one (.p (.int .i64 (w64 (1 + (Int.tmod (w64 ((Int.tmod owner_1 3) + 3)) 3)))))), (1, .one (.p (.int .i64 (Int.tmod (w64 ((Int.tmod whose_2 4) + 4)) 4)))), (2, .one (.p (.bool inside_3))), (3, .one (.p (.bool gone_4))), (9, .one (.ptr 0 0)), (10, .one (.p (.int .i64 t_810.1))), (12, .one (.p (.int .i64 t_812.1))), (64, .one (.p (.bool (t_815.1 != 0))))] [.box [.mp 1, .p (.int .i64 t_812.2.2.1), .p (.int .i64 t_812.2.2.2.1), .p (.int .i64 t_812.2.2.2.2.1), .p (.int .i64 t_812.2.2.2.2.2.1), .p (.int .i64 t_812.2.2.2.2.2.2.1), .p (.int .i64 t_812.2.2.2.2.2.2.2.1), .p (.int .i64 t_812.2.2.2.2.2.2.2.2.1), .p (.int .i64 t_812.2.2.2.2.2.2.2.2.2.1)], .map (enE en_arena_Node t_815.2)])) (by kernel_rfl)
        rcases ite_some h with ⟨c_816, h⟩ | ⟨c_816, h⟩
        · obtain rfl := Option.some.inj h
          exact pathE 436 [.b true, .i 4, .fin []] (ai (bne_iff_ne.2 c_816) <| hr) (by kernel_rfl)
        · obtain ⟨v_817, hv_817, h⟩ := bind_some h
          have j_8180 : RunE Try.prog ⟨0, law26_CapsSees.rs, res, st⟩ (koAfter law26_CapsSees.b [1, 1, 1, 1, 1, 1, 1, 1, 0, 1]) [(0, .one (.p (.int .i64 (w64 (1 + (Int.tmod (w64 ((Int.tmod owner_1 3) + 3)) 3)))))), (1, .one (.p (.int .i64 (Int.tmod (w64 ((Int.tmod whose_2 4) + 4)) 4)))), (2, .one (.p (.bool inside_3))), (3, .one (.p (.bool gone_4))), (9, .one (.ptr 0 0)), (10, .one (.p (.int .i64 t_810.1))), (12, .one (.p (.int .i64 t_812.1))), (14, .one (.p (.int .i64 v_817)))] [.box [.mp 1, .p (.int .i64 t_812.2.2.1), .p (.int .i64 t_812.2.2.2.1), .p (.int .i64 t_812.2.2.2.2.1), .p (.int .i64 t_812.2.2.2.2.2.1), .p (.int .i64 t_812.2.2.2.2.2.2.1), .p (.int .i64 t_812.2.2.2.2.2.2.2.1), .p (.int .i64 t_812.2.2.2.2.2.2.2.2.1), .p (.int .i64 t_812.2.2.2.2.2.2.2.2.2.1)], .map (enE en_arena_Node t_815.2)] := by
            obtain ⟨t_819, ht_819, h⟩ := bind_some h
            rcases ite_some h with ⟨c_820, h⟩ | ⟨c_820, h⟩
            · obtain rfl := Option.some.inj h
              exact pathE 448 [.call [0, 1] (dom_Insert.R v_817 0 t_812.1 t_812.2.2.1 t_812.2.2.2.1 t_812.2.2.2.2.1 t_812.2.2.2.2.2.1 t_812.2.2.2.2.2.2.1 t_812.2.2.2.2.2.2.2.1 t_812.2.2.2.2.2.2.2.2.1 t_812.2.2.2.2.2.2.2.2.2.1 t_815.2 t_819) (dom_Insert.S1 v_817 0 t_812.1 t_812.2.2.1 t_812.2.2.2.1 t_812.2.2.2.2.1 t_812.2.2.2.2.2.1 t_812.2.2.2.2.2.2.1 t_812.2.2.2.2.2.2.2.1 t_812.2.2.2.2.2.2.2.2.1 t_812.2.2.2.2.2.2.2.2.2.1 t_815.2 t_819), .b true, .i 4, .fin []] (ai (dom_Insert.ok k v_817 0 t_812.1 t_812.2.2.1 t_812.2.2.2.1 t_812.2.2.2.2.1 t_812.2.2.2.2.2.1 t_812.2.2.2.2.2.2.1 t_812.2.2.2.2.2.2.2.1 t_812.2.2.2.2.2.2.2.2.1 t_812.2.2.2.2.2.2.2.2.2.1 t_815.2 t_819 ht_819) <| ai (bne_iff_ne.2 c_820) <| hr) (by kernel_rfl)
            · obtain ⟨t_821, ht_821, h⟩ := bind_some h
              obtain ⟨t_822, ht_822, h⟩ := bind_some h
              obtain ⟨v_823, hv_823, h⟩ := bind_some h
              have j_8240 : RunE Try.prog ⟨0, law26_CapsSees.rs, res, st⟩ (koAfter law26_CapsSees.b [1, 1, 1, 1, 1, 1, 1, 1, 1, 1, 1, 1, 0, 1]) [(0, .one (.p (.int .i64 (w64 (1 + (Int.tmod (w64 ((Int.tmod owner_1 3) + 3)) 3)))))), (1, .one (.p (.int .i64 (Int.tmod (w64 ((Int.tmod whose_2 4) + 4)) 4)))), (2, .one (.p (.bool inside_3))), (3, .one (.p (.bool gone_4))), (9, .one (.ptr 0 0)), (10, .one (.p (.int .i64 t_810.1))), (12, .one (.p (.int .i64 t_812.1))), (15, .one (.ptr 1 0)), (16, .one (.p (.int .i64 t_822.1))), (17, .one (.p (.int .i64 t_822.2.1)))] [.box [.mp 2, .p (.int .i64 t_812.2.2.1), .p (.int .i64 t_812.2.2.2.1), .p (.int .i64 t_812.2.2.2.2.1), .p (.int .i64 t_812.2.2.2.2.2.1), .p (.int .i64 v_823.1), .p (.int .i64 v_823.2.1), .p (.int .i64 v_823.2.2.1), .p (.int .i64 v_823.2.2.2.1)], .box [.p (.int .i64 (w64 (1 + (Int.tmod (w64 ((Int.tmod owner_1 3) + 3)) 3)))), .own 3 1 0 t_822.2.2.length], .map (enE en_arena_Node v_823.2.2.2.2), .row 3 1 t_822.2.2.length (t_822.2.2.map en_i64)] := by
                obtain ⟨t_825, ht_825, h⟩ := bind_some h
                obtain ⟨t_826, ht_826, h⟩ := bind_some h
                obtain ⟨t_827, ht_827, h⟩ := bind_some h
                obtain ⟨t_828, ht_828, h⟩ := bind_some h
                rcases ite_some h with ⟨c_829, h⟩ | ⟨c_829, h⟩
                · obtain rfl := Option.some.inj h
                  exact pathE 580 [.call [1, 0, 2, 3] (caps_Table_Sees.R t_822.1 (w64 (1 + (Int.tmod (w64 ((Int.tmod owner_1 3) + 3)) 3))) t_812.2.2.1 t_812.2.2.2.1 t_812.2.2.2.2.1 t_812.2.2.2.2.2.1 v_823.1 v_823.2.1 v_823.2.2.1 v_823.2.2.2.1 v_823.2.2.2.2 t_822.2.2 t_825) (caps_Table_Sees.S1 t_822.1 (w64 (1 + (Int.tmod (w64 ((Int.tmod owner_1 3) + 3)) 3))) t_812.2.2.1 t_812.2.2.2.1 t_812.2.2.2.2.1 t_812.2.2.2.2.2.1 v_823.1 v_823.2.1 v_823.2.2.1 v_823.2.2.2.1 v_823.2.2.2.2 t_822.2.2 t_825), .call [1, 0, 2, 3] (caps_Table_Owns.R t_822.1 (w64 (1 + (Int.tmod (w64 ((Int.tmod owner_1 3) + 3)) 3))) t_812.2.2.1 t_812.2.2.2.1 t_812.2.2.2.2.1 t_812.2.2.2.2.2.1 v_823.1 v_823.2.1 v_823.2.2.1 v_823.2.2.2.1 v_823.2.2.2.2 t_822.2.2 t_826) (caps_Table_Owns.S1 t_822.1 (w64 (1 + (Int.tmod (w64 ((Int.tmod owner_1 3) + 3)) 3))) t_812.2.2.1 t_812.2.2.2.1 t_812.2.2.2.2.1 t_812.2.2.2.2.2.1 v_823.1 v_823.2.1 v_823.2.2.1 v_823.2.2.2.1 v_823.2.2.2.2 t_822.2.2 t_826), .call [1, 0, 2, 3] (caps_Table_Owns.R 1 (w64 (1 + (Int.tmod (w64 ((Int.tmod owner_1 3) + 3)) 3))) t_812.2.2.1 t_812.2.2.2.1 t_812.2.2.2.2.1 t_812.2.2.2.2.2.1 v_823.1 v_823.2.1 v_823.2.2.1 v_823.2.2.2.1 v_823.2.2.2.2 t_822.2.2 t_827) (caps_Table_Owns.S1 1 (w64 (1 + (Int.tmod (w64 ((Int.tmod owner_1 3) + 3)) 3))) t_812.2.2.1 t_812.2.2.2.1 t_812.2.2.2.2.1 t_812.2.2.2.2.2.1 v_823.1 v_823.2.1 v_823.2.2.1 v_823.2.2.2.1 v_823.2.2.2.2 t_822.2.2 t_827), .call [1, 0, 2, 3] (caps_Table_Sees.R 1 (w64 (1 + (Int.tmod (w64 ((Int.tmod owner_1 3) + 3)) 3))) t_812.2.2.1 t_812.2.2.2.1 t_812.2.2.2.2.1 t_812.2.2.2.2.2.1 v_823.1 v_823.2.1 v_823.2.2.1 v_823.2.2.2.1 v_823.2.2.2.2 t_822.2.2 t_828) (caps_Table_Sees.S1 1 (w64 (1 + (Int.tmod (w64 ((Int.tmod owner_1 3) + 3)) 3))) t_812.2.2.1 t_812.2.2.2.1 t_812.2.2.2.2.1 t_812.2.2.2.2.2.1 v_823.1 v_823.2.1 v_823.2.2.1 v_823.2.2.2.1 v_823.2.2.2.2 t_822.2.2 t_828), .b true, .b true, .b true, .b true, .b true, .b true, .b true, .b true, .b true, .i 4, .fin []] (ai (caps_Table_Sees.ok k t_822.1 (w64 (1 + (Int.tmod (w64 ((Int.tmod owner_1 3) + 3)) 3))) t_812.2.2.1 t_812.2.2.2.1 t_812.2.2.2.2.1 t_812.2.2.2.2.2.1 v_823.1 v_823.2.1 v_823.2.2.1 v_823.2.2.2.1 v_823.2.2.2.2 t_822.2.2 t_825 ht_825) <| ai (caps_Table_Owns.ok k t_822.1 (w64 (1 + (Int.tmod (w64 ((Int.tmod owner_1 3) + 3)) 3))) t_812.2.2.1 t_812.2.2.2.1 t_812.2.2.2.2.1 t_812.2.2.2.2.2.1 v_823.1 v_823.2.1 v_823.2.2.1 v_823.2.2.2.1 v_823.2.2.2.2 t_822.2.2 t_826 ht_826) <| ai (caps_Table_Owns.ok k 1 (w64 (1 + (Int.tmod (w64 ((Int.tmod owner_1 3) + 3)) 3))) t_812.2.2.1 t_812.2.2.2.1 t_812.2.2.2.2.1 t_812.2.2.2.2.2.1 v_823.1 v_823.2.1 v_823.2.2.1 v_823.2.2.2.1 v_823.2.2.2.2 t_822.2.2 t_827 ht_827) <| ai (caps_Table_Sees.ok k 1 (w64 (1 + (Int.tmod (w64 ((Int.tmod owner_1 3) + 3)) 3))) t_812.2.2.1 t_812.2.2.2.1 t_812.2.2.2.2.1 t_812.2.2.2.2.2.1 v_823.1 v_823.2.1 v_823.2.2.1 v_823.2.2.2.1 v_823.2.2.2.2 t_822.2.2 t_828 ht_828) <| ai (bne_iff_ne.2 c_829) <| ai rT <| ai rT <| ai rT <| ai rT <| ai rT <| ai rT <| ai rT <| ai rT <| hr) (by kernel_rfl)
                · rcases ite_some h with ⟨c_830, h⟩ | ⟨c_830, h⟩
                  · obtain rfl := Option.some.inj h
                    exact pathE 580 [.call [1, 0, 2, 3] (caps_Table_Sees.R t_822.1 (w64 (1 + (Int.tmod (w64 ((Int.tmod owner_1 3) + 3)) 3))) t_812.2.2.1 t_812.2.2.2.1 t_812.2.2.2.2.1 t_812.2.2.2.2.2.1 v_823.1 v_823.2.1 v_823.2.2.1 v_823.2.2.2.1 v_823.2.2.2.2 t_822.2.2 t_825) (caps_Table_Sees.S1 t_822.1 (w64 (1 + (Int.tmod (w64 ((Int.tmod owner_1 3) + 3)) 3))) t_812.2.2.1 t_812.2.2.2.1 t_812.2.2.2.2.1 t_812.2.2.2.2.2.1 v_823.1 v_823.2.1 v_823.2.2.1 v_823.2.2.2.1 v_823.2.2.2.2 t_822.2.2 t_825), .call [1, 0, 2, 3] (caps_Table_Owns.R t_822.1 (w64 (1 + (Int.tmod (w64 ((Int.tmod owner_1 3) + 3)) 3))) t_812.2.2.1 t_812.2.2.2.1 t_812.2.2.2.2.1 t_812.2.2.2.2.2.1 v_823.1 v_823.2.1 v_823.2.2.1 v_823.2.2.2.1 v_823.2.2.2.2 t_822.2.2 t_826) (caps_Table_Owns.S1 t_822.1 (w64 (1 + (Int.tmod (w64 ((Int.tmod owner_1 3) + 3)) 3))) t_812.2.2.1 t_812.2.2.2.1 t_812.2.2.2.2.1 t_812.2.2.2.2.2.1 v_823.1 v_823.2.1 v_823.2.2.1 v_823.2.2.2.1 v_823.2.2.2.2 t_822.2.2 t_826), .call [1, 0, 2, 3] (caps_Table_Owns.R 1 (w64 (1 + (Int.tmod (w64 ((Int.tmod owner_1 3) + 3)) 3))) t_812.2.2.1 t_812.2.2.2.1 t_812.2.2.2.2.1 t_812.2.2.2.2.2.1 v_823.1 v_823.2.1 v_823.2.2.1 v_823.2.2.2.1 v_823.2.2.2.2 t_822.2.2 t_827) (caps_Table_Owns.S1 1 (w64 (1 + (Int.tmod (w64 ((Int.tmod owner_1 3) + 3)) 3))) t_812.2.2.1 t_812.2.2.2.1 t_812.2.2.2.2.1 t_812.2.2.2.2.2.1 v_823.1 v_823.2.1 v_823.2.2.1 v_823.2.2.2.1 v_823.2.2.2.2 t_822.2.2 t_827), .call [1, 0, 2, 3] (caps_Table_Sees.R 1 (w64 (1 + (Int.tmod (w64 ((Int.tmod owner_1 3) + 3)) 3))) t_812.2.2.1 t_812.2.2.2.1 t_812.2.2.2.2.1 t_812.2.2.2.2.2.1 v_823.1 v_823.2.1 v_823.2.2.1 v_823.2.2.2.1 v_823.2.2.2.2 t_822.2.2 t_828) (caps_Table_Sees.S1 1 (w64 (1 + (Int.tmod (w64 ((Int.tmod owner_1 3) + 3)) 3))) t_812.2.2.1 t_812.2.2.2.1 t_812.2.2.2.2.1 t_812.2.2.2.2.2.1 v_823.1 v_823.2.1 v_823.2.2.1 v_823.2.2.2.1 v_823.2.2.2.2 t_822.2.2 t_828), .b false, .b false, .b true, .b true, .b true, .b true, .b true, .b true, .b true, .i 4, .fin []] (ai (caps_Table_Sees.ok k t_822.1 (w64 (1 + (Int.tmod (w64 ((Int.tmod owner_1 3) + 3)) 3))) t_812.2.2.1 t_812.2.2.2.1 t_812.2.2.2.2.1 t_812.2.2.2.2.2.1 v_823.1 v_823.2.1 v_823.2.2.1 v_823.2.2.2.1 v_823.2.2.2.2 t_822.2.2 t_825 ht_825) <| ai (caps_Table_Owns.ok k t_822.1 (w64 (1 + (Int.tmod (w64 ((Int.tmod owner_1 3) + 3)) 3))) t_812.2.2.1 t_812.2.2.2.1 t_812.2.2.2.2.1 t_812.2.2.2.2.2.1 v_823.1 v_823.2.1 v_823.2.2.1 v_823.2.2.2.1 v_823.2.2.2.2 t_822.2.2 t_826 ht_826) <| ai (caps_Table_Owns.ok k 1 (w64 (1 + (Int.tmod (w64 ((Int.tmod owner_1 3) + 3)) 3))) t_812.2.2.1 t_812.2.2.2.1 t_812.2.2.2.2.1 t_812.2.2.2.2.2.1 v_823.1 v_823.2.1 v_823.2.2.1 v_823.2.2.2.1 v_823.2.2.2.2 t_822.2.2 t_827 ht_827) <| ai (caps_Table_Sees.ok k 1 (w64 (1 + (Int.tmod (w64 ((Int.tmod owner_1 3) + 3)) 3))) t_812.2.2.1 t_812.2.2.2.1 t_812.2.2.2.2.1 t_812.2.2.2.2.2.1 v_823.1 v_823.2.1 v_823.2.2.1 v_823.2.2.2.1 v_823.2.2.2.2 t_822.2.2 t_828 ht_828) <| ai (bne_false c_829) <| ai rF <| ai (bne_iff_ne.2 c_830) <| ai rT <| ai rT <| ai rT <| ai rT <| ai rT <| ai rT <| hr) (by kernel_rfl)
                  · rcases ite_some h with ⟨c_831, h⟩ | ⟨c_831, h⟩
                    · obtain rfl := Option.some.inj h
                      exact pathE 580 [.call [1, 0, 2, 3] (caps_Table_Sees.R t_822.1 (w64 (1 + (Int.tmod (w64 ((Int.tmod owner_1 3) + 3)) 3))) t_812.2.2.1 t_812.2.2.2.1 t_812.2.2.2.2.1 t_812.2.2.2.2.2.1 v_823.1 v_823.2.1 v_823.2.2.1 v_823.2.2.2.1 v_823.2.2.2.2 t_822.2.2 t_825) (caps_Table_Sees.S1 t_822.1 (w64 (1 + (Int.tmod (w64 ((Int.tmod owner_1 3) + 3)) 3))) t_812.2.2.1 t_812.2.2.2.1 t_812.2.2.2.2.1 t_812.2.2.2.2.2.1 v_823.1 v_823.2.1 v_823.2.2.1 v_823.2.2.2.1 v_823.2.2.2.2 t_822.2.2 t_825), .call [1, 0, 2, 3] (caps_Table_Owns.R t_822.1 (w64 (1 + (Int.tmod (w64 ((Int.tmod owner_1 3) + 3)) 3))) t_812.2.2.1 t_812.2.2.2.1 t_812.2.2.2.2.1 t_812.2.2.2.2.2.1 v_823.1 v_823.2.1 v_823.2.2.1 v_823.2.2.2.1 v_823.2.2.2.2 t_822.2.2 t_826) (caps_Table_Owns.S1 t_822.1 (w64 (1 + (Int.tmod (w64 ((Int.tmod owner_1 3) + 3)) 3))) t_812.2.2.1 t_812.2.2.2.1 t_812.2.2.2.2.1 t_812.2.2.2.2.2.1 v_823.1 v_823.2.1 v_823.2.2.1 v_823.2.2.2.1 v_823.2.2.2.2 t_822.2.2 t_826), .call [1, 0, 2, 3] (caps_Table_Owns.R 1 (w64 (1 + (Int.tmod (w64 ((Int.tmod owner_1 3) + 3)) 3))) t_812.2.2.1 t_812.2.2.2.1 t_812.2.2.2.2.1 t_812.2.2.2.2.2.1 v_823.1 v_823.2.1 v_823.2.2.1 v_823.2.2.2.1 v_823.2.2.2.2 t_822.2.2 t_827) (caps_Table_Owns.S1 1 (w64 (1 + (Int.tmod (w64 ((Int.tmod owner_1 3) + 3)) 3))) t_812.2.2.1 t_812.2.2.2.1 t_812.2.2.2.2.1 t_812.2.2.2.2.2.1 v_823.1 v_823.2.1 v_823.2.2.1 v_823.2.2.2.1 v_823.2.2.2.2 t_822.2.2 t_827), .call [1, 0, 2, 3] (caps_Table_Sees.R 1 (w64 (1 + (Int.tmod (w64 ((Int.tmod owner_1 3) + 3)) 3))) t_812.2.2.1 t_812.2.2.2.1 t_812.2.2.2.2.1 t_812.2.2.2.2.2.1 v_823.1 v_823.2.1 v_823.2.2.1 v_823.2.2.2.1 v_823.2.2.2.2 t_822.2.2 t_828) (caps_Table_Sees.S1 1 (w64 (1 + (Int.tmod (w64 ((Int.tmod owner_1 3) + 3)) 3))) t_812.2.2.1 t_812.2.2.2.1 t_812.2.2.2.2.1 t_812.2.2.2.2.2.1 v_823.1 v_823.2.1 v_823.2.2.1 v_823.2.2.2.1 v_823.2.2.2.2 t_822.2.2 t_828), .b false, .b false, .b false, .b false, .b true, .b true, .b true, .b true, .b true, .i 4, .fin []] (ai (caps_Table_Sees.ok k t_822.1 (w64 (1 + (Int.tmod (w64 ((Int.tmod owner_1 3) + 3)) 3))) t_812.2.2.1 t_812.2.2.2.1 t_812.2.2.2.2.1 t_812.2.2.2.2.2.1 v_823.1 v_823.2.1 v_823.2.2.1 v_823.2.2.2.1 v_823.2.2.2.2 t_822.2.2 t_825 ht_825) <| ai (caps_Table_Owns.ok k t_822.1 (w64 (1 + (Int.tmod (w64 ((Int.tmod owner_1 3) + 3)) 3))) t_812.2.2.1 t_812.2.2.2.1 t_812.2.2.2.2.1 t_812.2.2.2.2.2.1 v_823.1 v_823.2.1 v_823.2.2.1 v_823.2.2.2.1 v_823.2.2.2.2 t_822.2.2 t_826 ht_826) <| ai (caps_Table_Owns.ok k 1 (w64 (1 + (Int.tmod (w64 ((Int.tmod owner_1 3) + 3)) 3))) t_812.2.2.1 t_812.2.2.2.1 t_812.2.2.2.2.1 t_812.2.2.2.2.2.1 v_823.1 v_823.2.1 v_823.2.2.1 v_823.2.2.2.1 v_823.2.2.2.2 t_822.2.2 t_827 ht_827) <| ai (caps_Table_Sees.ok k 1 (w64 (1 + (Int.tmod (w64 ((Int.tmod owner_1 3) + 3)) 3))) t_812.2.2.1 t_812.2.2.2.1 t_812.2.2.2.2.1 t_812.2.2.2.2.2.1 v_823.1 v_823.2.1 v_823.2.2.1 v_823.2.2.2.1 v_823.2.2.2.2 t_822.2.2 t_828 ht_828) <| ai (bne_false c_829) <| ai rF <| ai (bne_false c_830) <| ai rF <| ai (bne_iff_ne.2 c_831) <| ai rT <| ai rT <| ai rT <| ai rT <| hr) (by kernel_rfl)
                    · refine pathE 592 [.call [1, 0, 2, 3] (caps_Table_Sees.R t_822.1 (w64 (1 + (Int.tmod (w64 ((Int.tmod owner_1 3) + 3)) 3))) t_812.2.2.1 t_812.2.2.2.1 t_812.2.2.2.2.1 t_812.2.2.2.2.2.1 v_823.1 v_823.2.1 v_823.2.2.1 v_823.2.2.2.1 v_823.2.2.2.2 t_822.2.2 t_825) (caps_Table_Sees.S1 t_822.1 (w64 (1 + (Int.tmod (w64 ((Int.tmod owner_1 3) + 3)) 3))) t_812.2.2.1 t_812.2.2.2.1 t_812.2.2.2.2.1 t_812.2.2.2.2.2.1 v_823.1 v_823.2.1 v_823.2.2.1 v_823.2.2.2.1 v_823.2.2.2.2 t_822.2.2 t_825), .call [1, 0, 2, 3] (caps_Table_Owns.R t_822.1 (w64 (1 + (Int.tmod (w64 ((Int.tmod owner_1 3) + 3)) 3))) t_812.2.2.1 t_812.2.2.2.1 t_812.2.2.2.2.1 t_812.2.2.2.2.2.1 v_823.1 v_823.2.1 v_823.2.2.1 v_823.2.2.2.1 v_823.2.2.2.2 t_822.2.2 t_826) (caps_Table_Owns.S1 t_822.1 (w64 (1 + (Int.tmod (w64 ((Int.tmod owner_1 3) + 3)) 3))) t_812.2.2.1 t_812.2.2.2.1 t_812.2.2.2.2.1 t_812.2.2.2.2.2.1 v_823.1 v_823.2.1 v_823.2.2.1 v_823.2.2.2.1 v_823.2.2.2.2 t_822.2.2 t_826), .call [1, 0, 2, 3] (caps_Table_Owns.R 1 (w64 (1 + (Int.tmod (w64 ((Int.tmod owner_1 3) + 3)) 3))) t_812.2.2.1 t_812.2.2.2.1 t_812.2.2.2.2.1 t_812.2.2.2.2.2.1 v_823.1 v_823.2.1 v_823.2.2.1 v_823.2.2.2.1 v_823.2.2.2.2 t_822.2.2 t_827) (caps_Table_Owns.S1 1 (w64 (1 + (Int.tmod (w64 ((Int.tmod owner_1 3) + 3)) 3))) t_812.2.2.1 t_812.2.2.2.1 t_812.2.2.2.2.1 t_812.2.2.2.2.2.1 v_823.1 v_823.2.1 v_823.2.2.1 v_823.2.2.2.1 v_823.2.2.2.2 t_822.2.2 t_827), .call [1, 0, 2, 3] (caps_Table_Sees.R 1 (w64 (1 + (Int.tmod (w64 ((Int.tmod owner_1 3) + 3)) 3))) t_812.2.2.1 t_812.2.2.2.1 t_812.2.2.2.2.1 t_812.2.2.2.2.2.1 v_823.1 v_823.2.1 v_823.2.2.1 v_823.2.2.2.1 v_823.2.2.2.2 t_822.2.2 t_828) (caps_Table_Sees.S1 1 (w64 (1 + (Int.tmod (w64 ((Int.tmod owner_1 3) + 3)) 3))) t_812.2.2.1 t_812.2.2.2.1 t_812.2.2.2.2.1 t_812.2.2.2.2.2.1 v_823.1 v_823.2.1 v_823.2.2.1 v_823.2.2.2.1 v_823.2.2.2.2 t_822.2.2 t_828), .b false, .b false, .b false, .b false, .b false, .b false, .b false, .b false, .i 2, .gc [4, 5], .keep [0, 1, 2, 3, 12, 18, 19, 20, 21, 126], .stop] (ai (caps_Table_Sees.ok k t_822.1 (w64 (1 + (Int.tmod (w64 ((Int.tmod owner_1 3) + 3)) 3))) t_812.2.2.1 t_812.2.2.2.1 t_812.2.2.2.2.1 t_812.2.2.2.2.2.1 v_823.1 v_823.2.1 v_823.2.2.1 v_823.2.2.2.1 v_823.2.2.2.2 t_822.2.2 t_825 ht_825) <| ai (caps_Table_Owns.ok k t_822.1 (w64 (1 + (Int.tmod (w64 ((Int.tmod owner_1 3) + 3)) 3))) t_812.2.2.1 t_812.2.2.2.1 t_812.2.2.2.2.1 t_812.2.2.2.2.2.1 v_823.1 v_823.2.1 v_823.2.2.1 v_823.2.2.2.1 v_823.2.2.2.2 t_822.2.2 t_826 ht_826) <| ai (caps_Table_Owns.ok k 1 (w64 (1 + (Int.tmod (w64 ((Int.tmod owner_1 3) + 3)) 3))) t_812.2.2.1 t_812.2.2.2.1 t_812.2.2.2.2.1 t_812.2.2.2.2.2.1 v_823.1 v_823.2.1 v_823.2.2.1 v_823.2.2.2.1 v_823.2.2.2.2 t_822.2.2 t_827 ht_827) <| ai (caps_Table_Sees.ok k 1 (w64 (1 + (Int.tmod (w64 ((Int.tmod owner_1 3) + 3)) 3))) t_812.2.2.1 t_812.2.2.2.1 t_812.2.2.2.2.1 t_812.2.2.2.2.2.1 v_823.1 v_823.2.1 v_823.2.2.1 v_823.2.2.2.1 v_823.2.2.2.2 t_822.2.2 t_828 ht_828) <| ai (bne_false c_829) <| ai rF <| ai (bne_false c_830) <| ai rF <| ai (bne_false c_831) <| ai rF <| ai rF <| ai rF <| (?_ : RunE Try.prog ⟨0, law26_CapsSees.rs, res, st⟩ (koOf law26_CapsSees.b .done [1, 1, 1, 1, 1, 1, 1, 1, 1, 1, 1, 1, 1, 1, 1, 1, 1, 0, 1]) [(0, .one (.p (.int .i64 (w64 (1 + (Int.tmod (w64 ((Int.tmod owner_1 3) + 3)) 3)))))), (1, .one (.p (.int .i64 (Int.tmod (w64 ((Int.tmod whose_2 4) + 4)) 4)))), (2, .one (.p (.bool inside_3))), (3, .one (.p (.bool gone_4))), (12, .one (.p (.int .i64 t_812.1))), (18, .one (.ptr 0 0)), (19, .one (.p (.int .i64 t_825.2))), (20, .one (.ptr 1 0)), (21, .one (.p (.int .i64 t_826.2))), (126, .one (.p (.bool (t_828.1.Id != t_810.1))))] [.box [.p (.int .i64 t_825.1.Id), .p (.int .i64 t_825.1.Owner), .p (.int .i64 t_825.1.Parent), .p (.int .i64 t_825.1.Kind), .p (.str t_825.1.Tag.Text), .p (.sl 2 (t_825.1.Tag.Runs.map en_api_Run)), .p (.str t_825.1.Key), .p (.int .i64 t_825.1.Slot), .p (.sl 4 (t_825.1.Attrs.map en_api_Attr)), .p (.sl 3 (t_825.1.Hooks.map en_api_Hook)), .p (.sl 1 (t_825.1.Kids.map en_i64)), .p (.str t_825.1.Text.Text), .p (.sl 2 (t_825.1.Text.Runs.map en_api_Run))], .box [.p (.int .i64 t_826.1.Id), .p (.int .i64 t_826.1.Owner), .p (.int .i64 t_826.1.Parent), .p (.int .i64 t_826.1.Kind), .p (.str t_826.1.Tag.Text), .p (.sl 2 (t_826.1.Tag.Runs.map en_api_Run)), .p (.str t_826.1.Key), .p (.int .i64 t_826.1.Slot), .p (.sl 4 (t_826.1.Attrs.map en_api_Attr)), .p (.sl 3 (t_826.1.Hooks.map en_api_Hook)), .p (.sl 1 (t_826.1.Kids.map en_i64)), .p (.str t_826.1.Text.Text), .p (.sl 2 (t_826.1.Text.Runs.map en_api_Run))]])) (by kernel_rfl)
                      rcases ite_some h with ⟨c_832, h⟩ | ⟨c_832, h⟩
                      · obtain rfl := Option.some.inj h
                        exact pathE 436 [.b true, .i 4, .fin []] (ai (bne_iff_ne.2 c_832) <| hr) (by kernel_rfl)
                      · obtain ⟨v_833, hv_833, h⟩ := bind_some h
                        have j_8340 : RunE Try.prog ⟨0, law26_CapsSees.rs, res, st⟩ (koAfter law26_CapsSees.b [1, 1, 1, 1, 1, 1, 1, 1, 1, 1, 1, 1, 1, 1, 1, 1, 1, 1, 1, 0]) [(12, .one (.p (.int .i64 t_812.1))), (18, .one (.ptr 0 0)), (19, .one (.p (.int .i64 t_825.2))), (20, .one (.ptr 1 0)), (21, .one (.p (.int .i64 t_826.2))), (26, .one (.p (.int .i64 v_833)))] [.box [.p (.int .i64 t_825.1.Id), .p (.int .i64 t_825.1.Owner), .p (.int .i64 t_825.1.Parent), .p (.int .i64 t_825.1.Kind), .p (.str t_825.1.Tag.Text), .p (.sl 2 (t_825.1.Tag.Runs.map en_api_Run)), .p (.str t_825.1.Key), .p (.int .i64 t_825.1.Slot), .p (.sl 4 (t_825.1.Attrs.map en_api_Attr)), .p (.sl 3 (t_825.1.Hooks.map en_api_Hook)), .p (.sl 1 (t_825.1.Kids.map en_i64)), .p (.str t_825.1.Text.Text), .p (.sl 2 (t_825.1.Text.Runs.map en_api_Run))], .box [.p (.int .i64 t_826.1.Id), .p (.int .i64 t_826.1.Owner), .p (.int .i64 t_826.1.Parent), .p (.int .i64 t_826.1.Kind), .p (.str t_826.1.Tag.Text), .p (.sl 2 (t_826.1.Tag.Runs.map en_api_Run)), .p (.str t_826.1.Key), .p (.int .i64 t_826.1.Slot), .p (.sl 4 (t_826.1.Attrs.map en_api_Attr)), .p (.sl 3 (t_826.1.Hooks.map en_api_Hook)), .p (.sl 1 (t_826.1.Kids.map en_i64)), .p (.str t_826.1.Text.Text), .p (.sl 2 (t_826.1.Text.Runs.map en_api_Run))]] := by
                          rcases ite_some h with ⟨c_835, h⟩ | ⟨c_835, h⟩
                          · obtain rfl := Option.some.inj h
                            exact pathE 472 [.b true, .b true, .b true, .b true, .i 4, .fin []] (ai (bne_iff_ne.2 c_835) <| ai rT <| ai rT <| ai rT <| hr) (by kernel_rfl)
                          · refine pathE 472 [.b false, .b false, .b false, .i 2, .keep [12, 18, 20, 26, 144], .stop] (ai (bne_false c_835) <| ai rF <| ai rF <| (?_ : RunE Try.prog ⟨0, law26_CapsSees.rs, res, st⟩ (koOf law26_CapsSees.b .done [1, 1, 1, 1, 1, 1, 1, 1, 1, 1, 1, 1, 1, 1, 1, 1, 1, 1, 1, 1, 0, 1]) [(12, .one (.p (.int .i64 t_812.1))), (18, .one (.ptr 0 0)), (20, .one (.ptr 1 0)), (26, .one (.p (.int .i64 v_833))), (144, .one (.p (.bool (t_826.2 != v_833))))] [.box [.p (.int .i64 t_825.1.Id), .p (.int .i64 t_825.1.Owner), .p (.int .i64 t_825.1.Parent), .p (.int .i64 t_825.1.Kind), .p (.str t_825.1.Tag.Text), .p (.sl 2 (t_825.1.Tag.Runs.map en_api_Run)), .p (.str t_825.1.Key), .p (.int .i64 t_825.1.Slot), .p (.sl 4 (t_825.1.Attrs.map en_api_Attr)), .p (.sl 3 (t_825.1.Hooks.map en_api_Hook)), .p (.sl 1 (t_825.1.Kids.map en_i64)), .p (.str t_825.1.Text.Text), .p (.sl 2 (t_825.1.Text.Runs.map en_api_Run))], .box [.p (.int .i64 t_826.1.Id), .p (.int .i64 t_826.1.Owner), .p (.int .i64 t_826.1.Parent), .p (.int .i64 t_826.1.Kind), .p (.str t_826.1.Tag.Text), .p (.sl 2 (t_826.1.Tag.Runs.map en_api_Run)), .p (.str t_826.1.Key), .p (.int .i64 t_826.1.Slot), .p (.sl 4 (t_826.1.Attrs.map en_api_Attr)), .p (.sl 3 (t_826.1.Hooks.map en_api_Hook)), .p (.sl 1 (t_826.1.Kids.map en_i64)), .p (.str t_826.1.Text.Text), .p (.sl 2 (t_826.1.Text.Runs.map en_api_Run))]])) (by kernel_rfl)
                            rcases ite_some h with ⟨c_836, h⟩ | ⟨c_836, h⟩
                            · obtain rfl := Option.some.inj h
                              exact pathE 436 [.b true, .i 4, .fin []] (ai (bne_iff_ne.2 c_836) <| hr) (by kernel_rfl)
                            · rcases ite_some h with ⟨c_837, h⟩ | ⟨c_837, h⟩
                              · rcases ite_some h with ⟨c_838, h⟩ | ⟨c_838, h⟩
                                · rcases ite_some h with ⟨c_839, h⟩ | ⟨c_839, h⟩
                                  · obtain rfl := Option.some.inj h
                                    exact pathE 580 [.b false, .b true, .b true, .b true, .b true, .b true, .b true, .b true, .b true, .b true, .b true, .b true, .b true, .i 3, .fin []] (ai (bne_false c_836) <| ai (bne_iff_ne.2 c_837) <| ai rT <| ai rT <| ai (beq_iff_eq.2 c_838) <| ai rT <| ai rT <| ai (beq_iff_eq.2 c_839) <| ai rT <| ai rT <| ai rT <| ai rT <| ai rT <| hr) (by kernel_rfl)
                                  · rcases ite_some h with ⟨c_840, h⟩ | ⟨c_840, h⟩
                                    · rcases ite_some h with ⟨c_841, h⟩ | ⟨c_841, h⟩
                                      · obtain rfl := Option.some.inj h
                                        exact pathE 676 [.b false, .b true, .b true, .b true, .b true, .b true, .b true, .b false, .b false, .b false, .b true, .b true, .b true, .b true, .b false, .b false, .b true, .b true, .b true, .b true, .b false, .i 3, .fin []] (ai (bne_false c_836) <| ai (bne_iff_ne.2 c_837) <| ai rT <| ai rT <| ai (beq_iff_eq.2 c_838) <| ai rT <| ai rT <| ai (beq_eq_false_iff_ne.2 c_839) <| ai rF <| ai rF <| ai (beq_iff_eq.2 c_840) <| ai rT <| ai rT <| ai rT <| ai rF <| ai rF <| ai (beq_iff_eq.2 c_841) <| ai rT <| ai rT <| ai rT <| ai rF <| hr) (by kernel_rfl)
                                      · obtain rfl := Option.some.inj h
                                        exact pathE 676 [.b false, .b true, .b true, .b true, .b true, .b true, .b true, .b false, .b false, .b false, .b true, .b true, .b true, .b true, .b false, .b false, .b false, .b false, .b false, .b false, .b false, .i 3, .fin []] (ai (bne_false c_836) <| ai (bne_iff_ne.2 c_837) <| ai rT <| ai rT <| ai (beq_iff_eq.2 c_838) <| ai rT <| ai rT <| ai (beq_eq_false_iff_ne.2 c_839) <| ai rF <| ai rF <| ai (beq_iff_eq.2 c_840) <| ai rT <| ai rT <| ai rT <| ai rF <| ai rF <| ai (beq_eq_false_iff_ne.2 c_841) <| ai rF <| ai rF <| ai rF <| ai rF <| hr) (by kernel_rfl)
                                    · obtain rfl := Option.some.inj h
                                      exact pathE 676 [.b false, .b true, .b true, .b true, .b true, .b true, .b true, .b false, .b false, .b false, .b false, .b false, .b false, .b false, .b false, .b false, .b false, .b false, .b false, .b false, .b false, .i 3, .fin []] (ai (bne_false c_836) <| ai (bne_iff_ne.2 c_837) <| ai rT <| ai rT <| ai (beq_iff_eq.2 c_838) <| ai rT <| ai rT <| ai (beq_eq_false_iff_ne.2 c_839) <| ai rF <| ai rF <| ai (beq_eq_false_iff_ne.2 c_840) <| ai rF <| ai rF <| ai rF <| ai rF <| ai rF <| ai rF <| ai rF <| ai rF <| ai rF <| ai rF <| hr) (by kernel_rfl)
                                · rcases ite_some h with ⟨c_842, h⟩ | ⟨c_842, h⟩
                                  · rcases ite_some h with ⟨c_843, h⟩ | ⟨c_843, h⟩
                                    · obtain rfl := Option.some.inj h
                                      exact pathE 676 [.b false, .b true, .b true, .b true, .b false, .b false, .b false, .b false, .b false, .b false, .b true, .b true, .b true, .b true, .b false, .b false, .b true, .b true, .b true, .b true, .b false, .i 3, .fin []] (ai (bne_false c_836) <| ai (bne_iff_ne.2 c_837) <| ai rT <| ai rT <| ai (beq_eq_false_iff_ne.2 c_838) <| ai rF <| ai rF <| ai rF <| ai rF <| ai rF <| ai (beq_iff_eq.2 c_842) <| ai rT <| ai rT <| ai rT <| ai rF <| ai rF <| ai (beq_iff_eq.2 c_843) <| ai rT <| ai rT <| ai rT <| ai rF <| hr) (by kernel_rfl)
                                    · obtain rfl := Option.some.inj h
                                      exact pathE 676 [.b false, .b true, .b true, .b true, .b false, .b false, .b false, .b false, .b false, .b false, .b true, .b true, .b true, .b true, .b false, .b false, .b false, .b false, .b false, .b false, .b false, .i 3, .fin []] (ai (bne_false c_836) <| ai (bne_iff_ne.2 c_837) <| ai rT <| ai rT <| ai (beq_eq_false_iff_ne.2 c_838) <| ai rF <| ai rF <| ai rF <| ai rF <| ai rF <| ai (beq_iff_eq.2 c_842) <| ai rT <| ai rT <| ai rT <| ai rF <| ai rF <| ai (beq_eq_false_iff_ne.2 c_843) <| ai rF <| ai rF <| ai rF <| ai rF <| hr) (by kernel_rfl)
                                  · obtain rfl := Option.some.inj h
                                    exact pathE 676 [.b false, .b true, .b true, .b true, .b false, .b false, .b false, .b false, .b false, .b false, .b false, .b false, .b false, .b false, .b false, .b false, .b false, .b false, .b false, .b false, .b false, .i 3, .fin []] (ai (bne_false c_836) <| ai (bne_iff_ne.2 c_837) <| ai rT <| ai rT <| ai (beq_eq_false_iff_ne.2 c_838) <| ai rF <| ai rF <| ai rF <| ai rF <| ai rF <| ai (beq_eq_false_iff_ne.2 c_842) <| ai rF <| ai rF <| ai rF <| ai rF <| ai rF <| ai rF <| ai rF <| ai rF <| ai rF <| ai rF <| hr) (by kernel_rfl)
                              · rcases ite_some h with ⟨c_844, h⟩ | ⟨c_844, h⟩
                                · rcases ite_some h with ⟨c_845, h⟩ | ⟨c_845, h⟩
                                  · obtain rfl := Option.some.inj h
                                    exact pathE 676 [.b false, .b false, .b false, .b false, .b false, .b false, .b false, .b false, .b false, .b false, .b true, .b true, .b true, .b true, .b false, .b false, .b true, .b true, .b true, .b true, .b false, .i 3, .fin []] (ai (bne_false c_836) <| ai (bne_false c_837) <| ai rF <| ai rF <| ai rF <| ai rF <| ai rF <| ai rF <| ai rF <| ai rF <| ai (beq_iff_eq.2 c_844) <| ai rT <| ai rT <| ai rT <| ai rF <| ai rF <| ai (beq_iff_eq.2 c_845) <| ai rT <| ai rT <| ai rT <| ai rF <| hr) (by kernel_rfl)
                                  · obtain rfl := Option.some.inj h
                                    exact pathE 676 [.b false, .b false, .b false, .b false, .b false, .b false, .b false, .b false, .b false, .b false, .b true, .b true, .b true, .b true, .b false, .b false, .b false, .b false, .b false, .b false, .b false, .i 3, .fin []] (ai (bne_false c_836) <| ai (bne_false c_837) <| ai rF <| ai rF <| ai rF <| ai rF <| ai rF <| ai rF <| ai rF <| ai rF <| ai (beq_iff_eq.2 c_844) <| ai rT <| ai rT <| ai rT <| ai rF <| ai rF <| ai (beq_eq_false_iff_ne.2 c_845) <| ai rF <| ai rF <| ai rF <| ai rF <| hr) (by kernel_rfl)
                                · obtain rfl := Option.some.inj h
                                  exact pathE 676 [.b false, .b false, .b false, .b false, .b false, .b false, .b false, .b false, .b false, .b false, .b false, .b false, .b false, .b false, .b false, .b false, .b false, .b false, .b false, .b false, .b false, .i 3, .fin []] (ai (bne_false c_836) <| ai (bne_false c_837) <| ai rF <| ai rF <| ai rF <| ai rF <| ai rF <| ai rF <| ai rF <| ai rF <| ai (beq_eq_false_iff_ne.2 c_844) <| ai rF <| ai rF <| ai rF <| ai rF <| ai rF <| ai rF <| ai rF <| ai rF <| ai rF <| ai rF <| hr) (by kernel_rfl)
                        replace h := hv_833
                        rcases ite_some h with ⟨c_846, h⟩ | ⟨c_846, h⟩
                        · obtain rfl := Option.some.inj h
                          exact pathE 484 [.b false, .b true, .b true, .b true, .i 4, .keep [12, 18, 19, 20, 21, 26], .stop] (ai (bne_false c_832) <| ai c_846 <| ai rT <| ai rT <| j_8340) (by kernel_rfl)
                        · refine pathE 472 [.b false, .b false, .b false, .i 3, .keep [0, 1, 12, 18, 19, 20, 21, 26, 127], .stop] (ai (bne_false c_832) <| ai (bool_false c_846) <| ai rF <| (?_ : RunE Try.prog ⟨0, law26_CapsSees.rs, res, st⟩ (koOf law26_CapsSees.b .done [1, 1, 1, 1, 1, 1, 1, 1, 1, 1, 1, 1, 1, 1, 1, 1, 1, 1, 1, 0, 0, 1]) [(0, .one (.p (.int .i64 (w64 (1 + (Int.tmod (w64 ((Int.tmod owner_1 3) + 3)) 3)))))), (1, .one (.p (.int .i64 (Int.tmod (w64 ((Int.tmod whose_2 4) + 4)) 4)))), (12, .one (.p (.int .i64 t_812.1))), (18, .one (.ptr 0 0)), (19, .one (.p (.int .i64 t_825.2))), (20, .one (.ptr 1 0)), (21, .one (.p (.int .i64 t_826.2))), (26, .one (.p (.int .i64 0))), (127, .one (.p (.bool (!inside_3))))] [.box [.p (.int .i64 t_825.1.Id), .p (.int .i64 t_825.1.Owner), .p (.int .i64 t_825.1.Parent), .p (.int .i64 t_825.1.Kind), .p (.str t_825.1.Tag.Text), .p (.sl 2 (t_825.1.Tag.Runs.map en_api_Run)), .p (.str t_825.1.Key), .p (.int .i64 t_825.1.Slot), .p (.sl 4 (t_825.1.Attrs.map en_api_Attr)), .p (.sl 3 (t_825.1.Hooks.map en_api_Hook)), .p (.sl 1 (t_825.1.Kids.map en_i64)), .p (.str t_825.1.Text.Text), .p (.sl 2 (t_825.1.Text.Runs.map en_api_Run))], .box [.p (.int .i64 t_826.1.Id), .p (.int .i64 t_826.1.Owner), .p (.int .i64 t_826.1.Parent), .p (.int .i64 t_826.1.Kind), .p (.str t_826.1.Tag.Text), .p (.sl 2 (t_826.1.Tag.Runs.map en_api_Run)), .p (.str t_826.1.Key), .p (.int .i64 t_826.1.Slot), .p (.sl 4 (t_826.1.Attrs.map en_api_Attr)), .p (.sl 3 (t_826.1.Hooks.map en_api_Hook)), .p (.sl 1 (t_826.1.Kids.map en_i64)), .p (.str t_826.1.Text.Text), .p (.sl 2 (t_826.1.Text.Runs.map en_api_Run))]])) (by kernel_rfl)
                          rcases ite_some h with ⟨c_847, h⟩ | ⟨c_847, h⟩
                          · obtain rfl := Option.some.inj h
                            exact pathE 448 [.b true, .i 4, .keep [12, 18, 19, 20, 21, 26], .stop] (ai c_847 <| j_8340) (by kernel_rfl)
                          · rcases ite_some h with ⟨c_848, h⟩ | ⟨c_848, h⟩
                            · obtain rfl := Option.some.inj h
                              exact pathE 460 [.b false, .b true, .i 4, .keep [12, 18, 19, 20, 21, 26], .stop] (ai (bool_false c_847) <| ai (bne_iff_ne.2 c_848) <| j_8340) (by kernel_rfl)
                            · obtain rfl := Option.some.inj h
                              exact pathE 460 [.b false, .b false, .i 2, .keep [12, 18, 19, 20, 21, 26], .stop] (ai (bool_false c_847) <| ai (bne_false c_848) <| j_8340) (by kernel_rfl)
              replace h := hv_823
              refine pathE 496 [.call [0, 1] (dom_Insert.R v_817 0 t_812.1 t_812.2.2.1 t_812.2.2.2.1 t_812.2.2.2.2.1 t_812.2.2.2.2.2.1 t_812.2.2.2.2.2.2.1 t_812.2.2.2.2.2.2.2.1 t_812.2.2.2.2.2.2.2.2.1 t_812.2.2.2.2.2.2.2.2.2.1 t_815.2 t_819) (dom_Insert.S1 v_817 0 t_812.1 t_812.2.2.1 t_812.2.2.2.1 t_812.2.2.2.2.1 t_812.2.2.2.2.2.1 t_812.2.2.2.2.2.2.1 t_812.2.2.2.2.2.2.2.1 t_812.2.2.2.2.2.2.2.2.1 t_812.2.2.2.2.2.2.2.2.2.1 t_815.2 t_819), .b false, .call [] (caps_New.R (w64 (1 + (Int.tmod (w64 ((Int.tmod owner_1 3) + 3)) 3))) t_810.1 t_821) (caps_New.S1 (w64 (1 + (Int.tmod (w64 ((Int.tmod owner_1 3) + 3)) 3))) t_810.1 t_821), .call [2, 3] (caps_Table_Grant.R t_812.1 (w64 (1 + (Int.tmod (w64 ((Int.tmod owner_1 3) + 3)) 3))) ([t_810.1] : List Int) t_822) (caps_Table_Grant.S1 t_812.1 (w64 (1 + (Int.tmod (w64 ((Int.tmod owner_1 3) + 3)) 3))) ([t_810.1] : List Int) t_822), .i 11, .gc [0, 2, 1, 4], .keep [0, 1, 2, 3, 9, 10, 12, 15, 16, 17, 81], .stop] (ai (dom_Insert.ok k v_817 0 t_812.1 t_812.2.2.1 t_812.2.2.2.1 t_812.2.2.2.2.1 t_812.2.2.2.2.2.1 t_812.2.2.2.2.2.2.1 t_812.2.2.2.2.2.2.2.1 t_812.2.2.2.2.2.2.2.2.1 t_812.2.2.2.2.2.2.2.2.2.1 t_815.2 t_819 ht_819) <| ai (bne_false c_820) <| ai (caps_New.ok (w64 (1 + (Int.tmod (w64 ((Int.tmod owner_1 3) + 3)) 3))) t_810.1 t_821 ht_821) <| ai (caps_Table_Grant.ok k t_812.1 (w64 (1 + (Int.tmod (w64 ((Int.tmod owner_1 3) + 3)) 3))) ([t_810.1] : List Int) t_822 ht_822) <| (?_ : RunE Try.prog ⟨0, law26_CapsSees.rs, res, st⟩ (koOf law26_CapsSees.b .done [1, 1, 1, 1, 1, 1, 1, 1, 1, 1, 1, 1, 0, 1]) [(0, .one (.p (.int .i64 (w64 (1 + (Int.tmod (w64 ((Int.tmod owner_1 3) + 3)) 3)))))), (1, .one (.p (.int .i64 (Int.tmod (w64 ((Int.tmod whose_2 4) + 4)) 4)))), (2, .one (.p (.bool inside_3))), (3, .one (.p (.bool gone_4))), (9, .one (.ptr 0 0)), (10, .one (.p (.int .i64 t_810.1))), (12, .one (.p (.int .i64 t_812.1))), (15, .one (.ptr 1 0)), (16, .one (.p (.int .i64 t_822.1))), (17, .one (.p (.int .i64 t_822.2.1))), (81, .one (.p (.bool gone_4)))] [.box [.mp 2, .p (.int .i64 t_812.2.2.1), .p (.int .i64 t_812.2.2.2.1), .p (.int .i64 t_812.2.2.2.2.1), .p (.int .i64 t_812.2.2.2.2.2.1), .p (.int .i64 t_812.2.2.2.2.2.2.1), .p (.int .i64 t_812.2.2.2.2.2.2.2.1), .p (.int .i64 t_812.2.2.2.2.2.2.2.2.1), .p (.int .i64 t_812.2.2.2.2.2.2.2.2.2.1)], .box [.p (.int .i64 (w64 (1 + (Int.tmod (w64 ((Int.tmod owner_1 3) + 3)) 3)))), .own 3 1 0 t_822.2.2.length], .map (enE en_arena_Node t_819.2), .row 3 1 t_822.2.2.length (t_822.2.2.map en_i64)])) (by kernel_rfl)
              rcases ite_some h with ⟨c_849, h⟩ | ⟨c_849, h⟩
              · obtain ⟨t_850, ht_850, h⟩ := bind_some h
                obtain rfl := Option.some.inj h
                exact pathE 460 [.b true, .call [0, 2] (dom_Remove.R t_812.1 t_812.2.2.1 t_812.2.2.2.1 t_812.2.2.2.2.1 t_812.2.2.2.2.2.1 t_812.2.2.2.2.2.2.1 t_812.2.2.2.2.2.2.2.1 t_812.2.2.2.2.2.2.2.2.1 t_812.2.2.2.2.2.2.2.2.2.1 t_819.2 t_850) (dom_Remove.S1 t_812.1 t_812.2.2.1 t_812.2.2.2.1 t_812.2.2.2.2.1 t_812.2.2.2.2.2.1 t_812.2.2.2.2.2.2.1 t_812.2.2.2.2.2.2.2.1 t_812.2.2.2.2.2.2.2.2.1 t_812.2.2.2.2.2.2.2.2.2.1 t_819.2 t_850), .i 1, .keep [0, 1, 2, 3, 9, 10, 12, 15, 16, 17], .stop] (ai c_849 <| ai (dom_Remove.ok k t_812.1 t_812.2.2.1 t_812.2.2.2.1 t_812.2.2.2.2.1 t_812.2.2.2.2.2.1 t_812.2.2.2.2.2.2.1 t_812.2.2.2.2.2.2.2.1 t_812.2.2.2.2.2.2.2.2.1 t_812.2.2.2.2.2.2.2.2.2.1 t_819.2 t_850 ht_850) <| j_8240) (by kernel_rfl)
              · obtain rfl := Option.some.inj h
                exact pathE 448 [.b false, .i 1, .keep [0, 1, 2, 3, 9, 10, 12, 15, 16, 17], .stop] (ai (bool_false c_849) <| j_8240) (by kernel_rfl)
          replace h := hv_817
          rcases ite_some h with ⟨c_851, h⟩ | ⟨c_851, h⟩
          · obtain rfl := Option.some.inj h
            exact pathE 460 [.b false, .b true, .i 4, .keep [0, 1, 2, 3, 9, 10, 12, 14], .stop] (ai (bne_false c_816) <| ai c_851 <| j_8180) (by kernel_rfl)
          · obtain rfl := Option.some.inj h
            exact pathE 460 [.b false, .b false, .i 1, .keep [0, 1, 2, 3, 9, 10, 12, 14], .stop] (ai (bne_false c_816) <| ai (bool_false c_851) <| j_8180) (by kernel_rfl)
theorem law26_CapsSees.ok (k : Nat) (owner_1 : Int) (whose_2 : Int) (inside_3 : Bool) (gone_4 : Bool) (r : Bool) (h : law26_CapsSees.f k owner_1 whose_2 inside_3 gone_4 = some r) : OkS Try.prog 11 (law26_CapsSees.A owner_1 whose_2 inside_3 gone_4) (law26_CapsSees.S0 owner_1 whose_2 inside_3 gone_4) (law26_CapsSees.R owner_1 whose_2 inside_3 gone_4 r) (law26_CapsSees.S1 owner_1 whose_2 inside_3 gone_4 r) := okE Try.func11 m11 rfl rfl rfl (law26_CapsSees.run k owner_1 whose_2 inside_3 gone_4 r h _ _ rfl)
end Go.Proofs.Ga

/- The functions that a law reaches, each with the contract of what it computes over plain data; printed by program, no condition. -/
import Derived.Test.YtajaolmagnldaaaG7a
set_option maxRecDepth 100000
set_option maxHeartbeats 4000000
set_option linter.unusedVariables false
set_option linter.unusedSimpArgs false
namespace Go.Proofs.Ga
open Go.Proofs.Dl
-- 168 slices.Index[[]int,int]
def d168 : FnDef := ⟨19, [.tmp 4],
  (.seq
  (.ops [
    ⟨some 4, .mv (.c (.one (.p (.int .i64 0)))), none⟩] [0, 1])
  (.seq
  (.seq
  (.ops [
    ⟨some 6, .mv (.t 0), none⟩,
    ⟨some 7, .len false (.t 6), none⟩,
    ⟨some 8, .mv (.c (.one (.p (.int .i64 0)))), none⟩] [0, 1, 7, 8])
  (.block 0
    (.loop
      (.seq
      (.ops [
        ⟨some 9, .bin 0 .lss (.t 8) (.t 7), none⟩] [0, 1, 7, 8, 9])
      (.seq
      (.cond (.t 9)
        .skip
        (.exit 0))
      (.seq
      (.block 1
        (.seq
        (.ops [
          ⟨some 10, .mv (.t 8), none⟩,
          ⟨some 5, .mv (.t 10), none⟩] [0, 1, 5, 7, 8])
        (.seq
        (.ops [
          ⟨some 11, .mv (.t 1), none⟩,
          ⟨some 12, .mv (.t 0), none⟩,
          ⟨some 13, .mv (.t 5), none⟩,
          ⟨some 14, .iaddr 1 (.t 12) (.t 13), none⟩,
          ⟨some 15, .load 1 false (.t 14), none⟩,
          ⟨some 16, .bin 0 .eql (.t 11) (.t 15), none⟩] [0, 1, 5, 7, 8, 16])
        (.cond (.t 16)
          (.seq
          (.ops [
            ⟨some 17, .mv (.t 5), none⟩,
            ⟨some 4, .mv (.t 17), none⟩] [4])
          .ret)
          .skip))))
      (.ops [
        ⟨some 18, .bin 0 .add (.t 8) (.c (.one (.p (.int .i64 1)))), none⟩,
        ⟨some 8, .mv (.t 18), none⟩] [0, 1, 7, 8])))))))
  (.seq
  (.ops [
    ⟨some 4, .mv (.c (.one (.p (.int .i64 (-1))))), none⟩] [4])
  .ret)))⟩
theorem m168 : mFn Try.prog d168 Try.f168 = true := by kernel_rfl
def slices_Index_int_int.A (v_1355 : Int) : List Vv := [.one (.nil 1), .one (.p (.int .i64 v_1355))]
def slices_Index_int_int.S0 (v_1355 : Int) : Sto := []
def slices_Index_int_int.R (v_1355 : Int) (r_0 : Unit) : Vv := .one (.p (.int .i64 (-1)))
def slices_Index_int_int.S1 (v_1355 : Int) (r_0 : Unit) : Sto := []
def slices_Index_int_int.rs : List Rv := d168.res
def slices_Index_int_int.b : Sx := d168.body
def slices_Index_int_int_l1 : Nat → Option ((Unit))
  | 0 => none
  | k + 1 => (some ())
def slices_Index_int_int_l1.S (k : Nat) : Prop := ∀ (v_1360 : Int) (v : (Unit)), slices_Index_int_int_l1 k = some v → ∀ (res : Vv) (st : Sto), (∀ x_0, v = x_0 → RunE Try.prog ⟨0, slices_Index_int_int.rs, res, st⟩ (koAfter slices_Index_int_int.b [1, 0, 1]) [] []) → RunE Try.prog ⟨0, slices_Index_int_int.rs, res, st⟩ (koLoop slices_Index_int_int.b [1, 0, 1, 0]) [(0, .one (.nil 1)), (1, .one (.p (.int .i64 v_1360))), (7, .one (.p (.int .i64 0))), (8, .one (.p (.int .i64 0)))] []
theorem slices_Index_int_int_l1.z : slices_Index_int_int_l1.S 0 := fun _ v h => none_some h
theorem slices_Index_int_int_l1.step (k : Nat) (ih : slices_Index_int_int_l1.S k) : slices_Index_int_int_l1.S (k + 1) := by
  intro v_1360 v h res st c0
  rw [slices_Index_int_int_l1] at h
  obtain rfl := Option.some.inj h
  exact pathE 448 [.b false, .i 1, .keep [], .stop] (ai rF <| (c0 () rfl)) (by kernel_rfl)
theorem slices_Index_int_int_l1.ok : ∀ k, slices_Index_int_int_l1.S k
  | 0 => slices_Index_int_int_l1.z
  | k + 1 => slices_Index_int_int_l1.step k (slices_Index_int_int_l1.ok k)
def slices_Index_int_int.f (k : Nat) : Option (Unit) := (Option.bind (slices_Index_int_int_l1 k) (fun v_1361 => (some ())))
theorem slices_Index_int_int.run (k : Nat) (v_1355 : Int) (r : Unit) (h : slices_Index_int_int.f k = some r) (res : Vv) (st : Sto) (hr : (slices_Index_int_int.R v_1355 r, slices_Index_int_int.S1 v_1355 r) = (res, st)) : RunE Try.prog ⟨0, slices_Index_int_int.rs, res, st⟩ (.st slices_Index_int_int.b .done) (argE 0 (slices_Index_int_int.A v_1355)) (slices_Index_int_int.S0 v_1355) := by
  unfold slices_Index_int_int.f at h
  obtain ⟨v_1361, hv_1361, h⟩ := bind_some h
  refine pathE 436 [.i 13, .keep [0, 1, 7, 8], .stop] ((slices_Index_int_int_l1.ok k v_1355 v_1361 hv_1361 res st ?_)) (by kernel_rfl)
  · intro y hx
    subst hx
    obtain rfl := Option.some.inj h
    exact pathE 424 [.i 4, .fin []] (hr) (by kernel_rfl)
theorem slices_Index_int_int.ok (k : Nat) (v_1355 : Int) (r : Unit) (h : slices_Index_int_int.f k = some r) : OkS Try.prog 168 (slices_Index_int_int.A v_1355) (slices_Index_int_int.S0 v_1355) (slices_Index_int_int.R v_1355 r) (slices_Index_int_int.S1 v_1355 r) := okE Try.func168 m168 rfl rfl rfl (slices_Index_int_int.run k v_1355 r h _ _ rfl)
-- 117 slices.Contains[[]int,int]
def d117 : FnDef := ⟨9, [.tmp 4],
  (.seq
  (.ops [
    ⟨some 4, .mv (.c (.one (.p (.bool false)))), none⟩] [0, 1])
  (.seq
  (.ops [
    ⟨some 5, .mv (.t 0), none⟩,
    ⟨some 6, .mv (.t 1), none⟩,
    ⟨some 7, .call 168 [(.t 5), (.t 6)], none⟩,
    ⟨some 8, .bin 0 .geq (.t 7) (.c (.one (.p (.int .i64 0)))), none⟩,
    ⟨some 4, .mv (.t 8), none⟩] [4])
  .ret))⟩
theorem m117 : mFn Try.prog d117 Try.f117 = true := by kernel_rfl
def slices_Contains_int_int.A (v_1354 : Int) : List Vv := [.one (.nil 1), .one (.p (.int .i64 v_1354))]
def slices_Contains_int_int.S0 (v_1354 : Int) : Sto := []
def slices_Contains_int_int.R (v_1354 : Int) (r_0 : Unit) : Vv := .one (.p (.bool false))
def slices_Contains_int_int.S1 (v_1354 : Int) (r_0 : Unit) : Sto := []
def slices_Contains_int_int.rs : List Rv := d117.res
def slices_Contains_int_int.b : Sx := d117.body
def slices_Contains_int_int.f (k : Nat) : Option (Unit) := ((slices_Index_int_int.f k).bind fun t_1364 => (some ()))
theorem slices_Contains_int_int.run (k : Nat) (v_1354 : Int) (r : Unit) (h : slices_Contains_int_int.f k = some r) (res : Vv) (st : Sto) (hr : (slices_Contains_int_int.R v_1354 r, slices_Contains_int_int.S1 v_1354 r) = (res, st)) : RunE Try.prog ⟨0, slices_Contains_int_int.rs, res, st⟩ (.st slices_Contains_int_int.b .done) (argE 0 (slices_Contains_int_int.A v_1354)) (slices_Contains_int_int.S0 v_1354) := by
  unfold slices_Contains_int_int.f at h
  obtain ⟨t_1364, ht_1364, h⟩ := bind_some h
  obtain rfl := Option.some.inj h
  exact pathE 436 [.call [] (slices_Index_int_int.R v_1354 t_1364) (slices_Index_int_int.S1 v_1354 t_1364), .i 3, .fin []] (ai (slices_Index_int_int.ok k v_1354 t_1364 ht_1364) <| hr) (by kernel_rfl)
theorem slices_Contains_int_int.ok (k : Nat) (v_1354 : Int) (r : Unit) (h : slices_Contains_int_int.f k = some r) : OkS Try.prog 117 (slices_Contains_int_int.A v_1354) (slices_Contains_int_int.S0 v_1354) (slices_Contains_int_int.R v_1354 r) (slices_Contains_int_int.S1 v_1354 r) := okE Try.func117 m117 rfl rfl rfl (slices_Contains_int_int.run k v_1354 r h _ _ rfl)
-- 168 slices.Index[[]int,int]
-- (its code: d168)
def slices_Index_int_int_v1.A (v_1395 : Int) (o0_1396 : (List Int)) : List Vv := [.one (.own 0 1 0 o0_1396.length), .one (.p (.int .i64 v_1395))]
def slices_Index_int_int_v1.S0 (v_1395 : Int) (o0_1396 : (List Int)) : Sto := [.row 3 1 o0_1396.length (o0_1396.map en_i64)]
def slices_Index_int_int_v1.R (v_1395 : Int) (o0_1396 : (List Int)) (r_0 : Int) : Vv := .one (.p (.int .i64 r_0))
def slices_Index_int_int_v1.S1 (v_1395 : Int) (o0_1396 : (List Int)) (r_0 : Int) : Sto := [.row 3 1 o0_1396.length (o0_1396.map en_i64)]
def slices_Index_int_int_v1.rs : List Rv := d168.res
def slices_Index_int_int_v1.b : Sx := d168.body
def slices_Index_int_int_v1_l1 : Nat → Int → Int → (List Int) → Int → Option ((Int) ⊕ (Unit))
  | 0, _, _, _, _ => none
  | k + 1, v_1435, u_1436, o0_1438, u_1437 => (if u_1437 < u_1436 then ((idx o0_1438 u_1437).bind fun x_1443 => (if v_1435 = x_1443 then (some (.inl u_1437)) else (slices_Index_int_int_v1_l1 k v_1435 u_1436 o0_1438 (w64 (u_1437 + 1))))) else (some (.inr ())))
def slices_Index_int_int_v1_l1.S (k : Nat) : Prop := ∀ (v_1435 : Int) (u_1436 : Int) (o0_1438 : (List Int)) (u_1437 : Int) (v : (Int) ⊕ (Unit)), slices_Index_int_int_v1_l1 k v_1435 u_1436 o0_1438 u_1437 = some v → ∀ (res : Vv) (st : Sto), (∀ x_0, v = (.inl x_0) → ∀ k, RunE Try.prog ⟨1, slices_Index_int_int_v1.rs, res, st⟩ (.st .ret k) [(4, .one (.p (.int .i64 x_0)))] [.row 3 1 o0_1438.length (o0_1438.map en_i64)]) → (∀ x_0, v = (.inr x_0) → RunE Try.prog ⟨1, slices_Index_int_int_v1.rs, res, st⟩ (koAfter slices_Index_int_int_v1.b [1, 0, 1]) [] [.row 3 1 o0_1438.length (o0_1438.map en_i64)]) → RunE Try.prog ⟨1, slices_Index_int_int_v1.rs, res, st⟩ (koLoop slices_Index_int_int_v1.b [1, 0, 1, 0]) [(0, .one (.own 0 1 0 o0_1438.length)), (1, .one (.p (.int .i64 v_1435))), (7, .one (.p (.int .i64 u_1436))), (8, .one (.p (.int .i64 u_1437)))] [.row 3 1 o0_1438.length (o0_1438.map en_i64)]
theorem slices_Index_int_int_v1_l1.z : slices_Index_int_int_v1_l1.S 0 := fun _ _ _ _ v h => none_some h
theorem slices_Index_int_int_v1_l1.step (k : Nat) (ih : slices_Index_int_int_v1_l1.S k) : slices_Index_int_int_v1_l1.S (k + 1) := by
  intro v_1435 u_1436 o0_1438 u_1437 v h res st c0 c1
  rw [slices_Index_int_int_v1_l1] at h
  rcases ite_some h with ⟨c_1442, h⟩ | ⟨c_1442, h⟩
  · obtain ⟨x_1443, hx_1443, h⟩ := bind_some h
    rcases ite_some h with ⟨c_1444, h⟩ | ⟨c_1444, h⟩
    · obtain rfl := Option.some.inj h
      exact pathE 472 [.b true, .c (en_i64 x_1443), .b true, .i 5, .keep [4], .stop] (ai (decide_eq_true c_1442) <| ai (idx_ownE (m := o0_1438.length) rfl hx_1443) <| ai (idx_ob en_i64 hx_1443).2 <| ai (beq_iff_eq.2 c_1444) <| ((c0 u_1437 rfl) (koAfter slices_Index_int_int_v1.b [1, 0, 1, 0, 0, 1, 1, 0, 0, 1, 1, 0, 1]))) (by kernel_rfl)
    · exact pathE 472 [.b true, .c (en_i64 x_1443), .b false, .i 6, .keep [0, 1, 7, 8], .stop] (ai (decide_eq_true c_1442) <| ai (idx_ownE (m := o0_1438.length) rfl hx_1443) <| ai (idx_ob en_i64 hx_1443).2 <| ai (beq_eq_false_iff_ne.2 c_1444) <| (ih v_1435 u_1436 o0_1438 (w64 (u_1437 + 1)) _ h res st c0 c1)) (by kernel_rfl)
  · obtain rfl := Option.some.inj h
    exact pathE 448 [.b false, .i 1, .keep [], .stop] (ai (decide_eq_false c_1442) <| (c1 () rfl)) (by kernel_rfl)
theorem slices_Index_int_int_v1_l1.ok : ∀ k, slices_Index_int_int_v1_l1.S k
  | 0 => slices_Index_int_int_v1_l1.z
  | k + 1 => slices_Index_int_int_v1_l1.step k (slices_Index_int_int_v1_l1.ok k)
def slices_Index_int_int_v1.f (k : Nat) (v_1395 : Int) (o0_1396 : (List Int)) : Option (Int) := (Option.bind (slices_Index_int_int_v1_l1 k v_1395 (o0_1396.length : Int) o0_1396 0) (Sum.elim (fun x_1446 => (some x_1446)) (fun x_1447 => (some (-1)))))
theorem slices_Index_int_int_v1.run (k : Nat) (v_1395 : Int) (o0_1396 : (List Int)) (r : Int) (h : slices_Index_int_int_v1.f k v_1395 o0_1396 = some r) (res : Vv) (st : Sto) (hr : (slices_Index_int_int_v1.R v_1395 o0_1396 r, slices_Index_int_int_v1.S1 v_1395 o0_1396 r) = (res, st)) : RunE Try.prog ⟨1, slices_Index_int_int_v1.rs, res, st⟩ (.st slices_Index_int_int_v1.b .done) (argE 0 (slices_Index_int_int_v1.A v_1395 o0_1396)) (slices_Index_int_int_v1.S0 v_1395 o0_1396) := by
  unfold slices_Index_int_int_v1.f at h
  obtain ⟨v_1445, hv_1445, h⟩ := bind_some h
  refine pathE 436 [.i 13, .keep [0, 1, 7, 8], .stop] ((slices_Index_int_int_v1_l1.ok k v_1395 (o0_1396.length : Int) o0_1396 0 v_1445 hv_1445 res st ?_ ?_)) (by kernel_rfl)
  · intro x_1446 hx
    subst hx
    replace h := sum_l h
    intro k
    obtain rfl := Option.some.inj h
    exact pathE 412 [.fin [0]] (hr) (by kernel_rfl)
  · intro x_1447 hx
    subst hx
    replace h := sum_r h
    obtain rfl := Option.some.inj h
    exact pathE 424 [.i 4, .fin [0]] (hr) (by kernel_rfl)
theorem slices_Index_int_int_v1.ok (k : Nat) (v_1395 : Int) (o0_1396 : (List Int)) (r : Int) (h : slices_Index_int_int_v1.f k v_1395 o0_1396 = some r) : OkS Try.prog 168 (slices_Index_int_int_v1.A v_1395 o0_1396) (slices_Index_int_int_v1.S0 v_1395 o0_1396) (slices_Index_int_int_v1.R v_1395 o0_1396 r) (slices_Index_int_int_v1.S1 v_1395 o0_1396 r) := okE Try.func168 m168 rfl rfl rfl (slices_Index_int_int_v1.run k v_1395 o0_1396 r h _ _ rfl)
-- 117 slices.Contains[[]int,int]
-- (its code: d117)
def slices_Contains_int_int_v1.A (v_1393 : Int) (o0_1394 : (List Int)) : List Vv := [.one (.own 0 1 0 o0_1394.length), .one (.p (.int .i64 v_1393))]
def slices_Contains_int_int_v1.S0 (v_1393 : Int) (o0_1394 : (List Int)) : Sto := [.row 3 1 o0_1394.length (o0_1394.map en_i64)]
def slices_Contains_int_int_v1.R (v_1393 : Int) (o0_1394 : (List Int)) (r_0 : Bool) : Vv := .one (.p (.bool r_0))
def slices_Contains_int_int_v1.S1 (v_1393 : Int) (o0_1394 : (List Int)) (r_0 : Bool) : Sto := [.row 3 1 o0_1394.length (o0_1394.map en_i64)]
def slices_Contains_int_int_v1.rs : List Rv := d117.res
def slices_Contains_int_int_v1.b : Sx := d117.body
def slices_Contains_int_int_v1.f (k : Nat) (v_1393 : Int) (o0_1394 : (List Int)) : Option (Bool) := ((slices_Index_int_int_v1.f k v_1393 o0_1394).bind fun t_1450 => (some (decide (t_1450 ≥ 0))))
theorem slices_Contains_int_int_v1.run (k : Nat) (v_1393 : Int) (o0_1394 : (List Int)) (r : Bool) (h : slices_Contains_int_int_v1.f k v_1393 o0_1394 = some r) (res : Vv) (st : Sto) (hr : (slices_Contains_int_int_v1.R v_1393 o0_1394 r, slices_Contains_int_int_v1.S1 v_1393 o0_1394 r) = (res, st)) : RunE Try.prog ⟨1, slices_Contains_int_int_v1.rs, res, st⟩ (.st slices_Contains_int_int_v1.b .done) (argE 0 (slices_Contains_int_int_v1.A v_1393 o0_1394)) (slices_Contains_int_int_v1.S0 v_1393 o0_1394) := by
  unfold slices_Contains_int_int_v1.f at h
  obtain ⟨t_1450, ht_1450, h⟩ := bind_some h
  obtain rfl := Option.some.inj h
  exact pathE 436 [.call [0] (slices_Index_int_int_v1.R v_1393 o0_1394 t_1450) (slices_Index_int_int_v1.S1 v_1393 o0_1394 t_1450), .i 3, .fin [0]] (ai (slices_Index_int_int_v1.ok k v_1393 o0_1394 t_1450 ht_1450) <| hr) (by kernel_rfl)
theorem slices_Contains_int_int_v1.ok (k : Nat) (v_1393 : Int) (o0_1394 : (List Int)) (r : Bool) (h : slices_Contains_int_int_v1.f k v_1393 o0_1394 = some r) : OkS Try.prog 117 (slices_Contains_int_int_v1.A v_1393 o0_1394) (slices_Contains_int_int_v1.S0 v_1393 o0_1394) (slices_Contains_int_int_v1.R v_1393 o0_1394 r) (slices_Contains_int_int_v1.S1 v_1393 o0_1394 r) := okE Try.func117 m117 rfl rfl rfl (slices_Contains_int_int_v1.run k v_1393 o0_1394 r h _ _ rfl)
-- 92 glazier/dom.Inside
def d92 : FnDef := ⟨41, [.tmp 6],
  (.seq
  (.ops [
    ⟨some 6, .mv (.c (.one (.p (.bool false)))), none⟩] [0, 1, 2])
  (.seq
  (.ops [
    ⟨some 7, .mv (.c (.one (.nil 1))), none⟩] [0, 1, 2, 7])
  (.seq
  (.seq
  (.ops [
    ⟨some 11, .mv (.t 0), none⟩,
    ⟨some 12, .mv (.t 1), none⟩,
    ⟨some 13, .call 34 [(.t 11), (.t 12)], none⟩,
    ⟨some 10, .mv (.t 13), none⟩,
    ⟨some 14, .ext (.t 10) 0, none⟩,
    ⟨some 15, .ext (.t 10) 1, none⟩,
    ⟨some 8, .alloc [.p (.int .i64 0), .p (.int .i64 0), .p (.int .i64 0), .p (.int .i64 0), .p (.str []), .nil 2, .p (.str []), .p (.int .i64 0), .nil 4, .nil 3, .nil 1, .p (.str []), .nil 2], none⟩,
    ⟨none, .store 13 (.t 8) (.t 14), none⟩,
    ⟨some 9, .mv (.t 15), none⟩] [0, 2, 7, 8, 9])
  (.block 0
    (.loop
      (.seq
      (.seq
      (.ops [
        ⟨some 16, .mv (.t 9), none⟩,
        ⟨some 17, .mv (.t 16), none⟩,
        ⟨some 18, .mv (.t 7), some (17, true)⟩,
        ⟨some 19, .faddr 0 (.t 8), some (17, true)⟩,
        ⟨some 20, .load 1 false (.t 19), some (17, true)⟩,
        ⟨some 21, .call 117 [(.t 18), (.t 20)], some (17, true)⟩,
        ⟨some 22, .un .not (.t 21), some (17, true)⟩,
        ⟨some 23, .pick (.t 17) (.t 22) (.c (.one (.p (.bool false)))), none⟩] [0, 2, 7, 8, 23])
      (.cond (.t 23)
        .skip
        (.exit 0)))
      (.seq
      (.block 1
        (.seq
        (.seq
        (.ops [
          ⟨some 31, .faddr 0 (.t 8), none⟩,
          ⟨some 32, .load 1 false (.t 31), none⟩,
          ⟨some 33, .mv (.t 2), none⟩,
          ⟨some 34, .bin 0 .eql (.t 32) (.t 33), none⟩] [0, 2, 7, 8, 34])
        (.cond (.t 34)
          (.seq
          (.ops [
            ⟨some 6, .mv (.c (.one (.p (.bool true)))), none⟩] [6])
          .ret)
          .skip))
        (.ops [
          ⟨some 35, .mv (.t 7), none⟩,
          ⟨some 36, .faddr 0 (.t 8), none⟩,
          ⟨some 37, .load 1 false (.t 36), none⟩,
          ⟨some 38, .bslice 3 1 [(.t 37)], none⟩,
          ⟨some 39, .app 3 1 8 (.t 35) (.t 38), none⟩,
          ⟨some 7, .mv (.t 39), none⟩] [0, 2, 7, 8])))
      (.seq
      (.seq
      (.ops [
        ⟨some 40, .load 13 true (.t 8), none⟩] [0, 2, 7, 40])
      (.ops [
        ⟨some 8, .alloc [.p (.int .i64 0), .p (.int .i64 0), .p (.int .i64 0), .p (.int .i64 0), .p (.str []), .nil 2, .p (.str []), .p (.int .i64 0), .nil 4, .nil 3, .nil 1, .p (.str []), .nil 2], none⟩,
        ⟨none, .store 13 (.t 8) (.t 40), none⟩] [0, 2, 7, 8]))
      (.ops [
        ⟨some 25, .mv (.t 0), none⟩,
        ⟨some 26, .faddr 2 (.t 8), none⟩,
        ⟨some 27, .load 1 false (.t 26), none⟩,
        ⟨some 28, .call 34 [(.t 25), (.t 27)], none⟩,
        ⟨some 24, .mv (.t 28), none⟩,
        ⟨some 29, .ext (.t 24) 0, none⟩,
        ⟨some 30, .ext (.t 24) 1, none⟩,
        ⟨none, .store 13 (.t 8) (.t 29), none⟩,
        ⟨some 9, .mv (.t 30), none⟩] [0, 2, 7, 8, 9])))))))
  (.seq
  (.ops [
    ⟨some 6, .mv (.c (.one (.p (.bool false)))), none⟩] [6])
  .ret))))⟩
theorem m92 : mFn Try.prog d92 Try.f92 = true := by kernel_rfl
def dom_Inside.A (id_1317 : Int) (top_1318 : Int) (o0_1319 : Int) (o0_1320 : Int) (o0_1321 : Int) (o0_1322 : Int) (o0_1323 : Int) (o0_1324 : Int) (o0_1325 : Int) (o0_1326 : Int) (o1_1327 : (List (Int × arena_Node))) : List Vv := [.one (.ptr 0 0), .one (.p (.int .i64 id_1317)), .one (.p (.int .i64 top_1318))]
def dom_Inside.S0 (id_1317 : Int) (top_1318 : Int) (o0_1319 : Int) (o0_1320 : Int) (o0_1321 : Int) (o0_1322 : Int) (o0_1323 : Int) (o0_1324 : Int) (o0_1325 : Int) (o0_1326 : Int) (o1_1327 : (List (Int × arena_Node))) : Sto := [.box [.mp 1, .p (.int .i64 o0_1319), .p (.int .i64 o0_1320), .p (.int .i64 o0_1321), .p (.int .i64 o0_1322), .p (.int .i64 o0_1323), .p (.int .i64 o0_1324), .p (.int .i64 o0_1325), .p (.int .i64 o0_1326)], .map (enE en_arena_Node o1_1327)]
def dom_Inside.R (id_1317 : Int) (top_1318 : Int) (o0_1319 : Int) (o0_1320 : Int) (o0_1321 : Int) (o0_1322 : Int) (o0_1323 : Int) (o0_1324 : Int) (o0_1325 : Int) (o0_1326 : Int) (o1_1327 : (List (Int × arena_Node))) (r_0 : Bool) : Vv := .one (.p (.bool r_0))
def dom_Inside.S1 (id_1317 : Int) (top_1318 : Int) (o0_1319 : Int) (o0_1320 : Int) (o0_1321 : Int) (o0_1322 : Int) (o0_1323 : Int) (o0_1324 : Int) (o0_1325 : Int) (o0_1326 : Int) (o1_1327 : (List (Int × arena_Node))) (r_0 : Bool) : Sto := [.box [.mp 1, .p (.int .i64 o0_1319), .p (.int .i64 o0_1320), .p (.int .i64 o0_1321), .p (.int .i64 o0_1322), .p (.int .i64 o0_1323), .p (.int .i64 o0_1324), .p (.int .i64 o0_1325), .p (.int .i64 o0_1326)], .map (enE en_arena_Node o1_1327)]
def dom_Inside.rs : List Rv := d92.res
def dom_Inside.b : Sx := d92.body
def dom_Inside_l1 : Nat → Int → (List (Int × arena_Node)) → Bool → Int → Int → (List Int) → Option ((Unit) ⊕ (Unit))
  | 0, _, _, _, _, _, _ => none
  | k + 1, top_1642, o1_1652, ok_1643, o2_1653, o2_1655, o3_1664 => (if ok_1643 = true then ((slices_Contains_int_int_v1.f k o2_1653 o3_1664).bind fun t_1674 => (if (!t_1674) = true then (if o2_1653 = top_1642 then (some (.inl ())) else (if (o3_1664 ++ ([o2_1653] : List Int)).length * 8 ≤ room then ((arena_Arena_Get.f k o2_1655 o1_1652).bind fun t_1678 => (dom_Inside_l1 k top_1642 o1_1652 t_1678.2 t_1678.1.Id t_1678.1.Parent (o3_1664 ++ ([o2_1653] : List Int)))) else none)) else (some (.inr ())))) else (some (.inr ())))
def dom_Inside_l1.S (k : Nat) : Prop := ∀ (top_1642 : Int) (o0_1644 : Int) (o0_1645 : Int) (o0_1646 : Int) (o0_1647 : Int) (o0_1648 : Int) (o0_1649 : Int) (o0_1650 : Int) (o0_1651 : Int) (o1_1652 : (List (Int × arena_Node))) (ok_1643 : Bool) (o2_1653 : Int) (o2_1654 : Int) (o2_1655 : Int) (o2_1656 : Int) (o2_1657 : (List UInt8)) (o2_1658 : (List api_Run)) (o2_1659 : (List UInt8)) (o2_1660 : Int) (o2_1661 : (List api_Attr)) (o2_1662 : (List UInt8)) (o2_1663 : (List api_Run)) (o3_1664 : (List Int)) (o4_1665 : (List api_Hook)) (o5_1666 : (List Int)) (v : (Unit) ⊕ (Unit)), dom_Inside_l1 k top_1642 o1_1652 ok_1643 o2_1653 o2_1655 o3_1664 = some v → ∀ (res : Vv) (st : Sto), (∀ x_0, v = (.inl x_0) → ∀ k, RunE Try.prog ⟨2, dom_Inside.rs, res, st⟩ (.st .ret k) [(6, .one (.p (.bool true)))] [.box [.mp 1, .p (.int .i64 o0_1644), .p (.int .i64 o0_1645), .p (.int .i64 o0_1646), .p (.int .i64 o0_1647), .p (.int .i64 o0_1648), .p (.int .i64 o0_1649), .p (.int .i64 o0_1650), .p (.int .i64 o0_1651)], .map (enE en_arena_Node o1_1652)]) → (∀ x_0, v = (.inr x_0) → RunE Try.prog ⟨2, dom_Inside.rs, res, st⟩ (koAfter dom_Inside.b [1, 1, 0, 1]) [] [.box [.mp 1, .p (.int .i64 o0_1644), .p (.int .i64 o0_1645), .p (.int .i64 o0_1646), .p (.int .i64 o0_1647), .p (.int .i64 o0_1648), .p (.int .i64 o0_1649), .p (.int .i64 o0_1650), .p (.int .i64 o0_1651)], .map (enE en_arena_Node o1_1652)]) → RunE Try.prog ⟨2, dom_Inside.rs, res, st⟩ (koLoop dom_Inside.b [1, 1, 0, 1, 0]) [(0, .one (.ptr 0 0)), (2, .one (.p (.int .i64 top_1642))), (7, .one (.own 3 1 0 o3_1664.length)), (8, .one (.ptr 2 0)), (9, .one (.p (.bool ok_1643)))] [.box [.mp 1, .p (.int .i64 o0_1644), .p (.int .i64 o0_1645), .p (.int .i64 o0_1646), .p (.int .i64 o0_1647), .p (.int .i64 o0_1648), .p (.int .i64 o0_1649), .p (.int .i64 o0_1650), .p (.int .i64 o0_1651)], .map (enE en_arena_Node o1_1652), .box [.p (.int .i64 o2_1653), .p (.int .i64 o2_1654), .p (.int .i64 o2_1655), .p (.int .i64 o2_1656), .p (.str o2_1657), .p (.sl 2 (o2_1658.map en_api_Run)), .p (.str o2_1659), .p (.int .i64 o2_1660), .p (.sl 4 (o2_1661.map en_api_Attr)), .own 4 3 0 o4_1665.length, .own 5 1 0 o5_1666.length, .p (.str o2_1662), .p (.sl 2 (o2_1663.map en_api_Run))], .row 3 1 o3_1664.length (o3_1664.map en_i64), .row 69 3 o4_1665.length (o4_1665.map en_api_Hook), .row 3 1 o5_1666.length (o5_1666.map en_i64)]
theorem dom_Inside_l1.z : dom_Inside_l1.S 0 := fun _ _ _ _ _ _ _ _ _ _ _ _ _ _ _ _ _ _ _ _ _ _ _ _ _ v h => none_some h
theorem dom_Inside_l1.step (k : Nat) (ih : dom_Inside_l1.S k) : dom_Inside_l1.S (k + 1) := by
  intro top_1642 o0_1644 o0_1645 o0_1646 o0_1647 o0_1648 o0_1649 o0_1650 o0_1651 o1_1652 ok_1643 o2_1653 o2_1654 o2_1655 o2_1656 o2_1657 o2_1658 o2_1659 o2_1660 o2_1661 o2_1662 o2_1663 o3_1664 o4_1665 o5_1666 v h res st c0 c1
  rw [dom_Inside_l1] at h
  rcases ite_some h with ⟨c_1673, h⟩ | ⟨c_1673, h⟩
  · obtain ⟨t_1674, ht_1674, h⟩ := bind_some h
    refine pathE 508 [.b true, .b true, .b true, .b true, .call [3] (slices_Contains_int_int_v1.R o2_1653 o3_1664 t_1674) (slices_Contains_int_int_v1.S1 o2_1653 o3_1664 t_1674), .b true, .i 2, .keep [0, 2, 7, 8, 23], .stop] (ai c_1673 <| ai rT <| ai rT <| ai rT <| ai (slices_Contains_int_int_v1.ok k o2_1653 o3_1664 t_1674 ht_1674) <| ai rT <| (?_ : RunE Try.prog ⟨2, dom_Inside.rs, res, st⟩ (koOf dom_Inside.b .done [1, 1, 0, 1, 0, 0, 0, 1]) [(0, .one (.ptr 0 0)), (2, .one (.p (.int .i64 top_1642))), (7, .one (.own 3 1 0 o3_1664.length)), (8, .one (.ptr 2 0)), (23, .one (.p (.bool (!t_1674))))] [.box [.mp 1, .p (.int .i64 o0_1644), .p (.int .i64 o0_1645), .p (.int .i64 o0_1646), .p (.int .i64 o0_1647), .p (.int .i64 o0_1648), .p (.int .i64 o0_1649), .p (.int .i64 o0_1650), .p (.int .i64 o0_1651)], .map (enE en_arena_Node o1_1652), .box [.p (.int .i64 o2_1653), .p (.int .i64 o2_1654), .p (.int .i64 o2_1655), .p (.int .i64 o2_1656), .p (.str o2_1657), .p (.sl 2 (o2_1658.map en_api_Run)), .p (.str o2_1659), .p (.int .i64 o2_1660), .p (.sl 4 (o2_1661.map en_api_Attr)), .own 4 3 0 o4_1665.length, .own 5 1 0 o5_1666.length, .p (.str o2_1662), .p (.sl 2 (o2_1663.map en_api_Run))], .row 3 1 o3_1664.length (o3_1664.map en_i64), .row 69 3 o4_1665.length (o4_1665.map en_api_Hook), .row 3 1 o5_1666.length (o5_1666.map en_i64)])) (by kernel_rfl)
    rcases ite_some h with ⟨c_1675, h⟩ | ⟨c_1675, h⟩
    · rcases ite_some h with ⟨c_1676, h⟩ | ⟨c_1676, h⟩
      · obtain rfl := Option.some.inj h
        exact pathE 472 [.b true, .b true, .i 4, .gc [0, 1], .keep [6], .stop] (ai c_1675 <| ai (beq_iff_eq.2 c_1676) <| ((c0 () rfl) (koAfter dom_Inside.b [1, 1, 0, 1, 0, 0, 1, 0, 0, 0, 1, 0, 1]))) (by kernel_rfl)
      · obtain ⟨g_1677, h⟩ := guard_some h
        obtain ⟨t_1678, ht_1678, h⟩ := bind_some h
        exact pathE 496 [.b true, .b false, .a (([o2_1653] : List Int).map en_i64) ((o3_1664 ++ ([o2_1653] : List Int)).map en_i64) (o3_1664 ++ ([o2_1653] : List Int)).length, .call [0, 1] (arena_Arena_Get.R o2_1655 o0_1644 o0_1645 o0_1646 o0_1647 o0_1648 o0_1649 o0_1650 o0_1651 o1_1652 t_1678) (arena_Arena_Get.S1 o2_1655 o0_1644 o0_1645 o0_1646 o0_1647 o0_1648 o0_1649 o0_1650 o0_1651 o1_1652 t_1678), .i 6, .gc [0, 1, 8, 7, 9, 10], .keep [0, 2, 7, 8, 9], .stop] (ai c_1675 <| ai (beq_eq_false_iff_ne.2 c_1676) <| ai (set_obE en_i64 (l := ([o2_1653] : List Int)) (m := 1) rfl) <| ai (appo_obE en_i64 (l := o3_1664) (m := ([o2_1653] : List Int)) (n := o3_1664.length) rfl (b := 8) g_1677) <| ai (arena_Arena_Get.ok k o2_1655 o0_1644 o0_1645 o0_1646 o0_1647 o0_1648 o0_1649 o0_1650 o0_1651 o1_1652 t_1678 ht_1678) <| (ih top_1642 o0_1644 o0_1645 o0_1646 o0_1647 o0_1648 o0_1649 o0_1650 o0_1651 o1_1652 t_1678.2 t_1678.1.Id t_1678.1.Owner t_1678.1.Parent t_1678.1.Kind t_1678.1.Tag.Text t_1678.1.Tag.Runs t_1678.1.Key t_1678.1.Slot t_1678.1.Attrs t_1678.1.Text.Text t_1678.1.Text.Runs (o3_1664 ++ ([o2_1653] : List Int)) t_1678.1.Hooks t_1678.1.Kids _ h res st c0 c1)) (by kernel_rfl)
    · obtain rfl := Option.some.inj h
      exact pathE 460 [.b false, .i 1, .gc [0, 1], .keep [], .stop] (ai (bool_false c_1675) <| (c1 () rfl)) (by kernel_rfl)
  · obtain rfl := Option.some.inj h
    exact pathE 520 [.b false, .b false, .b false, .b false, .b false, .b false, .i 1, .gc [0, 1], .keep [], .stop] (ai (bool_false c_1673) <| ai rF <| ai rF <| ai rF <| ai rF <| ai rF <| (c1 () rfl)) (by kernel_rfl)
theorem dom_Inside_l1.ok : ∀ k, dom_Inside_l1.S k
  | 0 => dom_Inside_l1.z
  | k + 1 => dom_Inside_l1.step k (dom_Inside_l1.ok k)
def dom_Inside.f (k : Nat) (id_1317 : Int) (top_1318 : Int) (o1_1327 : (List (Int × arena_Node))) : Option (Bool) := ((arena_Arena_Get.f k id_1317 o1_1327).bind fun t_1583 => (Option.bind (dom_Inside_l1 k top_1318 o1_1327 t_1583.2 t_1583.1.Id t_1583.1.Parent ([] : List Int)) (Sum.elim (fun x_1680 => (some true)) (fun x_1681 => (some false)))))
theorem dom_Inside.run (k : Nat) (id_1317 : Int) (top_1318 : Int) (o0_1319 : Int) (o0_1320 : Int) (o0_1321 : Int) (o0_1322 : Int) (o0_1323 : Int) (o0_1324 : Int) (o0_1325 : Int) (o0_1326 : Int) (o1_1327 : (List (Int × arena_Node))) (r : Bool) (h : dom_Inside.f k id_1317 top_1318 o1_1327 = some r) (res : Vv) (st : Sto) (hr : (dom_Inside.R id_1317 top_1318 o0_1319 o0_1320 o0_1321 o0_1322 o0_1323 o0_1324 o0_1325 o0_1326 o1_1327 r, dom_Inside.S1 id_1317 top_1318 o0_1319 o0_1320 o0_1321 o0_1322 o0_1323 o0_1324 o0_1325 o0_1326 o1_1327 r) = (res, st)) : RunE Try.prog ⟨2, dom_Inside.rs, res, st⟩ (.st dom_Inside.b .done) (argE 0 (dom_Inside.A id_1317 top_1318 o0_1319 o0_1320 o0_1321 o0_1322 o0_1323 o0_1324 o0_1325 o0_1326 o1_1327)) (dom_Inside.S0 id_1317 top_1318 o0_1319 o0_1320 o0_1321 o0_1322 o0_1323 o0_1324 o0_1325 o0_1326 o1_1327) := by
  unfold dom_Inside.f at h
  obtain ⟨t_1583, ht_1583, h⟩ := bind_some h
  obtain ⟨v_1679, hv_1679, h⟩ := bind_some h
  refine pathE 472 [.call [0, 1] (arena_Arena_Get.R id_1317 o0_1319 o0_1320 o0_1321 o0_1322 o0_1323 o0_1324 o0_1325 o0_1326 o1_1327 t_1583) (arena_Arena_Get.S1 id_1317 o0_1319 o0_1320 o0_1321 o0_1322 o0_1323 o0_1324 o0_1325 o0_1326 o1_1327 t_1583), .i 9, .mkown 7 3 1, .gc [0, 1, 4, 5, 2, 3], .keep [0, 2, 7, 8, 9], .stop] (ai (arena_Arena_Get.ok k id_1317 o0_1319 o0_1320 o0_1321 o0_1322 o0_1323 o0_1324 o0_1325 o0_1326 o1_1327 t_1583 ht_1583) <| (dom_Inside_l1.ok k top_1318 o0_1319 o0_1320 o0_1321 o0_1322 o0_1323 o0_1324 o0_1325 o0_1326 o1_1327 t_1583.2 t_1583.1.Id t_1583.1.Owner t_1583.1.Parent t_1583.1.Kind t_1583.1.Tag.Text t_1583.1.Tag.Runs t_1583.1.Key t_1583.1.Slot t_1583.1.Attrs t_1583.1.Text.Text t_1583.1.Text.Runs ([] : List Int) t_1583.1.Hooks t_1583.1.Kids v_1679 hv_1679 res st ?_ ?_)) (by kernel_rfl)
  · intro x_1680 hx
    subst hx
    replace h := sum_l h
    intro k
    obtain rfl := Option.some.inj h
    exact pathE 412 [.fin [0, 1]] (hr) (by kernel_rfl)
  · intro x_1681 hx
    subst hx
    replace h := sum_r h
    obtain rfl := Option.some.inj h
    exact pathE 424 [.i 4, .fin [0, 1]] (hr) (by kernel_rfl)
theorem dom_Inside.ok (k : Nat) (id_1317 : Int) (top_1318 : Int) (o0_1319 : Int) (o0_1320 : Int) (o0_1321 : Int) (o0_1322 : Int) (o0_1323 : Int) (o0_1324 : Int) (o0_1325 : Int) (o0_1326 : Int) (o1_1327 : (List (Int × arena_Node))) (r : Bool) (h : dom_Inside.f k id_1317 top_1318 o1_1327 = some r) : OkS Try.prog 92 (dom_Inside.A id_1317 top_1318 o0_1319 o0_1320 o0_1321 o0_1322 o0_1323 o0_1324 o0_1325 o0_1326 o1_1327) (dom_Inside.S0 id_1317 top_1318 o0_1319 o0_1320 o0_1321 o0_1322 o0_1323 o0_1324 o0_1325 o0_1326 o1_1327) (dom_Inside.R id_1317 top_1318 o0_1319 o0_1320 o0_1321 o0_1322 o0_1323 o0_1324 o0_1325 o0_1326 o1_1327 r) (dom_Inside.S1 id_1317 top_1318 o0_1319 o0_1320 o0_1321 o0_1322 o0_1323 o0_1324 o0_1325 o0_1326 o1_1327 r) := okE Try.func92 m92 rfl rfl rfl (dom_Inside.run k id_1317 top_1318 o0_1319 o0_1320 o0_1321 o0_1322 o0_1323 o0_1324 o0_1325 o0_1326 o1_1327 r h _ _ rfl)
-- 101 (*glazier/arena.Arena).Set
def d101 : FnDef := ⟨46, [.tmp 4],
  (.seq
  (.ops [
    ⟨some 3, .box (.t 1), none⟩,
    ⟨some 4, .mv (.c (.one (.p (.int .i64 0)))), none⟩] [0, 3, 5])
  (.seq
  (.seq
  (.ops [
    ⟨some 7, .mv (.t 0), none⟩,
    ⟨some 8, .call 93 [(.t 7)], none⟩,
    ⟨some 9, .un .not (.t 8), none⟩] [0, 3, 5, 9])
  (.cond (.t 9)
    (.seq
    (.ops [
      ⟨some 4, .mv (.c (.one (.p (.int .i64 9)))), none⟩] [4])
    .ret)
    .skip))
  (.seq
  (.drawn [
    ⟨⟨some 11, .mv (.t 0), none⟩, [], false⟩,
    ⟨⟨some 12, .nilck (.t 11), none⟩, [0], false⟩,
    ⟨⟨some 13, .faddr 0 (.t 12), none⟩, [0, 1], false⟩,
    ⟨⟨some 14, .load 1 false (.t 13), none⟩, [0, 1, 2], false⟩,
    ⟨⟨some 15, .faddr 0 (.t 3), none⟩, [], false⟩,
    ⟨⟨some 16, .load 1 false (.t 15), none⟩, [4], false⟩,
    ⟨⟨some 17, .look [.p (.int .i64 0), .p (.int .i64 0), .p (.int .i64 0), .p (.int .i64 0), .p (.str []), .nil 2, .p (.str []), .p (.int .i64 0), .nil 4, .nil 3, .nil 1, .p (.str []), .nil 2] (.t 14) (.t 16) true, none⟩, [0, 1, 2, 3, 4, 5], false⟩,
    ⟨⟨some 10, .mv (.t 17), none⟩, [0, 1, 2, 3, 4, 5, 6], false⟩,
    ⟨⟨some 18, .ext (.t 10) 0, none⟩, [0, 1, 2, 3, 4, 5, 6, 7], false⟩,
    ⟨⟨some 19, .ext (.t 10) 1, none⟩, [0, 1, 2, 3, 4, 5, 6, 7], false⟩,
    ⟨⟨some 5, .alloc [.p (.int .i64 0), .p (.int .i64 0), .p (.int .i64 0), .p (.int .i64 0), .p (.str []), .nil 2, .p (.str []), .p (.int .i64 0), .nil 4, .nil 3, .nil 1, .p (.str []), .nil 2], none⟩, [], true⟩,
    ⟨⟨none, .store 13 (.t 5) (.t 18), none⟩, [0, 1, 2, 3, 4, 5, 6, 7, 8, 10], true⟩,
    ⟨⟨some 6, .mv (.t 19), none⟩, [0, 1, 2, 3, 4, 5, 6, 7, 8, 9, 10, 11], false⟩] [[], [10], [10, 11]] [0, 3, 5, 6])
  (.seq
  (.seq
  (.ops [
    ⟨some 20, .mv (.t 6), none⟩,
    ⟨some 21, .un .not (.t 20), none⟩] [0, 3, 5, 21])
  (.cond (.t 21)
    (.seq
    (.ops [
      ⟨some 4, .mv (.c (.one (.p (.int .i64 14)))), none⟩] [4])
    .ret)
    .skip))
  (.seq
  (.ops [
    ⟨some 22, .load 13 true (.t 3), none⟩,
    ⟨some 23, .call 103 [(.t 22)], none⟩,
    ⟨none, .store 13 (.t 3) (.t 23), none⟩] [0, 3, 5])
  (.seq
  (.drawn [
    ⟨⟨some 24, .faddr 8 (.t 3), none⟩, [], false⟩,
    ⟨⟨some 25, .load 1 false (.t 24), none⟩, [0], false⟩,
    ⟨⟨some 26, .faddr 9 (.t 3), none⟩, [], false⟩,
    ⟨⟨some 27, .load 1 false (.t 26), none⟩, [2], false⟩,
    ⟨⟨some 28, .faddr 10 (.t 3), none⟩, [], false⟩,
    ⟨⟨some 29, .load 1 false (.t 28), none⟩, [4], false⟩,
    ⟨⟨some 30, .faddr 11 (.t 3), none⟩, [], false⟩,
    ⟨⟨some 31, .load 2 true (.t 30), none⟩, [6], false⟩,
    ⟨⟨some 32, .faddr 2 (.t 3), none⟩, [], false⟩,
    ⟨⟨some 33, .load 1 false (.t 32), none⟩, [8], false⟩,
    ⟨⟨some 34, .faddr 8 (.t 5), none⟩, [0, 1], false⟩,
    ⟨⟨none, .store 1 (.t 34) (.t 25), none⟩, [0, 1, 10], true⟩,
    ⟨⟨some 35, .faddr 9 (.t 5), none⟩, [0, 1, 2, 3, 10, 11], false⟩,
    ⟨⟨none, .store 1 (.t 35) (.t 27), none⟩, [0, 1, 2, 3, 10, 11, 12], true⟩,
    ⟨⟨some 36, .faddr 10 (.t 5), none⟩, [0, 1, 2, 3, 4, 5, 10, 11, 12, 13], false⟩,
    ⟨⟨none, .store 1 (.t 36) (.t 29), none⟩, [0, 1, 2, 3, 4, 5, 10, 11, 12, 13, 14], true⟩,
    ⟨⟨some 37, .faddr 11 (.t 5), none⟩, [0, 1, 2, 3, 4, 5, 6, 7, 10, 11, 12, 13, 14, 15], false⟩,
    ⟨⟨none, .store 2 (.t 37) (.t 31), none⟩, [0, 1, 2, 3, 4, 5, 6, 7, 10, 11, 12, 13, 14, 15, 16], true⟩,
    ⟨⟨some 38, .faddr 2 (.t 5), none⟩, [0, 1, 2, 3, 4, 5, 6, 7, 8, 9, 10, 11, 12, 13, 14, 15, 16, 17], false⟩,
    ⟨⟨none, .store 1 (.t 38) (.t 33), none⟩, [0, 1, 2, 3, 4, 5, 6, 7, 8, 9, 10, 11, 12, 13, 14, 15, 16, 17, 18], true⟩] [[], [11], [11, 13], [11, 13, 15], [11, 13, 15, 17], [11, 13, 15, 17, 19]] [0, 3, 5])
  (.seq
  (.drawn [
    ⟨⟨some 39, .mv (.t 0), none⟩, [], false⟩,
    ⟨⟨some 40, .nilck (.t 39), none⟩, [0], false⟩,
    ⟨⟨some 41, .faddr 0 (.t 40), none⟩, [0, 1], false⟩,
    ⟨⟨some 42, .load 1 false (.t 41), none⟩, [0, 1, 2], false⟩,
    ⟨⟨some 43, .faddr 0 (.t 3), none⟩, [], false⟩,
    ⟨⟨some 44, .load 1 false (.t 43), none⟩, [4], false⟩,
    ⟨⟨some 45, .load 13 true (.t 5), none⟩, [], false⟩,
    ⟨⟨none, .mset (.t 42) (.t 44) (.t 45), none⟩, [0, 1, 2, 3, 4, 5, 6], true⟩] [[], [7]] [])
  (.seq
  (.ops [
    ⟨some 4, .mv (.c (.one (.p (.int .i64 0)))), none⟩] [4])
  .ret))))))))⟩
theorem m101 : mFn Try.prog d101 Try.f101 = true := by kernel_rfl
def arena_Arena_Set.A (n_1322 : arena_Node) (o0_1323 : Int) (o0_1324 : Int) (o0_1325 : Int) (o0_1326 : Int) (o0_1327 : Int) (o0_1328 : Int) (o0_1329 : Int) (o0_1330 : Int) (o1_1331 : (List (Int × arena_Node))) : List Vv := [.one (.ptr 0 0), .agg [.p (.int .i64 n_1322.Id), .p (.int .i64 n_1322.Owner), .p (.int .i64 n_1322.Parent), .p (.int .i64 n_1322.Kind), .p (.str n_1322.Tag.Text), .p (.sl 2 (n_1322.Tag.Runs.map en_api_Run)), .p (.str n_1322.Key), .p (.int .i64 n_1322.Slot), .p (.sl 4 (n_1322.Attrs.map en_api_Attr)), .p (.sl 3 (n_1322.Hooks.map en_api_Hook)), .p (.sl 1 (n_1322.Kids.map en_i64)), .p (.str n_1322.Text.Text), .p (.sl 2 (n_1322.Text.Runs.map en_api_Run))]]
def arena_Arena_Set.S0 (n_1322 : arena_Node) (o0_1323 : Int) (o0_1324 : Int) (o0_1325 : Int) (o0_1326 : Int) (o0_1327 : Int) (o0_1328 : Int) (o0_1329 : Int) (o0_1330 : Int) (o1_1331 : (List (Int × arena_Node))) : Sto := [.box [.mp 1, .p (.int .i64 o0_1323), .p (.int .i64 o0_1324), .p (.int .i64 o0_1325), .p (.int .i64 o0_1326), .p (.int .i64 o0_1327), .p (.int .i64 o0_1328), .p (.int .i64 o0_1329), .p (.int .i64 o0_1330)], .map (enE en_arena_Node o1_1331)]
def arena_Arena_Set.R (n_1322 : arena_Node) (o0_1323 : Int) (o0_1324 : Int) (o0_1325 : Int) (o0_1326 : Int) (o0_1327 : Int) (o0_1328 : Int) (o0_1329 : Int) (o0_1330 : Int) (o1_1331 : (List (Int × arena_Node))) (r_0 : Int × (List (Int × arena_Node))) : Vv := .one (.p (.int .i64 r_0.1))
def arena_Arena_Set.S1 (n_1322 : arena_Node) (o0_1323 : Int) (o0_1324 : Int) (o0_1325 : Int) (o0_1326 : Int) (o0_1327 : Int) (o0_1328 : Int) (o0_1329 : Int) (o0_1330 : Int) (o1_1331 : (List (Int × arena_Node))) (r_0 : Int × (List (Int × arena_Node))) : Sto := [.box [.mp 1, .p (.int .i64 o0_1323), .p (.int .i64 o0_1324), .p (.int .i64 o0_1325), .p (.int .i64 o0_1326), .p (.int .i64 o0_1327), .p (.int .i64 o0_1328), .p (.int .i64 o0_1329), .p (.int .i64 o0_1330)], .map (enE en_arena_Node r_0.2)]
def arena_Arena_Set.rs : List Rv := d101.res
def arena_Arena_Set.b : Sx := d101.body
def arena_Arena_Set.f (k : Nat) (n_1322 : arena_Node) (o1_1331 : (List (Int × arena_Node))) : Option (Int × (List (Int × arena_Node))) := ((arena_Arena_is.f).bind fun t_1338 => (oel (asc o1_1331 n_1322.Id) (some (14, o1_1331)) fun v_1339 => ((arena_own.f k n_1322).bind fun t_1340 => (some (0, (aput o1_1331 t_1340.Id (arena_Node.mk v_1339.Id v_1339.Owner t_1340.Parent v_1339.Kind v_1339.Tag v_1339.Key v_1339.Slot t_1340.Attrs t_1340.Hooks t_1340.Kids t_1340.Text)))))))
theorem arena_Arena_Set.run (k : Nat) (n_1322 : arena_Node) (o0_1323 : Int) (o0_1324 : Int) (o0_1325 : Int) (o0_1326 : Int) (o0_1327 : Int) (o0_1328 : Int) (o0_1329 : Int) (o0_1330 : Int) (o1_1331 : (List (Int × arena_Node))) (r : Int × (List (Int × arena_Node))) (h : arena_Arena_Set.f k n_1322 o1_1331 = some r) (res : Vv) (st : Sto) (hr : (arena_Arena_Set.R n_1322 o0_1323 o0_1324 o0_1325 o0_1326 o0_1327 o0_1328 o0_1329 o0_1330 o1_1331 r, arena_Arena_Set.S1 n_1322 o0_1323 o0_1324 o0_1325 o0_1326 o0_1327 o0_1328 o0_1329 o0_1330 o1_1331 r) = (res, st)) : RunE Try.prog ⟨2, arena_Arena_Set.rs, res, st⟩ (.st arena_Arena_Set.b .done) (argE 0 (arena_Arena_Set.A n_1322 o0_1323 o0_1324 o0_1325 o0_1326 o0_1327 o0_1328 o0_1329 o0_1330 o1_1331)) (arena_Arena_Set.S0 n_1322 o0_1323 o0_1324 o0_1325 o0_1326 o0_1327 o0_1328 o0_1329 o0_1330 o1_1331) := by
  unfold arena_Arena_Set.f at h
  obtain ⟨t_1338, ht_1338, h⟩ := bind_some h
  rcases oel_some h with ⟨hv_1339, h⟩ | ⟨v_1339, hv_1339, h⟩
  · obtain rfl := Option.some.inj h
    exact pathE 472 [.call [0, 1] (arena_Arena_is.R o0_1323 o0_1324 o0_1325 o0_1326 o0_1327 o0_1328 o0_1329 o0_1330 o1_1331 t_1338) (arena_Arena_is.S1 o0_1323 o0_1324 o0_1325 o0_1326 o0_1327 o0_1328 o0_1329 o0_1330 o1_1331 t_1338), .b false, .dr 0 [[], [], [], [], [], [], [.e none], [], [], [], [], [], []] [.one (.ptr 0 0), .one (.ptr 0 0), .one (.ptr 0 0), .one (.mp 1), .one (.ptr 2 0), .one (.p (.int .i64 n_1322.Id)), .tup [.agg [.p (.int .i64 0), .p (.int .i64 0), .p (.int .i64 0), .p (.int .i64 0), .p (.str []), .nil 2, .p (.str []), .p (.int .i64 0), .nil 4, .nil 3, .nil 1, .p (.str []), .nil 2], .one (.p (.bool false))], .tup [.agg [.p (.int .i64 0), .p (.int .i64 0), .p (.int .i64 0), .p (.int .i64 0), .p (.str []), .nil 2, .p (.str []), .p (.int .i64 0), .nil 4, .nil 3, .nil 1, .p (.str []), .nil 2], .one (.p (.bool false))], .agg [.p (.int .i64 0), .p (.int .i64 0), .p (.int .i64 0), .p (.int .i64 0), .p (.str []), .nil 2, .p (.str []), .p (.int .i64 0), .nil 4, .nil 3, .nil 1, .p (.str []), .nil 2], .one (.p (.bool false)), .one (.ptr 3 0), .top, .one (.p (.bool false))] [[], [], [], [], [], [], [], [], [], [], [(3, .box [.p (.int .i64 0), .p (.int .i64 0), .p (.int .i64 0), .p (.int .i64 0), .p (.str []), .nil 2, .p (.str []), .p (.int .i64 0), .nil 4, .nil 3, .nil 1, .p (.str []), .nil 2])], [], []], .b true, .i 4, .fin [0, 1]] (ai (arena_Arena_is.ok o0_1323 o0_1324 o0_1325 o0_1326 o0_1327 o0_1328 o0_1329 o0_1330 o1_1331 t_1338 ht_1338) <| ai rF <| ai (asc_ob en_arena_Node hv_1339) <| ai (asc_ob en_arena_Node hv_1339) <| ai (drE arena_Arena_Set.b [1, 1, 0] [.one (.ptr 0 0), .one (.ptr 0 0), .one (.ptr 0 0), .one (.mp 1), .one (.ptr 2 0), .one (.p (.int .i64 n_1322.Id)), .tup [.agg [.p (.int .i64 0), .p (.int .i64 0), .p (.int .i64 0), .p (.int .i64 0), .p (.str []), .nil 2, .p (.str []), .p (.int .i64 0), .nil 4, .nil 3, .nil 1, .p (.str []), .nil 2], .one (.p (.bool false))], .tup [.agg [.p (.int .i64 0), .p (.int .i64 0), .p (.int .i64 0), .p (.int .i64 0), .p (.str []), .nil 2, .p (.str []), .p (.int .i64 0), .nil 4, .nil 3, .nil 1, .p (.str []), .nil 2], .one (.p (.bool false))], .agg [.p (.int .i64 0), .p (.int .i64 0), .p (.int .i64 0), .p (.int .i64 0), .p (.str []), .nil 2, .p (.str []), .p (.int .i64 0), .nil 4, .nil 3, .nil 1, .p (.str []), .nil 2], .one (.p (.bool false)), .one (.ptr 3 0), .top, .one (.p (.bool false))] [[], [], [], [], [], [], [], [], [], [], [(3, .box [.p (.int .i64 0), .p (.int .i64 0), .p (.int .i64 0), .p (.int .i64 0), .p (.str []), .nil 2, .p (.str []), .p (.int .i64 0), .nil 4, .nil 3, .nil 1, .p (.str []), .nil 2])], [], []] ([.box [.mp 1, .p (.int .i64 o0_1323), .p (.int .i64 o0_1324), .p (.int .i64 o0_1325), .p (.int .i64 o0_1326), .p (.int .i64 o0_1327), .p (.int .i64 o0_1328), .p (.int .i64 o0_1329), .p (.int .i64 o0_1330)], .map (enE en_arena_Node o1_1331), .box [.p (.int .i64 n_1322.Id), .p (.int .i64 n_1322.Owner), .p (.int .i64 n_1322.Parent), .p (.int .i64 n_1322.Kind), .p (.str n_1322.Tag.Text), .p (.sl 2 (n_1322.Tag.Runs.map en_api_Run)), .p (.str n_1322.Key), .p (.int .i64 n_1322.Slot), .p (.sl 4 (n_1322.Attrs.map en_api_Attr)), .p (.sl 3 (n_1322.Hooks.map en_api_Hook)), .p (.sl 1 (n_1322.Kids.map en_i64)), .p (.str n_1322.Text.Text), .p (.sl 2 (n_1322.Text.Runs.map en_api_Run))]] ++ List.replicate 0 .res)) <| ai rT <| hr) (by kernel_rfl)
  · obtain ⟨t_1340, ht_1340, h⟩ := bind_some h
    obtain rfl := Option.some.inj h
    exact pathE 508 [.call [0, 1] (arena_Arena_is.R o0_1323 o0_1324 o0_1325 o0_1326 o0_1327 o0_1328 o0_1329 o0_1330 o1_1331 t_1338) (arena_Arena_is.S1 o0_1323 o0_1324 o0_1325 o0_1326 o0_1327 o0_1328 o0_1329 o0_1330 o1_1331 t_1338), .b false, .dr 0 [[], [], [], [], [], [], [.e (some (en_arena_Node v_1339))], [], [], [], [], [], []] [.one (.ptr 0 0), .one (.ptr 0 0), .one (.ptr 0 0), .one (.mp 1), .one (.ptr 2 0), .one (.p (.int .i64 n_1322.Id)), .tup [.agg [.p (.int .i64 v_1339.Id), .p (.int .i64 v_1339.Owner), .p (.int .i64 v_1339.Parent), .p (.int .i64 v_1339.Kind), .p (.str v_1339.Tag.Text), .p (.sl 2 (v_1339.Tag.Runs.map en_api_Run)), .p (.str v_1339.Key), .p (.int .i64 v_1339.Slot), .p (.sl 4 (v_1339.Attrs.map en_api_Attr)), .p (.sl 3 (v_1339.Hooks.map en_api_Hook)), .p (.sl 1 (v_1339.Kids.map en_i64)), .p (.str v_1339.Text.Text), .p (.sl 2 (v_1339.Text.Runs.map en_api_Run))], .one (.p (.bool true))], .tup [.agg [.p (.int .i64 v_1339.Id), .p (.int .i64 v_1339.Owner), .p (.int .i64 v_1339.Parent), .p (.int .i64 v_1339.Kind), .p (.str v_1339.Tag.Text), .p (.sl 2 (v_1339.Tag.Runs.map en_api_Run)), .p (.str v_1339.Key), .p (.int .i64 v_1339.Slot), .p (.sl 4 (v_1339.Attrs.map en_api_Attr)), .p (.sl 3 (v_1339.Hooks.map en_api_Hook)), .p (.sl 1 (v_1339.Kids.map en_i64)), .p (.str v_1339.Text.Text), .p (.sl 2 (v_1339.Text.Runs.map en_api_Run))], .one (.p (.bool true))], .agg [.p (.int .i64 v_1339.Id), .p (.int .i64 v_1339.Owner), .p (.int .i64 v_1339.Parent), .p (.int .i64 v_1339.Kind), .p (.str v_1339.Tag.Text), .p (.sl 2 (v_1339.Tag.Runs.map en_api_Run)), .p (.str v_1339.Key), .p (.int .i64 v_1339.Slot), .p (.sl 4 (v_1339.Attrs.map en_api_Attr)), .p (.sl 3 (v_1339.Hooks.map en_api_Hook)), .p (.sl 1 (v_1339.Kids.map en_i64)), .p (.str v_1339.Text.Text), .p (.sl 2 (v_1339.Text.Runs.map en_api_Run))], .one (.p (.bool true)), .one (.ptr 3 0), .top, .one (.p (.bool true))] [[], [], [], [], [], [], [], [], [], [], [(3, .box [.p (.int .i64 0), .p (.int .i64 0), .p (.int .i64 0), .p (.int .i64 0), .p (.str []), .nil 2, .p (.str []), .p (.int .i64 0), .nil 4, .nil 3, .nil 1, .p (.str []), .nil 2])], [(3, .box [.p (.int .i64 v_1339.Id), .p (.int .i64 v_1339.Owner), .p (.int .i64 v_1339.Parent), .p (.int .i64 v_1339.Kind), .p (.str v_1339.Tag.Text), .p (.sl 2 (v_1339.Tag.Runs.map en_api_Run)), .p (.str v_1339.Key), .p (.int .i64 v_1339.Slot), .p (.sl 4 (v_1339.Attrs.map en_api_Attr)), .p (.sl 3 (v_1339.Hooks.map en_api_Hook)), .p (.sl 1 (v_1339.Kids.map en_i64)), .p (.str v_1339.Text.Text), .p (.sl 2 (v_1339.Text.Runs.map en_api_Run))])], []], .b false, .call [] (arena_own.R n_1322 t_1340) (arena_own.S1 n_1322 t_1340), .dr 0 [[], [], [], [], [], [], [], [], [], [], [], [], [], [], [], [], [], [], [], []] [.one (.ptr 2 8), .one (.p (.sl 4 (t_1340.Attrs.map en_api_Attr))), .one (.ptr 2 9), .one (.own 4 3 0 t_1340.Hooks.length), .one (.ptr 2 10), .one (.own 5 1 0 t_1340.Kids.length), .one (.ptr 2 11), .agg [.p (.str t_1340.Text.Text), .p (.sl 2 (t_1340.Text.Runs.map en_api_Run))], .one (.ptr 2 2), .one (.p (.int .i64 t_1340.Parent)), .one (.ptr 3 8), .top, .one (.ptr 3 9), .top, .one (.ptr 3 10), .top, .one (.ptr 3 11), .top, .one (.ptr 3 2), .top] [[], [], [], [], [], [], [], [], [], [], [], [(3, .box [.p (.int .i64 v_1339.Id), .p (.int .i64 v_1339.Owner), .p (.int .i64 v_1339.Parent), .p (.int .i64 v_1339.Kind), .p (.str v_1339.Tag.Text), .p (.sl 2 (v_1339.Tag.Runs.map en_api_Run)), .p (.str v_1339.Key), .p (.int .i64 v_1339.Slot), .p (.sl 4 (t_1340.Attrs.map en_api_Attr)), .p (.sl 3 (v_1339.Hooks.map en_api_Hook)), .p (.sl 1 (v_1339.Kids.map en_i64)), .p (.str v_1339.Text.Text), .p (.sl 2 (v_1339.Text.Runs.map en_api_Run))])], [], [(3, .box [.p (.int .i64 v_1339.Id), .p (.int .i64 v_1339.Owner), .p (.int .i64 v_1339.Parent), .p (.int .i64 v_1339.Kind), .p (.str v_1339.Tag.Text), .p (.sl 2 (v_1339.Tag.Runs.map en_api_Run)), .p (.str v_1339.Key), .p (.int .i64 v_1339.Slot), .p (.sl 4 (t_1340.Attrs.map en_api_Attr)), .own 4 3 0 t_1340.Hooks.length, .p (.sl 1 (v_1339.Kids.map en_i64)), .p (.str v_1339.Text.Text), .p (.sl 2 (v_1339.Text.Runs.map en_api_Run))])], [], [(3, .box [.p (.int .i64 v_1339.Id), .p (.int .i64 v_1339.Owner), .p (.int .i64 v_1339.Parent), .p (.int .i64 v_1339.Kind), .p (.str v_1339.Tag.Text), .p (.sl 2 (v_1339.Tag.Runs.map en_api_Run)), .p (.str v_1339.Key), .p (.int .i64 v_1339.Slot), .p (.sl 4 (t_1340.Attrs.map en_api_Attr)), .own 4 3 0 t_1340.Hooks.length, .own 5 1 0 t_1340.Kids.length, .p (.str v_1339.Text.Text), .p (.sl 2 (v_1339.Text.Runs.map en_api_Run))])], [], [(3, .box [.p (.int .i64 v_1339.Id), .p (.int .i64 v_1339.Owner), .p (.int .i64 v_1339.Parent), .p (.int .i64 v_1339.Kind), .p (.str v_1339.Tag.Text), .p (.sl 2 (v_1339.Tag.Runs.map en_api_Run)), .p (.str v_1339.Key), .p (.int .i64 v_1339.Slot), .p (.sl 4 (t_1340.Attrs.map en_api_Attr)), .own 4 3 0 t_1340.Hooks.length, .own 5 1 0 t_1340.Kids.length, .p (.str t_1340.Text.Text), .p (.sl 2 (t_1340.Text.Runs.map en_api_Run))])], [], [(3, .box [.p (.int .i64 v_1339.Id), .p (.int .i64 v_1339.Owner), .p (.int .i64 t_1340.Parent), .p (.int .i64 v_1339.Kind), .p (.str v_1339.Tag.Text), .p (.sl 2 (v_1339.Tag.Runs.map en_api_Run)), .p (.str v_1339.Key), .p (.int .i64 v_1339.Slot), .p (.sl 4 (t_1340.Attrs.map en_api_Attr)), .own 4 3 0 t_1340.Hooks.length, .own 5 1 0 t_1340.Kids.length, .p (.str t_1340.Text.Text), .p (.sl 2 (t_1340.Text.Runs.map en_api_Run))])]], .dr 0 [[], [], [], [], [], [], [], [.z (t_1340.Hooks.map en_api_Hook), .z (t_1340.Kids.map en_i64), .m (enE en_arena_Node (aput o1_1331 t_1340.Id (arena_Node.mk v_1339.Id v_1339.Owner t_1340.Parent v_1339.Kind v_1339.Tag v_1339.Key v_1339.Slot t_1340.Attrs t_1340.Hooks t_1340.Kids t_1340.Text)))]] [.one (.ptr 0 0), .one (.ptr 0 0), .one (.ptr 0 0), .one (.mp 1), .one (.ptr 2 0), .one (.p (.int .i64 t_1340.Id)), .agg [.p (.int .i64 v_1339.Id), .p (.int .i64 v_1339.Owner), .p (.int .i64 t_1340.Parent), .p (.int .i64 v_1339.Kind), .p (.str v_1339.Tag.Text), .p (.sl 2 (v_1339.Tag.Runs.map en_api_Run)), .p (.str v_1339.Key), .p (.int .i64 v_1339.Slot), .p (.sl 4 (t_1340.Attrs.map en_api_Attr)), .own 4 3 0 t_1340.Hooks.length, .own 5 1 0 t_1340.Kids.length, .p (.str t_1340.Text.Text), .p (.sl 2 (t_1340.Text.Runs.map en_api_Run))], .top] [[], [], [], [], [], [], [], [(1, .map (enE en_arena_Node (aput o1_1331 t_1340.Id (arena_Node.mk v_1339.Id v_1339.Owner t_1340.Parent v_1339.Kind v_1339.Tag v_1339.Key v_1339.Slot t_1340.Attrs t_1340.Hooks t_1340.Kids t_1340.Text)))), (4, .fro 3 (t_1340.Hooks.map en_api_Hook)), (5, .fro 1 (t_1340.Kids.map en_i64))]], .i 4, .fin [0, 1]] (ai (arena_Arena_is.ok o0_1323 o0_1324 o0_1325 o0_1326 o0_1327 o0_1328 o0_1329 o0_1330 o1_1331 t_1338 ht_1338) <| ai rF <| ai (asc_ob en_arena_Node hv_1339) <| ai (asc_ob en_arena_Node hv_1339) <| ai (drE arena_Arena_Set.b [1, 1, 0] [.one (.ptr 0 0), .one (.ptr 0 0), .one (.ptr 0 0), .one (.mp 1), .one (.ptr 2 0), .one (.p (.int .i64 n_1322.Id)), .tup [.agg [.p (.int .i64 v_1339.Id), .p (.int .i64 v_1339.Owner), .p (.int .i64 v_1339.Parent), .p (.int .i64 v_1339.Kind), .p (.str v_1339.Tag.Text), .p (.sl 2 (v_1339.Tag.Runs.map en_api_Run)), .p (.str v_1339.Key), .p (.int .i64 v_1339.Slot), .p (.sl 4 (v_1339.Attrs.map en_api_Attr)), .p (.sl 3 (v_1339.Hooks.map en_api_Hook)), .p (.sl 1 (v_1339.Kids.map en_i64)), .p (.str v_1339.Text.Text), .p (.sl 2 (v_1339.Text.Runs.map en_api_Run))], .one (.p (.bool true))], .tup [.agg [.p (.int .i64 v_1339.Id), .p (.int .i64 v_1339.Owner), .p (.int .i64 v_1339.Parent), .p (.int .i64 v_1339.Kind), .p (.str v_1339.Tag.Text), .p (.sl 2 (v_1339.Tag.Runs.map en_api_Run)), .p (.str v_1339.Key), .p (.int .i64 v_1339.Slot), .p (.sl 4 (v_1339.Attrs.map en_api_Attr)), .p (.sl 3 (v_1339.Hooks.map en_api_Hook)), .p (.sl 1 (v_1339.Kids.map en_i64)), .p (.str v_1339.Text.Text), .p (.sl 2 (v_1339.Text.Runs.map en_api_Run))], .one (.p (.bool true))], .agg [.p (.int .i64 v_1339.Id), .p (.int .i64 v_1339.Owner), .p (.int .i64 v_1339.Parent), .p (.int .i64 v_1339.Kind), .p (.str v_1339.Tag.Text), .p (.sl 2 (v_1339.Tag.Runs.map en_api_Run)), .p (.str v_1339.Key), .p (.int .i64 v_1339.Slot), .p (.sl 4 (v_1339.Attrs.map en_api_Attr)), .p (.sl 3 (v_1339.Hooks.map en_api_Hook)), .p (.sl 1 (v_1339.Kids.map en_i64)), .p (.str v_1339.Text.Text), .p (.sl 2 (v_1339.Text.Runs.map en_api_Run))], .one (.p (.bool true)), .one (.ptr 3 0), .top, .one (.p (.bool true))] [[], [], [], [], [], [], [], [], [], [], [(3, .box [.p (.int .i64 0), .p (.int .i64 0), .p (.int .i64 0), .p (.int .i64 0), .p (.str []), .nil 2, .p (.str []), .p (.int .i64 0), .nil 4, .nil 3, .nil 1, .p (.str []), .nil 2])], [(3, .box [.p (.int .i64 v_1339.Id), .p (.int .i64 v_1339.Owner), .p (.int .i64 v_1339.Parent), .p (.int .i64 v_1339.Kind), .p (.str v_1339.Tag.Text), .p (.sl 2 (v_1339.Tag.Runs.map en_api_Run)), .p (.str v_1339.Key), .p (.int .i64 v_1339.Slot), .p (.sl 4 (v_1339.Attrs.map en_api_Attr)), .p (.sl 3 (v_1339.Hooks.map en_api_Hook)), .p (.sl 1 (v_1339.Kids.map en_i64)), .p (.str v_1339.Text.Text), .p (.sl 2 (v_1339.Text.Runs.map en_api_Run))])], []] ([.box [.mp 1, .p (.int .i64 o0_1323), .p (.int .i64 o0_1324), .p (.int .i64 o0_1325), .p (.int .i64 o0_1326), .p (.int .i64 o0_1327), .p (.int .i64 o0_1328), .p (.int .i64 o0_1329), .p (.int .i64 o0_1330)], .map (enE en_arena_Node o1_1331), .box [.p (.int .i64 n_1322.Id), .p (.int .i64 n_1322.Owner), .p (.int .i64 n_1322.Parent), .p (.int .i64 n_1322.Kind), .p (.str n_1322.Tag.Text), .p (.sl 2 (n_1322.Tag.Runs.map en_api_Run)), .p (.str n_1322.Key), .p (.int .i64 n_1322.Slot), .p (.sl 4 (n_1322.Attrs.map en_api_Attr)), .p (.sl 3 (n_1322.Hooks.map en_api_Hook)), .p (.sl 1 (n_1322.Kids.map en_i64)), .p (.str n_1322.Text.Text), .p (.sl 2 (n_1322.Text.Runs.map en_api_Run))]] ++ List.replicate 0 .res)) <| ai rF <| ai (arena_own.ok k n_1322 t_1340 ht_1340) <| ai (drE arena_Arena_Set.b [1, 1, 1, 1, 1, 0] [.one (.ptr 2 8), .one (.p (.sl 4 (t_1340.Attrs.map en_api_Attr))), .one (.ptr 2 9), .one (.own 4 3 0 t_1340.Hooks.length), .one (.ptr 2 10), .one (.own 5 1 0 t_1340.Kids.length), .one (.ptr 2 11), .agg [.p (.str t_1340.Text.Text), .p (.sl 2 (t_1340.Text.Runs.map en_api_Run))], .one (.ptr 2 2), .one (.p (.int .i64 t_1340.Parent)), .one (.ptr 3 8), .top, .one (.ptr 3 9), .top, .one (.ptr 3 10), .top, .one (.ptr 3 11), .top, .one (.ptr 3 2), .top] [[], [], [], [], [], [], [], [], [], [], [], [(3, .box [.p (.int .i64 v_1339.Id), .p (.int .i64 v_1339.Owner), .p (.int .i64 v_1339.Parent), .p (.int .i64 v_1339.Kind), .p (.str v_1339.Tag.Text), .p (.sl 2 (v_1339.Tag.Runs.map en_api_Run)), .p (.str v_1339.Key), .p (.int .i64 v_1339.Slot), .p (.sl 4 (t_1340.Attrs.map en_api_Attr)), .p (.sl 3 (v_1339.Hooks.map en_api_Hook)), .p (.sl 1 (v_1339.Kids.map en_i64)), .p (.str v_1339.Text.Text), .p (.sl 2 (v_1339.Text.Runs.map en_api_Run))])], [], [(3, .box [.p (.int .i64 v_1339.Id), .p (.int .i64 v_1339.Owner), .p (.int .i64 v_1339.Parent), .p (.int .i64 v_1339.Kind), .p (.str v_1339.Tag.Text), .p (.sl 2 (v_1339.Tag.Runs.map en_api_Run)), .p (.str v_1339.Key), .p (.int .i64 v_1339.Slot), .p (.sl 4 (t_1340.Attrs.map en_api_Attr)), .own 4 3 0 t_1340.Hooks.length, .p (.sl 1 (v_1339.Kids.map en_i64)), .p (.str v_1339.Text.Text), .p (.sl 2 (v_1339.Text.Runs.map en_api_Run))])], [], [(3, .box [.p (.int .i64 v_1339.Id), .p (.int .i64 v_1339.Owner), .p (.int .i64 v_1339.Parent), .p (.int .i64 v_1339.Kind), .p (.str v_1339.Tag.Text), .p (.sl 2 (v_1339.Tag.Runs.map en_api_Run)), .p (.str v_1339.Key), .p (.int .i64 v_1339.Slot), .p (.sl 4 (t_1340.Attrs.map en_api_Attr)), .own 4 3 0 t_1340.Hooks.length, .own 5 1 0 t_1340.Kids.length, .p (.str v_1339.Text.Text), .p (.sl 2 (v_1339.Text.Runs.map en_api_Run))])], [], [(3, .box [.p (.int .i64 v_1339.Id), .p (.int .i64 v_1339.Owner), .p (.int .i64 v_1339.Parent), .p (.int .i64 v_1339.Kind), .p (.str v_1339.Tag.Text), .p (.sl 2 (v_1339.Tag.Runs.map en_api_Run)), .p (.str v_1339.Key), .p (.int .i64 v_1339.Slot), .p (.sl 4 (t_1340.Attrs.map en_api_Attr)), .own 4 3 0 t_1340.Hooks.length, .own 5 1 0 t_1340.Kids.length, .p (.str t_1340.Text.Text), .p (.sl 2 (t_1340.Text.Runs.map en_api_Run))])], [], [(3, .box [.p (.int .i64 v_1339.Id), .p (.int .i64 v_1339.Owner), .p (.int .i64 t_1340.Parent), .p (.int .i64 v_1339.Kind), .p (.str v_1339.Tag.Text), .p (.sl 2 (v_1339.Tag.Runs.map en_api_Run)), .p (.str v_1339.Key), .p (.int .i64 v_1339.Slot), .p (.sl 4 (t_1340.Attrs.map en_api_Attr)), .own 4 3 0 t_1340.Hooks.length, .own 5 1 0 t_1340.Kids.length, .p (.str t_1340.Text.Text), .p (.sl 2 (t_1340.Text.Runs.map en_api_Run))])]] ([.box [.mp 1, .p (.int .i64 o0_1323), .p (.int .i64 o0_1324), .p (.int .i64 o0_1325), .p (.int .i64 o0_1326), .p (.int .i64 o0_1327), .p (.int .i64 o0_1328), .p (.int .i64 o0_1329), .p (.int .i64 o0_1330)], .map (enE en_arena_Node o1_1331), .box [.p (.int .i64 t_1340.Id), .p (.int .i64 t_1340.Owner), .p (.int .i64 t_1340.Parent), .p (.int .i64 t_1340.Kind), .p (.str t_1340.Tag.Text), .p (.sl 2 (t_1340.Tag.Runs.map en_api_Run)), .p (.str t_1340.Key), .p (.int .i64 t_1340.Slot), .p (.sl 4 (t_1340.Attrs.map en_api_Attr)), .own 4 3 0 t_1340.Hooks.length, .own 5 1 0 t_1340.Kids.length, .p (.str t_1340.Text.Text), .p (.sl 2 (t_1340.Text.Runs.map en_api_Run))], .box [.p (.int .i64 v_1339.Id), .p (.int .i64 v_1339.Owner), .p (.int .i64 v_1339.Parent), .p (.int .i64 v_1339.Kind), .p (.str v_1339.Tag.Text), .p (.sl 2 (v_1339.Tag.Runs.map en_api_Run)), .p (.str v_1339.Key), .p (.int .i64 v_1339.Slot), .p (.sl 4 (v_1339.Attrs.map en_api_Attr)), .p (.sl 3 (v_1339.Hooks.map en_api_Hook)), .p (.sl 1 (v_1339.Kids.map en_i64)), .p (.str v_1339.Text.Text), .p (.sl 2 (v_1339.Text.Runs.map en_api_Run))], .row 69 3 t_1340.Hooks.length (t_1340.Hooks.map en_api_Hook), .row 3 1 t_1340.Kids.length (t_1340.Kids.map en_i64)] ++ List.replicate 0 .res)) <| ai (set_obE en_api_Hook (l := t_1340.Hooks) (m := t_1340.Hooks.length) rfl) <| ai (set_obE en_i64 (l := t_1340.Kids) (m := t_1340.Kids.length) rfl) <| ai (aput_ob en_arena_Node o1_1331 t_1340.Id (arena_Node.mk v_1339.Id v_1339.Owner t_1340.Parent v_1339.Kind v_1339.Tag v_1339.Key v_1339.Slot t_1340.Attrs t_1340.Hooks t_1340.Kids t_1340.Text)) <| ai (drE arena_Arena_Set.b [1, 1, 1, 1, 1, 1, 0] [.one (.ptr 0 0), .one (.ptr 0 0), .one (.ptr 0 0), .one (.mp 1), .one (.ptr 2 0), .one (.p (.int .i64 t_1340.Id)), .agg [.p (.int .i64 v_1339.Id), .p (.int .i64 v_1339.Owner), .p (.int .i64 t_1340.Parent), .p (.int .i64 v_1339.Kind), .p (.str v_1339.Tag.Text), .p (.sl 2 (v_1339.Tag.Runs.map en_api_Run)), .p (.str v_1339.Key), .p (.int .i64 v_1339.Slot), .p (.sl 4 (t_1340.Attrs.map en_api_Attr)), .own 4 3 0 t_1340.Hooks.length, .own 5 1 0 t_1340.Kids.length, .p (.str t_1340.Text.Text), .p (.sl 2 (t_1340.Text.Runs.map en_api_Run))], .top] [[], [], [], [], [], [], [], [(1, .map (enE en_arena_Node (aput o1_1331 t_1340.Id (arena_Node.mk v_1339.Id v_1339.Owner t_1340.Parent v_1339.Kind v_1339.Tag v_1339.Key v_1339.Slot t_1340.Attrs t_1340.Hooks t_1340.Kids t_1340.Text)))), (4, .fro 3 (t_1340.Hooks.map en_api_Hook)), (5, .fro 1 (t_1340.Kids.map en_i64))]] ([.box [.mp 1, .p (.int .i64 o0_1323), .p (.int .i64 o0_1324), .p (.int .i64 o0_1325), .p (.int .i64 o0_1326), .p (.int .i64 o0_1327), .p (.int .i64 o0_1328), .p (.int .i64 o0_1329), .p (.int .i64 o0_1330)], .map (enE en_arena_Node o1_1331), .box [.p (.int .i64 t_1340.Id), .p (.int .i64 t_1340.Owner), .p (.int .i64 t_1340.Parent), .p (.int .i64 t_1340.Kind), .p (.str t_1340.Tag.Text), .p (.sl 2 (t_1340.Tag.Runs.map en_api_Run)), .p (.str t_1340.Key), .p (.int .i64 t_1340.Slot), .p (.sl 4 (t_1340.Attrs.map en_api_Attr)), .own 4 3 0 t_1340.Hooks.length, .own 5 1 0 t_1340.Kids.length, .p (.str t_1340.Text.Text), .p (.sl 2 (t_1340.Text.Runs.map en_api_Run))], .box [.p (.int .i64 v_1339.Id), .p (.int .i64 v_1339.Owner), .p (.int .i64 t_1340.Parent), .p (.int .i64 v_1339.Kind), .p (.str v_1339.Tag.Text), .p (.sl 2 (v_1339.Tag.Runs.map en_api_Run)), .p (.str v_1339.Key), .p (.int .i64 v_1339.Slot), .p (.sl 4 (t_1340.Attrs.map en_api_Attr)), .own 4 3 0 t_1340.Hooks.length, .own 5 1 0 t_1340.Kids.length, .p (.str t_1340.Text.Text), .p (.sl 2 (t_1340.Text.Runs.map en_api_Run))], .row 69 3 t_1340.Hooks.length (t_1340.Hooks.map en_api_Hook), .row 3 1 t_1340.Kids.length (t_1340.Kids.map en_i64)] ++ List.replicate 0 .res)) <| hr) (by kernel_rfl)
theorem arena_Arena_Set.ok (k : Nat) (n_1322 : arena_Node) (o0_1323 : Int) (o0_1324 : Int) (o0_1325 : Int) (o0_1326 : Int) (o0_1327 : Int) (o0_1328 : Int) (o0_1329 : Int) (o0_1330 : Int) (o1_1331 : (List (Int × arena_Node))) (r : Int × (List (Int × arena_Node))) (h : arena_Arena_Set.f k n_1322 o1_1331 = some r) : OkS Try.prog 101 (arena_Arena_Set.A n_1322 o0_1323 o0_1324 o0_1325 o0_1326 o0_1327 o0_1328 o0_1329 o0_1330 o1_1331) (arena_Arena_Set.S0 n_1322 o0_1323 o0_1324 o0_1325 o0_1326 o0_1327 o0_1328 o0_1329 o0_1330 o1_1331) (arena_Arena_Set.R n_1322 o0_1323 o0_1324 o0_1325 o0_1326 o0_1327 o0_1328 o0_1329 o0_1330 o1_1331 r) (arena_Arena_Set.S1 n_1322 o0_1323 o0_1324 o0_1325 o0_1326 o0_1327 o0_1328 o0_1329 o0_1330 o1_1331 r) := okE Try.func101 m101 rfl rfl rfl (arena_Arena_Set.run k n_1322 o0_1323 o0_1324 o0_1325 o0_1326 o0_1327 o0_1328 o0_1329 o0_1330 o1_1331 r h _ _ rfl)
-- 62 glazier/dom.Insert
def d62 : FnDef := ⟨74, [.tmp 8],
  (.seq
  (.ops [
    ⟨some 8, .mv (.c (.one (.p (.int .i64 0)))), none⟩] [0, 1, 2, 3])
  (.seq
  (.ops [
    ⟨some 14, .mv (.t 0), none⟩,
    ⟨some 15, .mv (.t 1), none⟩,
    ⟨some 16, .call 34 [(.t 14), (.t 15)], none⟩,
    ⟨some 13, .mv (.t 16), none⟩,
    ⟨some 17, .ext (.t 13) 0, none⟩,
    ⟨some 18, .ext (.t 13) 1, none⟩,
    ⟨some 9, .alloc [.p (.int .i64 0), .p (.int .i64 0), .p (.int .i64 0), .p (.int .i64 0), .p (.str []), .nil 2, .p (.str []), .p (.int .i64 0), .nil 4, .nil 3, .nil 1, .p (.str []), .nil 2], none⟩,
    ⟨none, .store 13 (.t 9) (.t 17), none⟩,
    ⟨some 10, .mv (.t 18), none⟩] [0, 1, 2, 3, 9, 10])
  (.seq
  (.ops [
    ⟨some 20, .mv (.t 0), none⟩,
    ⟨some 21, .mv (.t 3), none⟩,
    ⟨some 22, .call 34 [(.t 20), (.t 21)], none⟩,
    ⟨some 19, .mv (.t 22), none⟩,
    ⟨some 23, .ext (.t 19) 0, none⟩,
    ⟨some 24, .ext (.t 19) 1, none⟩,
    ⟨some 11, .alloc [.p (.int .i64 0), .p (.int .i64 0), .p (.int .i64 0), .p (.int .i64 0), .p (.str []), .nil 2, .p (.str []), .p (.int .i64 0), .nil 4, .nil 3, .nil 1, .p (.str []), .nil 2], none⟩,
    ⟨none, .store 13 (.t 11) (.t 23), none⟩,
    ⟨some 12, .mv (.t 24), none⟩] [0, 1, 2, 3, 9, 10, 11, 12])
  (.seq
  (.block 0
    (.seq
    (.ops [
      ⟨some 26, .mv (.t 10), none⟩,
      ⟨some 27, .un .not (.t 26), none⟩,
      ⟨some 28, .mv (.t 27), none⟩,
      ⟨some 29, .mv (.t 12), some (28, false)⟩,
      ⟨some 30, .un .not (.t 29), some (28, false)⟩,
      ⟨some 31, .pick (.t 28) (.c (.one (.p (.bool true)))) (.t 30), none⟩,
      ⟨some 25, .mv (.t 31), none⟩] [0, 1, 2, 3, 9, 11, 25])
    (.cond (.t 25)
      (.seq
      (.ops [
        ⟨some 8, .mv (.c (.one (.p (.int .i64 14)))), none⟩] [8])
      .ret)
      (.seq
      (.ops [
        ⟨some 33, .faddr 3 (.t 9), none⟩,
        ⟨some 34, .load 1 false (.t 33), none⟩,
        ⟨some 35, .bin 0 .eql (.t 34) (.c (.one (.p (.int .i64 2)))), none⟩,
        ⟨some 32, .mv (.t 35), none⟩] [0, 1, 2, 3, 9, 11, 32])
      (.cond (.t 32)
        (.seq
        (.ops [
          ⟨some 8, .mv (.c (.one (.p (.int .i64 12)))), none⟩] [8])
        .ret)
        (.seq
        (.ops [
          ⟨some 37, .faddr 2 (.t 11), none⟩,
          ⟨some 38, .load 1 false (.t 37), none⟩,
          ⟨some 39, .bin 0 .geq (.t 38) (.c (.one (.p (.int .i64 0)))), none⟩,
          ⟨some 40, .mv (.t 39), none⟩,
          ⟨some 41, .mv (.t 3), some (40, false)⟩,
          ⟨some 42, .bin 0 .eql (.t 41) (.c (.one (.p (.int .i64 0)))), some (40, false)⟩,
          ⟨some 43, .pick (.t 40) (.c (.one (.p (.bool true)))) (.t 42), none⟩,
          ⟨some 36, .mv (.t 43), none⟩] [0, 1, 2, 3, 9, 11, 36])
        (.cond (.t 36)
          (.seq
          (.ops [
            ⟨some 8, .mv (.c (.one (.p (.int .i64 9)))), none⟩] [8])
          .ret)
          (.seq
          (.ops [
            ⟨some 45, .mv (.t 0), none⟩,
            ⟨some 46, .mv (.t 1), none⟩,
            ⟨some 47, .mv (.t 3), none⟩,
            ⟨some 48, .call 92 [(.t 45), (.t 46), (.t 47)], none⟩,
            ⟨some 44, .mv (.t 48), none⟩] [0, 1, 2, 3, 9, 11, 44])
          (.cond (.t 44)
            (.seq
            (.ops [
              ⟨some 8, .mv (.c (.one (.p (.int .i64 26)))), none⟩] [8])
            .ret)
            (.seq
            (.ops [
              ⟨some 50, .mv (.t 2), none⟩,
              ⟨some 51, .bin 0 .lss (.t 50) (.c (.one (.p (.int .i64 0)))), none⟩,
              ⟨some 52, .mv (.t 51), none⟩,
              ⟨some 53, .mv (.t 2), some (52, false)⟩,
              ⟨some 54, .faddr 10 (.t 9), some (52, false)⟩,
              ⟨some 55, .load 1 false (.t 54), some (52, false)⟩,
              ⟨some 56, .len false (.t 55), some (52, false)⟩,
              ⟨some 57, .bin 0 .gtr (.t 53) (.t 56), some (52, false)⟩,
              ⟨some 58, .pick (.t 52) (.c (.one (.p (.bool true)))) (.t 57), none⟩,
              ⟨some 49, .mv (.t 58), none⟩] [0, 1, 2, 3, 9, 11, 49])
            (.cond (.t 49)
              (.seq
              (.ops [
                ⟨some 8, .mv (.c (.one (.p (.int .i64 4)))), none⟩] [8])
              .ret)
              .skip)))))))))))
  (.seq
  (.ops [
    ⟨some 59, .faddr 10 (.t 9), none⟩,
    ⟨some 60, .load 1 false (.t 59), none⟩,
    ⟨some 61, .mv (.t 2), none⟩,
    ⟨some 62, .mv (.t 3), none⟩,
    ⟨some 63, .bslice 3 1 [(.t 62)], none⟩,
    ⟨some 64, .call 120 [(.t 60), (.t 61), (.t 63)], none⟩,
    ⟨some 65, .faddr 10 (.t 9), none⟩,
    ⟨none, .store 1 (.t 65) (.t 64), none⟩] [0, 1, 9, 11])
  (.seq
  (.ops [
    ⟨some 66, .mv (.t 0), none⟩,
    ⟨some 67, .load 13 true (.t 9), none⟩,
    ⟨some 68, .call 101 [(.t 66), (.t 67)], none⟩] [0, 1, 11])
  (.seq
  (.ops [
    ⟨some 69, .mv (.t 1), none⟩,
    ⟨some 70, .faddr 2 (.t 11), none⟩,
    ⟨none, .store 1 (.t 70) (.t 69), none⟩] [0, 11])
  (.seq
  (.ops [
    ⟨some 71, .mv (.t 0), none⟩,
    ⟨some 72, .load 13 true (.t 11), none⟩,
    ⟨some 73, .call 101 [(.t 71), (.t 72)], none⟩,
    ⟨some 8, .mv (.t 73), none⟩] [8])
  .ret))))))))⟩
theorem m62 : mFn Try.prog d62 Try.f62 = true := by kernel_rfl
def dom_Insert.A (parent_1298 : Int) (at_1299 : Int) (child_1300 : Int) (o0_1301 : Int) (o0_1302 : Int) (o0_1303 : Int) (o0_1304 : Int) (o0_1305 : Int) (o0_1306 : Int) (o0_1307 : Int) (o0_1308 : Int) (o1_1309 : (List (Int × arena_Node))) : List Vv := [.one (.ptr 0 0), .one (.p (.int .i64 parent_1298)), .one (.p (.int .i64 at_1299)), .one (.p (.int .i64 child_1300))]
def dom_Insert.S0 (parent_1298 : Int) (at_1299 : Int) (child_1300 : Int) (o0_1301 : Int) (o0_1302 : Int) (o0_1303 : Int) (o0_1304 : Int) (o0_1305 : Int) (o0_1306 : Int) (o0_1307 : Int) (o0_1308 : Int) (o1_1309 : (List (Int × arena_Node))) : Sto := [.box [.mp 1, .p (.int .i64 o0_1301), .p (.int .i64 o0_1302), .p (.int .i64 o0_1303), .p (.int .i64 o0_1304), .p (.int .i64 o0_1305), .p (.int .i64 o0_1306), .p (.int .i64 o0_1307), .p (.int .i64 o0_1308)], .map (enE en_arena_Node o1_1309)]
def dom_Insert.R (parent_1298 : Int) (at_1299 : Int) (child_1300 : Int) (o0_1301 : Int) (o0_1302 : Int) (o0_1303 : Int) (o0_1304 : Int) (o0_1305 : Int) (o0_1306 : Int) (o0_1307 : Int) (o0_1308 : Int) (o1_1309 : (List (Int × arena_Node))) (r_0 : Int × (List (Int × arena_Node))) : Vv := .one (.p (.int .i64 r_0.1))
def dom_Insert.S1 (parent_1298 : Int) (at_1299 : Int) (child_1300 : Int) (o0_1301 : Int) (o0_1302 : Int) (o0_1303 : Int) (o0_1304 : Int) (o0_1305 : Int) (o0_1306 : Int) (o0_1307 : Int) (o0_1308 : Int) (o1_1309 : (List (Int × arena_Node))) (r_0 : Int × (List (Int × arena_Node))) : Sto := [.box [.mp 1, .p (.int .i64 o0_1301), .p (.int .i64 o0_1302), .p (.int .i64 o0_1303), .p (.int .i64 o0_1304), .p (.int .i64 o0_1305), .p (.int .i64 o0_1306), .p (.int .i64 o0_1307), .p (.int .i64 o0_1308)], .map (enE en_arena_Node r_0.2)]
def dom_Insert.rs : List Rv := d62.res
def dom_Insert.b : Sx := d62.body
def dom_Insert.f (k : Nat) (parent_1298 : Int) (at_1299 : Int) (child_1300 : Int) (o1_1309 : (List (Int × arena_Node))) : Option (Int × (List (Int × arena_Node))) := ((arena_Arena_Get.f k parent_1298 o1_1309).bind fun t_1357 => ((arena_Arena_Get.f k child_1300 o1_1309).bind fun t_1358 => (if (!t_1357.2) = true then (some (14, o1_1309)) else (if (!t_1358.2) = true then (some (14, o1_1309)) else (if t_1357.1.Kind = 2 then (some (12, o1_1309)) else (if t_1358.1.Parent ≥ 0 then (some (9, o1_1309)) else (if child_1300 = 0 then (some (9, o1_1309)) else ((dom_Inside.f k parent_1298 child_1300 o1_1309).bind fun t_1364 => (if t_1364 = true then (some (26, o1_1309)) else (if at_1299 < 0 then (some (4, o1_1309)) else (if at_1299 > (t_1357.1.Kids.length : Int) then (some (4, o1_1309)) else (if 0 ≤ at_1299 ∧ at_1299 ≤ ((t_1357.1.Kids.length : Nat) : Int) ∧ (t_1357.1.Kids.length + ([child_1300] : List Int).length) * 8 ≤ room then ((arena_Arena_Set.f k (arena_Node.mk t_1357.1.Id t_1357.1.Owner t_1357.1.Parent t_1357.1.Kind t_1357.1.Tag t_1357.1.Key t_1357.1.Slot t_1357.1.Attrs t_1357.1.Hooks (insL t_1357.1.Kids at_1299 ([child_1300] : List Int)) t_1357.1.Text) o1_1309).bind fun t_1369 => ((arena_Arena_Set.f k (arena_Node.mk t_1358.1.Id t_1358.1.Owner parent_1298 t_1358.1.Kind t_1358.1.Tag t_1358.1.Key t_1358.1.Slot t_1358.1.Attrs t_1358.1.Hooks t_1358.1.Kids t_1358.1.Text) t_1369.2).bind fun t_1370 => (some (t_1370.1, t_1370.2)))) else none))))))))))))
theorem dom_Insert.run (k : Nat) (parent_1298 : Int) (at_1299 : Int) (child_1300 : Int) (o0_1301 : Int) (o0_1302 : Int) (o0_1303 : Int) (o0_1304 : Int) (o0_1305 : Int) (o0_1306 : Int) (o0_1307 : Int) (o0_1308 : Int) (o1_1309 : (List (Int × arena_Node))) (r : Int × (List (Int × arena_Node))) (h : dom_Insert.f k parent_1298 at_1299 child_1300 o1_1309 = some r) (res : Vv) (st : Sto) (hr : (dom_Insert.R parent_1298 at_1299 child_1300 o0_1301 o0_1302 o0_1303 o0_1304 o0_1305 o0_1306 o0_1307 o0_1308 o1_1309 r, dom_Insert.S1 parent_1298 at_1299 child_1300 o0_1301 o0_1302 o0_1303 o0_1304 o0_1305 o0_1306 o0_1307 o0_1308 o1_1309 r) = (res, st)) : RunE Try.prog ⟨2, dom_Insert.rs, res, st⟩ (.st dom_Insert.b .done) (argE 0 (dom_Insert.A parent_1298 at_1299 child_1300 o0_1301 o0_1302 o0_1303 o0_1304 o0_1305 o0_1306 o0_1307 o0_1308 o1_1309)) (dom_Insert.S0 parent_1298 at_1299 child_1300 o0_1301 o0_1302 o0_1303 o0_1304 o0_1305 o0_1306 o0_1307 o0_1308 o1_1309) := by
  unfold dom_Insert.f at h
  obtain ⟨t_1357, ht_1357, h⟩ := bind_some h
  obtain ⟨t_1358, ht_1358, h⟩ := bind_some h
  rcases ite_some h with ⟨c_1359, h⟩ | ⟨c_1359, h⟩
  · obtain rfl := Option.some.inj h
    exact pathE 484 [.call [0, 1] (arena_Arena_Get.R parent_1298 o0_1301 o0_1302 o0_1303 o0_1304 o0_1305 o0_1306 o0_1307 o0_1308 o1_1309 t_1357) (arena_Arena_Get.S1 parent_1298 o0_1301 o0_1302 o0_1303 o0_1304 o0_1305 o0_1306 o0_1307 o0_1308 o1_1309 t_1357), .call [0, 1] (arena_Arena_Get.R child_1300 o0_1301 o0_1302 o0_1303 o0_1304 o0_1305 o0_1306 o0_1307 o0_1308 o1_1309 t_1358) (arena_Arena_Get.S1 child_1300 o0_1301 o0_1302 o0_1303 o0_1304 o0_1305 o0_1306 o0_1307 o0_1308 o1_1309 t_1358), .b true, .b true, .b true, .i 4, .fin [0, 1]] (ai (arena_Arena_Get.ok k parent_1298 o0_1301 o0_1302 o0_1303 o0_1304 o0_1305 o0_1306 o0_1307 o0_1308 o1_1309 t_1357 ht_1357) <| ai (arena_Arena_Get.ok k child_1300 o0_1301 o0_1302 o0_1303 o0_1304 o0_1305 o0_1306 o0_1307 o0_1308 o1_1309 t_1358 ht_1358) <| ai c_1359 <| ai rT <| ai rT <| hr) (by kernel_rfl)
  · refine pathE 496 [.call [0, 1] (arena_Arena_Get.R parent_1298 o0_1301 o0_1302 o0_1303 o0_1304 o0_1305 o0_1306 o0_1307 o0_1308 o1_1309 t_1357) (arena_Arena_Get.S1 parent_1298 o0_1301 o0_1302 o0_1303 o0_1304 o0_1305 o0_1306 o0_1307 o0_1308 o1_1309 t_1357), .call [0, 1] (arena_Arena_Get.R child_1300 o0_1301 o0_1302 o0_1303 o0_1304 o0_1305 o0_1306 o0_1307 o0_1308 o1_1309 t_1358) (arena_Arena_Get.S1 child_1300 o0_1301 o0_1302 o0_1303 o0_1304 o0_1305 o0_1306 o0_1307 o0_1308 o1_1309 t_1358), .b false, .b false, .i 3, .gc [0, 1, 4, 7, 2, 3, 5, 6], .keep [0, 1, 2, 3, 9, 11, 25], .stop] (ai (arena_Arena_Get.ok k parent_1298 o0_1301 o0_1302 o0_1303 o0_1304 o0_1305 o0_1306 o0_1307 o0_1308 o1_1309 t_1357 ht_1357) <| ai (arena_Arena_Get.ok k child_1300 o0_1301 o0_1302 o0_1303 o0_1304 o0_1305 o0_1306 o0_1307 o0_1308 o1_1309 t_1358 ht_1358) <| ai (bool_false c_1359) <| ai rF <| (?_ : RunE Try.prog ⟨2, dom_Insert.rs, res, st⟩ (koOf dom_Insert.b .done [1, 1, 1, 0, 0, 1]) [(0, .one (.ptr 0 0)), (1, .one (.p (.int .i64 parent_1298))), (2, .one (.p (.int .i64 at_1299))), (3, .one (.p (.int .i64 child_1300))), (9, .one (.ptr 2 0)), (11, .one (.ptr 3 0)), (25, .one (.p (.bool (!t_1358.2))))] [.box [.mp 1, .p (.int .i64 o0_1301), .p (.int .i64 o0_1302), .p (.int .i64 o0_1303), .p (.int .i64 o0_1304), .p (.int .i64 o0_1305), .p (.int .i64 o0_1306), .p (.int .i64 o0_1307), .p (.int .i64 o0_1308)], .map (enE en_arena_Node o1_1309), .box [.p (.int .i64 t_1357.1.Id), .p (.int .i64 t_1357.1.Owner), .p (.int .i64 t_1357.1.Parent), .p (.int .i64 t_1357.1.Kind), .p (.str t_1357.1.Tag.Text), .p (.sl 2 (t_1357.1.Tag.Runs.map en_api_Run)), .p (.str t_1357.1.Key), .p (.int .i64 t_1357.1.Slot), .p (.sl 4 (t_1357.1.Attrs.map en_api_Attr)), .own 4 3 0 t_1357.1.Hooks.length, .own 5 1 0 t_1357.1.Kids.length, .p (.str t_1357.1.Text.Text), .p (.sl 2 (t_1357.1.Text.Runs.map en_api_Run))], .box [.p (.int .i64 t_1358.1.Id), .p (.int .i64 t_1358.1.Owner), .p (.int .i64 t_1358.1.Parent), .p (.int .i64 t_1358.1.Kind), .p (.str t_1358.1.Tag.Text), .p (.sl 2 (t_1358.1.Tag.Runs.map en_api_Run)), .p (.str t_1358.1.Key), .p (.int .i64 t_1358.1.Slot), .p (.sl 4 (t_1358.1.Attrs.map en_api_Attr)), .own 6 3 0 t_1358.1.Hooks.length, .own 7 1 0 t_1358.1.Kids.length, .p (.str t_1358.1.Text.Text), .p (.sl 2 (t_1358.1.Text.Runs.map en_api_Run))], .row 69 3 t_1357.1.Hooks.length (t_1357.1.Hooks.map en_api_Hook), .row 3 1 t_1357.1.Kids.length (t_1357.1.Kids.map en_i64), .row 69 3 t_1358.1.Hooks.length (t_1358.1.Hooks.map en_api_Hook), .row 3 1 t_1358.1.Kids.length (t_1358.1.Kids.map en_i64)])) (by kernel_rfl)
    rcases ite_some h with ⟨c_1360, h⟩ | ⟨c_1360, h⟩
    · obtain rfl := Option.some.inj h
      exact pathE 436 [.b true, .i 4, .fin [0, 1]] (ai c_1360 <| hr) (by kernel_rfl)
    · rcases ite_some h with ⟨c_1361, h⟩ | ⟨c_1361, h⟩
      · obtain rfl := Option.some.inj h
        exact pathE 448 [.b false, .b true, .i 4, .fin [0, 1]] (ai (bool_false c_1360) <| ai (beq_iff_eq.2 c_1361) <| hr) (by kernel_rfl)
      · rcases ite_some h with ⟨c_1362, h⟩ | ⟨c_1362, h⟩
        · obtain rfl := Option.some.inj h
          exact pathE 484 [.b false, .b false, .b true, .b true, .b true, .i 4, .fin [0, 1]] (ai (bool_false c_1360) <| ai (beq_eq_false_iff_ne.2 c_1361) <| ai (decide_eq_true c_1362) <| ai rT <| ai rT <| hr) (by kernel_rfl)
        · refine pathE 484 [.b false, .b false, .b false, .b false, .i 3, .keep [0, 1, 2, 3, 9, 11, 36], .stop] (ai (bool_false c_1360) <| ai (beq_eq_false_iff_ne.2 c_1361) <| ai (decide_eq_false c_1362) <| ai rF <| (?_ : RunE Try.prog ⟨2, dom_Insert.rs, res, st⟩ (koOf dom_Insert.b .done [1, 1, 1, 0, 0, 1, 1, 1, 1, 1]) [(0, .one (.ptr 0 0)), (1, .one (.p (.int .i64 parent_1298))), (2, .one (.p (.int .i64 at_1299))), (3, .one (.p (.int .i64 child_1300))), (9, .one (.ptr 2 0)), (11, .one (.ptr 3 0)), (36, .one (.p (.bool (child_1300 == 0))))] [.box [.mp 1, .p (.int .i64 o0_1301), .p (.int .i64 o0_1302), .p (.int .i64 o0_1303), .p (.int .i64 o0_1304), .p (.int .i64 o0_1305), .p (.int .i64 o0_1306), .p (.int .i64 o0_1307), .p (.int .i64 o0_1308)], .map (enE en_arena_Node o1_1309), .box [.p (.int .i64 t_1357.1.Id), .p (.int .i64 t_1357.1.Owner), .p (.int .i64 t_1357.1.Parent), .p (.int .i64 t_1357.1.Kind), .p (.str t_1357.1.Tag.Text), .p (.sl 2 (t_1357.1.Tag.Runs.map en_api_Run)), .p (.str t_1357.1.Key), .p (.int .i64 t_1357.1.Slot), .p (.sl 4 (t_1357.1.Attrs.map en_api_Attr)), .own 4 3 0 t_1357.1.Hooks.length, .own 5 1 0 t_1357.1.Kids.length, .p (.str t_1357.1.Text.Text), .p (.sl 2 (t_1357.1.Text.Runs.map en_api_Run))], .box [.p (.int .i64 t_1358.1.Id), .p (.int .i64 t_1358.1.Owner), .p (.int .i64 t_1358.1.Parent), .p (.int .i64 t_1358.1.Kind), .p (.str t_1358.1.Tag.Text), .p (.sl 2 (t_1358.1.Tag.Runs.map en_api_Run)), .p (.str t_1358.1.Key), .p (.int .i64 t_1358.1.Slot), .p (.sl 4 (t_1358.1.Attrs.map en_api_Attr)), .own 6 3 0 t_1358.1.Hooks.length, .own 7 1 0 t_1358.1.Kids.length, .p (.str t_1358.1.Text.Text), .p (.sl 2 (t_1358.1.Text.Runs.map en_api_Run))], .row 69 3 t_1357.1.Hooks.length (t_1357.1.Hooks.map en_api_Hook), .row 3 1 t_1357.1.Kids.length (t_1357.1.Kids.map en_i64), .row 69 3 t_1358.1.Hooks.length (t_1358.1.Hooks.map en_api_Hook), .row 3 1 t_1358.1.Kids.length (t_1358.1.Kids.map en_i64)])) (by kernel_rfl)
          rcases ite_some h with ⟨c_1363, h⟩ | ⟨c_1363, h⟩
          · obtain rfl := Option.some.inj h
            exact pathE 436 [.b true, .i 4, .fin [0, 1]] (ai (beq_iff_eq.2 c_1363) <| hr) (by kernel_rfl)
          · obtain ⟨t_1364, ht_1364, h⟩ := bind_some h
            rcases ite_some h with ⟨c_1365, h⟩ | ⟨c_1365, h⟩
            · obtain rfl := Option.some.inj h
              exact pathE 460 [.b false, .call [0, 1] (dom_Inside.R parent_1298 child_1300 o0_1301 o0_1302 o0_1303 o0_1304 o0_1305 o0_1306 o0_1307 o0_1308 o1_1309 t_1364) (dom_Inside.S1 parent_1298 child_1300 o0_1301 o0_1302 o0_1303 o0_1304 o0_1305 o0_1306 o0_1307 o0_1308 o1_1309 t_1364), .b true, .i 4, .fin [0, 1]] (ai (beq_eq_false_iff_ne.2 c_1363) <| ai (dom_Inside.ok k parent_1298 child_1300 o0_1301 o0_1302 o0_1303 o0_1304 o0_1305 o0_1306 o0_1307 o0_1308 o1_1309 t_1364 ht_1364) <| ai c_1365 <| hr) (by kernel_rfl)
            · rcases ite_some h with ⟨c_1366, h⟩ | ⟨c_1366, h⟩
              · obtain rfl := Option.some.inj h
                exact pathE 532 [.b false, .call [0, 1] (dom_Inside.R parent_1298 child_1300 o0_1301 o0_1302 o0_1303 o0_1304 o0_1305 o0_1306 o0_1307 o0_1308 o1_1309 t_1364) (dom_Inside.S1 parent_1298 child_1300 o0_1301 o0_1302 o0_1303 o0_1304 o0_1305 o0_1306 o0_1307 o0_1308 o1_1309 t_1364), .b false, .b true, .b true, .b true, .b true, .b true, .b true, .i 4, .fin [0, 1]] (ai (beq_eq_false_iff_ne.2 c_1363) <| ai (dom_Inside.ok k parent_1298 child_1300 o0_1301 o0_1302 o0_1303 o0_1304 o0_1305 o0_1306 o0_1307 o0_1308 o1_1309 t_1364 ht_1364) <| ai (bool_false c_1365) <| ai (decide_eq_true c_1366) <| ai rT <| ai rT <| ai rT <| ai rT <| ai rT <| hr) (by kernel_rfl)
              · refine pathE 532 [.b false, .call [0, 1] (dom_Inside.R parent_1298 child_1300 o0_1301 o0_1302 o0_1303 o0_1304 o0_1305 o0_1306 o0_1307 o0_1308 o1_1309 t_1364) (dom_Inside.S1 parent_1298 child_1300 o0_1301 o0_1302 o0_1303 o0_1304 o0_1305 o0_1306 o0_1307 o0_1308 o1_1309 t_1364), .b false, .b false, .b false, .b false, .b false, .b false, .i 3, .keep [0, 1, 2, 3, 9, 11, 49], .stop] (ai (beq_eq_false_iff_ne.2 c_1363) <| ai (dom_Inside.ok k parent_1298 child_1300 o0_1301 o0_1302 o0_1303 o0_1304 o0_1305 o0_1306 o0_1307 o0_1308 o1_1309 t_1364 ht_1364) <| ai (bool_false c_1365) <| ai (decide_eq_false c_1366) <| ai rF <| ai rF <| ai rF <| ai rF <| (?_ : RunE Try.prog ⟨2, dom_Insert.rs, res, st⟩ (koOf dom_Insert.b .done [1, 1, 1, 0, 0, 1, 1, 1, 1, 1, 1, 1, 1, 1]) [(0, .one (.ptr 0 0)), (1, .one (.p (.int .i64 parent_1298))), (2, .one (.p (.int .i64 at_1299))), (3, .one (.p (.int .i64 child_1300))), (9, .one (.ptr 2 0)), (11, .one (.ptr 3 0)), (49, .one (.p (.bool (decide (at_1299 > (t_1357.1.Kids.length : Int))))))] [.box [.mp 1, .p (.int .i64 o0_1301), .p (.int .i64 o0_1302), .p (.int .i64 o0_1303), .p (.int .i64 o0_1304), .p (.int .i64 o0_1305), .p (.int .i64 o0_1306), .p (.int .i64 o0_1307), .p (.int .i64 o0_1308)], .map (enE en_arena_Node o1_1309), .box [.p (.int .i64 t_1357.1.Id), .p (.int .i64 t_1357.1.Owner), .p (.int .i64 t_1357.1.Parent), .p (.int .i64 t_1357.1.Kind), .p (.str t_1357.1.Tag.Text), .p (.sl 2 (t_1357.1.Tag.Runs.map en_api_Run)), .p (.str t_1357.1.Key), .p (.int .i64 t_1357.1.Slot), .p (.sl 4 (t_1357.1.Attrs.map en_api_Attr)), .own 4 3 0 t_1357.1.Hooks.length, .own 5 1 0 t_1357.1.Kids.length, .p (.str t_1357.1.Text.Text), .p (.sl 2 (t_1357.1.Text.Runs.map en_api_Run))], .box [.p (.int .i64 t_1358.1.Id), .p (.int .i64 t_1358.1.Owner), .p (.int .i64 t_1358.1.Parent), .p (.int .i64 t_1358.1.Kind), .p (.str t_1358.1.Tag.Text), .p (.sl 2 (t_1358.1.Tag.Runs.map en_api_Run)), .p (.str t_1358.1.Key), .p (.int .i64 t_1358.1.Slot), .p (.sl 4 (t_1358.1.Attrs.map en_api_Attr)), .own 6 3 0 t_1358.1.Hooks.length, .own 7 1 0 t_1358.1.Kids.length, .p (.str t_1358.1.Text.Text), .p (.sl 2 (t_1358.1.Text.Runs.map en_api_Run))], .row 69 3 t_1357.1.Hooks.length (t_1357.1.Hooks.map en_api_Hook), .row 3 1 t_1357.1.Kids.length (t_1357.1.Kids.map en_i64), .row 69 3 t_1358.1.Hooks.length (t_1358.1.Hooks.map en_api_Hook), .row 3 1 t_1358.1.Kids.length (t_1358.1.Kids.map en_i64)])) (by kernel_rfl)
                rcases ite_some h with ⟨c_1367, h⟩ | ⟨c_1367, h⟩
                · obtain rfl := Option.some.inj h
                  exact pathE 436 [.b true, .i 4, .fin [0, 1]] (ai (decide_eq_true c_1367) <| hr) (by kernel_rfl)
                · obtain ⟨g_1368, h⟩ := guard_some h
                  obtain ⟨t_1369, ht_1369, h⟩ := bind_some h
                  obtain ⟨t_1370, ht_1370, h⟩ := bind_some h
                  obtain rfl := Option.some.inj h
                  exact pathE 568 [.b false, .call [5, 8] (.one (.own 2 1 0 (insL t_1357.1.Kids at_1299 ([child_1300] : List Int)).length)) [.none, .row 3 1 1 (([child_1300] : List Int).map en_i64), .row 3 1 (insL t_1357.1.Kids at_1299 ([child_1300] : List Int)).length ((insL t_1357.1.Kids at_1299 ([child_1300] : List Int)).map en_i64)], .i 7, .fz 67 [], .z (t_1357.1.Hooks.map en_api_Hook), .z ((insL t_1357.1.Kids at_1299 ([child_1300] : List Int)).map en_i64), .call [0, 1] (arena_Arena_Set.R (arena_Node.mk t_1357.1.Id t_1357.1.Owner t_1357.1.Parent t_1357.1.Kind t_1357.1.Tag t_1357.1.Key t_1357.1.Slot t_1357.1.Attrs t_1357.1.Hooks (insL t_1357.1.Kids at_1299 ([child_1300] : List Int)) t_1357.1.Text) o0_1301 o0_1302 o0_1303 o0_1304 o0_1305 o0_1306 o0_1307 o0_1308 o1_1309 t_1369) (arena_Arena_Set.S1 (arena_Node.mk t_1357.1.Id t_1357.1.Owner t_1357.1.Parent t_1357.1.Kind t_1357.1.Tag t_1357.1.Key t_1357.1.Slot t_1357.1.Attrs t_1357.1.Hooks (insL t_1357.1.Kids at_1299 ([child_1300] : List Int)) t_1357.1.Text) o0_1301 o0_1302 o0_1303 o0_1304 o0_1305 o0_1306 o0_1307 o0_1308 o1_1309 t_1369), .i 11, .fz 72 [], .z (t_1358.1.Hooks.map en_api_Hook), .z (t_1358.1.Kids.map en_i64), .call [0, 1] (arena_Arena_Set.R (arena_Node.mk t_1358.1.Id t_1358.1.Owner parent_1298 t_1358.1.Kind t_1358.1.Tag t_1358.1.Key t_1358.1.Slot t_1358.1.Attrs t_1358.1.Hooks t_1358.1.Kids t_1358.1.Text) o0_1301 o0_1302 o0_1303 o0_1304 o0_1305 o0_1306 o0_1307 o0_1308 t_1369.2 t_1370) (arena_Arena_Set.S1 (arena_Node.mk t_1358.1.Id t_1358.1.Owner parent_1298 t_1358.1.Kind t_1358.1.Tag t_1358.1.Key t_1358.1.Slot t_1358.1.Attrs t_1358.1.Hooks t_1358.1.Kids t_1358.1.Text) o0_1301 o0_1302 o0_1303 o0_1304 o0_1305 o0_1306 o0_1307 o0_1308 t_1369.2 t_1370), .i 2, .fin [0, 1]] (ai (decide_eq_false c_1367) <| ai (insertS lays21 (kc0 := t_1357.1.Kids.length) (kc1 := 1) (t := 3) (n := t_1357.1.Kids.length) (m := 1) rfl rfl (L := t_1357.1.Kids) (i := at_1299) (M := ([child_1300] : List Int)) rfl rfl (by simp) g_1368) <| ai (set_obE en_api_Hook (l := t_1357.1.Hooks) (m := t_1357.1.Hooks.length) rfl) <| ai (set_obE en_i64 (l := (insL t_1357.1.Kids at_1299 ([child_1300] : List Int))) (m := (insL t_1357.1.Kids at_1299 ([child_1300] : List Int)).length) rfl) <| ai (arena_Arena_Set.ok k (arena_Node.mk t_1357.1.Id t_1357.1.Owner t_1357.1.Parent t_1357.1.Kind t_1357.1.Tag t_1357.1.Key t_1357.1.Slot t_1357.1.Attrs t_1357.1.Hooks (insL t_1357.1.Kids at_1299 ([child_1300] : List Int)) t_1357.1.Text) o0_1301 o0_1302 o0_1303 o0_1304 o0_1305 o0_1306 o0_1307 o0_1308 o1_1309 t_1369 ht_1369) <| ai (set_obE en_api_Hook (l := t_1358.1.Hooks) (m := t_1358.1.Hooks.length) rfl) <| ai (set_obE en_i64 (l := t_1358.1.Kids) (m := t_1358.1.Kids.length) rfl) <| ai (arena_Arena_Set.ok k (arena_Node.mk t_1358.1.Id t_1358.1.Owner parent_1298 t_1358.1.Kind t_1358.1.Tag t_1358.1.Key t_1358.1.Slot t_1358.1.Attrs t_1358.1.Hooks t_1358.1.Kids t_1358.1.Text) o0_1301 o0_1302 o0_1303 o0_1304 o0_1305 o0_1306 o0_1307 o0_1308 t_1369.2 t_1370 ht_1370) <| hr) (by kernel_rfl)
theorem dom_Insert.ok (k : Nat) (parent_1298 : Int) (at_1299 : Int) (child_1300 : Int) (o0_1301 : Int) (o0_1302 : Int) (o0_1303 : Int) (o0_1304 : Int) (o0_1305 : Int) (o0_1306 : Int) (o0_1307 : Int) (o0_1308 : Int) (o1_1309 : (List (Int × arena_Node))) (r : Int × (List (Int × arena_Node))) (h : dom_Insert.f k parent_1298 at_1299 child_1300 o1_1309 = some r) : OkS Try.prog 62 (dom_Insert.A parent_1298 at_1299 child_1300 o0_1301 o0_1302 o0_1303 o0_1304 o0_1305 o0_1306 o0_1307 o0_1308 o1_1309) (dom_Insert.S0 parent_1298 at_1299 child_1300 o0_1301 o0_1302 o0_1303 o0_1304 o0_1305 o0_1306 o0_1307 o0_1308 o1_1309) (dom_Insert.R parent_1298 at_1299 child_1300 o0_1301 o0_1302 o0_1303 o0_1304 o0_1305 o0_1306 o0_1307 o0_1308 o1_1309 r) (dom_Insert.S1 parent_1298 at_1299 child_1300 o0_1301 o0_1302 o0_1303 o0_1304 o0_1305 o0_1306 o0_1307 o0_1308 o1_1309 r) := okE Try.func62 m62 rfl rfl rfl (dom_Insert.run k parent_1298 at_1299 child_1300 o0_1301 o0_1302 o0_1303 o0_1304 o0_1305 o0_1306 o0_1307 o0_1308 o1_1309 r h _ _ rfl)
-- 99 glazier/dom.of
def d99 : FnDef := ⟨27, [.cell 6 13 true, .tmp 7],
  (.seq
  (.ops [
    ⟨some 6, .alloc [.p (.int .i64 0), .p (.int .i64 0), .p (.int .i64 0), .p (.int .i64 0), .p (.str []), .nil 2, .p (.str []), .p (.int .i64 0), .nil 4, .nil 3, .nil 1, .p (.str []), .nil 2], none⟩,
    ⟨some 7, .mv (.c (.one (.p (.int .i64 0)))), none⟩] [0, 1, 2, 6])
  (.seq
  (.ops [
    ⟨some 11, .mv (.t 0), none⟩,
    ⟨some 12, .mv (.t 1), none⟩,
    ⟨some 13, .call 34 [(.t 11), (.t 12)], none⟩,
    ⟨some 10, .mv (.t 13), none⟩,
    ⟨some 14, .ext (.t 10) 0, none⟩,
    ⟨some 15, .ext (.t 10) 1, none⟩,
    ⟨some 8, .alloc [.p (.int .i64 0), .p (.int .i64 0), .p (.int .i64 0), .p (.int .i64 0), .p (.str []), .nil 2, .p (.str []), .p (.int .i64 0), .nil 4, .nil 3, .nil 1, .p (.str []), .nil 2], none⟩,
    ⟨none, .store 13 (.t 8) (.t 14), none⟩,
    ⟨some 9, .mv (.t 15), none⟩] [2, 6, 8, 9])
  (.seq
  (.block 0
    (.seq
    (.ops [
      ⟨some 17, .mv (.t 9), none⟩,
      ⟨some 18, .un .not (.t 17), none⟩,
      ⟨some 16, .mv (.t 18), none⟩] [2, 6, 8, 16])
    (.cond (.t 16)
      (.seq
      (.ops [
        ⟨some 19, .build [.p (.int .i64 0), .p (.int .i64 0), .p (.int .i64 0), .p (.int .i64 0), .p (.str []), .nil 2, .p (.str []), .p (.int .i64 0), .nil 4, .nil 3, .nil 1, .p (.str []), .nil 2] [], none⟩,
        ⟨none, .store 13 (.t 6) (.t 19), none⟩,
        ⟨some 7, .mv (.c (.one (.p (.int .i64 14)))), none⟩] [6, 7])
      .ret)
      (.seq
      (.ops [
        ⟨some 21, .faddr 3 (.t 8), none⟩,
        ⟨some 22, .load 1 false (.t 21), none⟩,
        ⟨some 23, .mv (.t 2), none⟩,
        ⟨some 24, .bin 0 .neq (.t 22) (.t 23), none⟩,
        ⟨some 20, .mv (.t 24), none⟩] [6, 8, 20])
      (.cond (.t 20)
        (.seq
        (.ops [
          ⟨some 25, .build [.p (.int .i64 0), .p (.int .i64 0), .p (.int .i64 0), .p (.int .i64 0), .p (.str []), .nil 2, .p (.str []), .p (.int .i64 0), .nil 4, .nil 3, .nil 1, .p (.str []), .nil 2] [], none⟩,
          ⟨none, .store 13 (.t 6) (.t 25), none⟩,
          ⟨some 7, .mv (.c (.one (.p (.int .i64 12)))), none⟩] [6, 7])
        .ret)
        .skip)))))
  (.seq
  (.ops [
    ⟨some 26, .load 13 true (.t 8), none⟩,
    ⟨none, .store 13 (.t 6) (.t 26), none⟩,
    ⟨some 7, .mv (.c (.one (.p (.int .i64 0)))), none⟩] [6, 7])
  .ret))))⟩
theorem m99 : mFn Try.prog d99 Try.f99 = true := by kernel_rfl
def dom_of.A (id_1384 : Int) (kind_1385 : Int) (o0_1386 : Int) (o0_1387 : Int) (o0_1388 : Int) (o0_1389 : Int) (o0_1390 : Int) (o0_1391 : Int) (o0_1392 : Int) (o0_1393 : Int) (o1_1394 : (List (Int × arena_Node))) : List Vv := [.one (.ptr 0 0), .one (.p (.int .i64 id_1384)), .one (.p (.int .i64 kind_1385))]
def dom_of.S0 (id_1384 : Int) (kind_1385 : Int) (o0_1386 : Int) (o0_1387 : Int) (o0_1388 : Int) (o0_1389 : Int) (o0_1390 : Int) (o0_1391 : Int) (o0_1392 : Int) (o0_1393 : Int) (o1_1394 : (List (Int × arena_Node))) : Sto := [.box [.mp 1, .p (.int .i64 o0_1386), .p (.int .i64 o0_1387), .p (.int .i64 o0_1388), .p (.int .i64 o0_1389), .p (.int .i64 o0_1390), .p (.int .i64 o0_1391), .p (.int .i64 o0_1392), .p (.int .i64 o0_1393)], .map (enE en_arena_Node o1_1394)]
def dom_of.R (id_1384 : Int) (kind_1385 : Int) (o0_1386 : Int) (o0_1387 : Int) (o0_1388 : Int) (o0_1389 : Int) (o0_1390 : Int) (o0_1391 : Int) (o0_1392 : Int) (o0_1393 : Int) (o1_1394 : (List (Int × arena_Node))) (r_0 : arena_Node × Int) : Vv := .tup [.agg [.p (.int .i64 r_0.1.Id), .p (.int .i64 r_0.1.Owner), .p (.int .i64 r_0.1.Parent), .p (.int .i64 r_0.1.Kind), .p (.str r_0.1.Tag.Text), .p (.sl 2 (r_0.1.Tag.Runs.map en_api_Run)), .p (.str r_0.1.Key), .p (.int .i64 r_0.1.Slot), .p (.sl 4 (r_0.1.Attrs.map en_api_Attr)), .p (.sl 3 (r_0.1.Hooks.map en_api_Hook)), .p (.sl 1 (r_0.1.Kids.map en_i64)), .p (.str r_0.1.Text.Text), .p (.sl 2 (r_0.1.Text.Runs.map en_api_Run))], .one (.p (.int .i64 r_0.2))]
def dom_of.S1 (id_1384 : Int) (kind_1385 : Int) (o0_1386 : Int) (o0_1387 : Int) (o0_1388 : Int) (o0_1389 : Int) (o0_1390 : Int) (o0_1391 : Int) (o0_1392 : Int) (o0_1393 : Int) (o1_1394 : (List (Int × arena_Node))) (r_0 : arena_Node × Int) : Sto := [.box [.mp 1, .p (.int .i64 o0_1386), .p (.int .i64 o0_1387), .p (.int .i64 o0_1388), .p (.int .i64 o0_1389), .p (.int .i64 o0_1390), .p (.int .i64 o0_1391), .p (.int .i64 o0_1392), .p (.int .i64 o0_1393)], .map (enE en_arena_Node o1_1394)]
def dom_of.rs : List Rv := d99.res
def dom_of.b : Sx := d99.body
def dom_of.f (k : Nat) (id_1384 : Int) (kind_1385 : Int) (o1_1394 : (List (Int × arena_Node))) : Option (arena_Node × Int) := ((arena_Arena_Get.f k id_1384 o1_1394).bind fun t_1401 => (if (!t_1401.2) = true then (some ((arena_Node.mk 0 0 0 0 (api_Str.mk [] ([] : List api_Run)) [] 0 ([] : List api_Attr) ([] : List api_Hook) ([] : List Int) (api_Str.mk [] ([] : List api_Run))), 14)) else (if t_1401.1.Kind ≠ kind_1385 then (some ((arena_Node.mk 0 0 0 0 (api_Str.mk [] ([] : List api_Run)) [] 0 ([] : List api_Attr) ([] : List api_Hook) ([] : List Int) (api_Str.mk [] ([] : List api_Run))), 12)) else (some (t_1401.1, 0)))))
theorem dom_of.run (k : Nat) (id_1384 : Int) (kind_1385 : Int) (o0_1386 : Int) (o0_1387 : Int) (o0_1388 : Int) (o0_1389 : Int) (o0_1390 : Int) (o0_1391 : Int) (o0_1392 : Int) (o0_1393 : Int) (o1_1394 : (List (Int × arena_Node))) (r : arena_Node × Int) (h : dom_of.f k id_1384 kind_1385 o1_1394 = some r) (res : Vv) (st : Sto) (hr : (dom_of.R id_1384 kind_1385 o0_1386 o0_1387 o0_1388 o0_1389 o0_1390 o0_1391 o0_1392 o0_1393 o1_1394 r, dom_of.S1 id_1384 kind_1385 o0_1386 o0_1387 o0_1388 o0_1389 o0_1390 o0_1391 o0_1392 o0_1393 o1_1394 r) = (res, st)) : RunE Try.prog ⟨2, dom_of.rs, res, st⟩ (.st dom_of.b .done) (argE 0 (dom_of.A id_1384 kind_1385 o0_1386 o0_1387 o0_1388 o0_1389 o0_1390 o0_1391 o0_1392 o0_1393 o1_1394)) (dom_of.S0 id_1384 kind_1385 o0_1386 o0_1387 o0_1388 o0_1389 o0_1390 o0_1391 o0_1392 o0_1393 o1_1394) := by
  unfold dom_of.f at h
  obtain ⟨t_1401, ht_1401, h⟩ := bind_some h
  rcases ite_some h with ⟨c_1402, h⟩ | ⟨c_1402, h⟩
  · obtain rfl := Option.some.inj h
    exact pathE 508 [.call [0, 1] (arena_Arena_Get.R id_1384 o0_1386 o0_1387 o0_1388 o0_1389 o0_1390 o0_1391 o0_1392 o0_1393 o1_1394 t_1401) (arena_Arena_Get.S1 id_1384 o0_1386 o0_1387 o0_1388 o0_1389 o0_1390 o0_1391 o0_1392 o0_1393 o1_1394 t_1401), .b true, .i 6, .fzc 2 5 [], .fzc 2 8 [], .fzc 2 9 [], .fzc 2 10 [], .fzc 2 12 [], .fin [0, 1]] (ai (arena_Arena_Get.ok k id_1384 o0_1386 o0_1387 o0_1388 o0_1389 o0_1390 o0_1391 o0_1392 o0_1393 o1_1394 t_1401 ht_1401) <| ai c_1402 <| ai (Eq.refl ([.p (.int .i64 0), .p (.int .i64 0), .p (.int .i64 0), .p (.int .i64 0), .p (.str []), .nil 2, .p (.str []), .p (.int .i64 0), .nil 4, .nil 3, .nil 1, .p (.str []), .nil 2] : List Dd)) <| ai (Eq.refl ([.p (.int .i64 0), .p (.int .i64 0), .p (.int .i64 0), .p (.int .i64 0), .p (.str []), .p (.sl 2 (([] : List api_Run).map en_api_Run)), .p (.str []), .p (.int .i64 0), .nil 4, .nil 3, .nil 1, .p (.str []), .nil 2] : List Dd)) <| ai (Eq.refl ([.p (.int .i64 0), .p (.int .i64 0), .p (.int .i64 0), .p (.int .i64 0), .p (.str []), .p (.sl 2 (([] : List api_Run).map en_api_Run)), .p (.str []), .p (.int .i64 0), .p (.sl 4 (([] : List api_Attr).map en_api_Attr)), .nil 3, .nil 1, .p (.str []), .nil 2] : List Dd)) <| ai (Eq.refl ([.p (.int .i64 0), .p (.int .i64 0), .p (.int .i64 0), .p (.int .i64 0), .p (.str []), .p (.sl 2 (([] : List api_Run).map en_api_Run)), .p (.str []), .p (.int .i64 0), .p (.sl 4 (([] : List api_Attr).map en_api_Attr)), .p (.sl 3 (([] : List api_Hook).map en_api_Hook)), .nil 1, .p (.str []), .nil 2] : List Dd)) <| ai (Eq.refl ([.p (.int .i64 0), .p (.int .i64 0), .p (.int .i64 0), .p (.int .i64 0), .p (.str []), .p (.sl 2 (([] : List api_Run).map en_api_Run)), .p (.str []), .p (.int .i64 0), .p (.sl 4 (([] : List api_Attr).map en_api_Attr)), .p (.sl 3 (([] : List api_Hook).map en_api_Hook)), .p (.sl 1 (([] : List Int).map en_i64)), .p (.str []), .nil 2] : List Dd)) <| hr) (by kernel_rfl)
  · rcases ite_some h with ⟨c_1403, h⟩ | ⟨c_1403, h⟩
    · obtain rfl := Option.some.inj h
      exact pathE 520 [.call [0, 1] (arena_Arena_Get.R id_1384 o0_1386 o0_1387 o0_1388 o0_1389 o0_1390 o0_1391 o0_1392 o0_1393 o1_1394 t_1401) (arena_Arena_Get.S1 id_1384 o0_1386 o0_1387 o0_1388 o0_1389 o0_1390 o0_1391 o0_1392 o0_1393 o1_1394 t_1401), .b false, .b true, .i 6, .fzc 2 5 [], .fzc 2 8 [], .fzc 2 9 [], .fzc 2 10 [], .fzc 2 12 [], .fin [0, 1]] (ai (arena_Arena_Get.ok k id_1384 o0_1386 o0_1387 o0_1388 o0_1389 o0_1390 o0_1391 o0_1392 o0_1393 o1_1394 t_1401 ht_1401) <| ai (bool_false c_1402) <| ai (bne_iff_ne.2 c_1403) <| ai (Eq.refl ([.p (.int .i64 0), .p (.int .i64 0), .p (.int .i64 0), .p (.int .i64 0), .p (.str []), .nil 2, .p (.str []), .p (.int .i64 0), .nil 4, .nil 3, .nil 1, .p (.str []), .nil 2] : List Dd)) <| ai (Eq.refl ([.p (.int .i64 0), .p (.int .i64 0), .p (.int .i64 0), .p (.int .i64 0), .p (.str []), .p (.sl 2 (([] : List api_Run).map en_api_Run)), .p (.str []), .p (.int .i64 0), .nil 4, .nil 3, .nil 1, .p (.str []), .nil 2] : List Dd)) <| ai (Eq.refl ([.p (.int .i64 0), .p (.int .i64 0), .p (.int .i64 0), .p (.int .i64 0), .p (.str []), .p (.sl 2 (([] : List api_Run).map en_api_Run)), .p (.str []), .p (.int .i64 0), .p (.sl 4 (([] : List api_Attr).map en_api_Attr)), .nil 3, .nil 1, .p (.str []), .nil 2] : List Dd)) <| ai (Eq.refl ([.p (.int .i64 0), .p (.int .i64 0), .p (.int .i64 0), .p (.int .i64 0), .p (.str []), .p (.sl 2 (([] : List api_Run).map en_api_Run)), .p (.str []), .p (.int .i64 0), .p (.sl 4 (([] : List api_Attr).map en_api_Attr)), .p (.sl 3 (([] : List api_Hook).map en_api_Hook)), .nil 1, .p (.str []), .nil 2] : List Dd)) <| ai (Eq.refl ([.p (.int .i64 0), .p (.int .i64 0), .p (.int .i64 0), .p (.int .i64 0), .p (.str []), .p (.sl 2 (([] : List api_Run).map en_api_Run)), .p (.str []), .p (.int .i64 0), .p (.sl 4 (([] : List api_Attr).map en_api_Attr)), .p (.sl 3 (([] : List api_Hook).map en_api_Hook)), .p (.sl 1 (([] : List Int).map en_i64)), .p (.str []), .nil 2] : List Dd)) <| hr) (by kernel_rfl)
    · obtain rfl := Option.some.inj h
      exact pathE 508 [.call [0, 1] (arena_Arena_Get.R id_1384 o0_1386 o0_1387 o0_1388 o0_1389 o0_1390 o0_1391 o0_1392 o0_1393 o1_1394 t_1401) (arena_Arena_Get.S1 id_1384 o0_1386 o0_1387 o0_1388 o0_1389 o0_1390 o0_1391 o0_1392 o0_1393 o1_1394 t_1401), .b false, .b false, .i 8, .fzc 2 9 [], .z (t_1401.1.Hooks.map en_api_Hook), .fzc 2 10 [], .z (t_1401.1.Kids.map en_i64), .fin [0, 1]] (ai (arena_Arena_Get.ok k id_1384 o0_1386 o0_1387 o0_1388 o0_1389 o0_1390 o0_1391 o0_1392 o0_1393 o1_1394 t_1401 ht_1401) <| ai (bool_false c_1402) <| ai (bne_false c_1403) <| ai (set_obE en_api_Hook (l := t_1401.1.Hooks) (m := t_1401.1.Hooks.length) rfl) <| ai (Eq.refl ([.p (.int .i64 t_1401.1.Id), .p (.int .i64 t_1401.1.Owner), .p (.int .i64 t_1401.1.Parent), .p (.int .i64 t_1401.1.Kind), .p (.str t_1401.1.Tag.Text), .p (.sl 2 (t_1401.1.Tag.Runs.map en_api_Run)), .p (.str t_1401.1.Key), .p (.int .i64 t_1401.1.Slot), .p (.sl 4 (t_1401.1.Attrs.map en_api_Attr)), .own 3 3 0 t_1401.1.Hooks.length, .own 4 1 0 t_1401.1.Kids.length, .p (.str t_1401.1.Text.Text), .p (.sl 2 (t_1401.1.Text.Runs.map en_api_Run))] : List Dd)) <| ai (set_obE en_i64 (l := t_1401.1.Kids) (m := t_1401.1.Kids.length) rfl) <| ai (Eq.refl ([.p (.int .i64 t_1401.1.Id), .p (.int .i64 t_1401.1.Owner), .p (.int .i64 t_1401.1.Parent), .p (.int .i64 t_1401.1.Kind), .p (.str t_1401.1.Tag.Text), .p (.sl 2 (t_1401.1.Tag.Runs.map en_api_Run)), .p (.str t_1401.1.Key), .p (.int .i64 t_1401.1.Slot), .p (.sl 4 (t_1401.1.Attrs.map en_api_Attr)), .p (.sl 3 (t_1401.1.Hooks.map en_api_Hook)), .own 4 1 0 t_1401.1.Kids.length, .p (.str t_1401.1.Text.Text), .p (.sl 2 (t_1401.1.Text.Runs.map en_api_Run))] : List Dd)) <| hr) (by kernel_rfl)
theorem dom_of.ok (k : Nat) (id_1384 : Int) (kind_1385 : Int) (o0_1386 : Int) (o0_1387 : Int) (o0_1388 : Int) (o0_1389 : Int) (o0_1390 : Int) (o0_1391 : Int) (o0_1392 : Int) (o0_1393 : Int) (o1_1394 : (List (Int × arena_Node))) (r : arena_Node × Int) (h : dom_of.f k id_1384 kind_1385 o1_1394 = some r) : OkS Try.prog 99 (dom_of.A id_1384 kind_1385 o0_1386 o0_1387 o0_1388 o0_1389 o0_1390 o0_1391 o0_1392 o0_1393 o1_1394) (dom_of.S0 id_1384 kind_1385 o0_1386 o0_1387 o0_1388 o0_1389 o0_1390 o0_1391 o0_1392 o0_1393 o1_1394) (dom_of.R id_1384 kind_1385 o0_1386 o0_1387 o0_1388 o0_1389 o0_1390 o0_1391 o0_1392 o0_1393 o1_1394 r) (dom_of.S1 id_1384 kind_1385 o0_1386 o0_1387 o0_1388 o0_1389 o0_1390 o0_1391 o0_1392 o0_1393 o1_1394 r) := okE Try.func99 m99 rfl rfl rfl (dom_of.run k id_1384 kind_1385 o0_1386 o0_1387 o0_1388 o0_1389 o0_1390 o0_1391 o0_1392 o0_1393 o1_1394 r h _ _ rfl)
-- 105 glazier/dom.SetText
def d105 : FnDef := ⟨24, [.tmp 6],
  (.seq
  (.ops [
    ⟨some 5, .box (.t 2), none⟩,
    ⟨some 6, .mv (.c (.one (.p (.int .i64 0)))), none⟩] [0, 1, 5])
  (.seq
  (.ops [
    ⟨some 10, .mv (.t 0), none⟩,
    ⟨some 11, .mv (.t 1), none⟩,
    ⟨some 12, .call 99 [(.t 10), (.t 11), (.c (.one (.p (.int .i64 2))))], none⟩,
    ⟨some 9, .mv (.t 12), none⟩,
    ⟨some 13, .ext (.t 9) 0, none⟩,
    ⟨some 14, .ext (.t 9) 1, none⟩,
    ⟨some 7, .alloc [.p (.int .i64 0), .p (.int .i64 0), .p (.int .i64 0), .p (.int .i64 0), .p (.str []), .nil 2, .p (.str []), .p (.int .i64 0), .nil 4, .nil 3, .nil 1, .p (.str []), .nil 2], none⟩,
    ⟨none, .store 13 (.t 7) (.t 13), none⟩,
    ⟨some 8, .mv (.t 14), none⟩] [0, 5, 7, 8])
  (.seq
  (.seq
  (.ops [
    ⟨some 15, .mv (.t 8), none⟩,
    ⟨some 16, .bin 0 .neq (.t 15) (.c (.one (.p (.int .i64 0)))), none⟩] [0, 5, 7, 8, 16])
  (.cond (.t 16)
    (.seq
    (.ops [
      ⟨some 17, .mv (.t 8), none⟩,
      ⟨some 6, .mv (.t 17), none⟩] [6])
    .ret)
    .skip))
  (.seq
  (.ops [
    ⟨some 18, .load 2 true (.t 5), none⟩,
    ⟨some 19, .call 84 [(.t 18)], none⟩,
    ⟨some 20, .faddr 11 (.t 7), none⟩,
    ⟨none, .store 2 (.t 20) (.t 19), none⟩] [0, 7])
  (.seq
  (.ops [
    ⟨some 21, .mv (.t 0), none⟩,
    ⟨some 22, .load 13 true (.t 7), none⟩,
    ⟨some 23, .call 101 [(.t 21), (.t 22)], none⟩,
    ⟨some 6, .mv (.t 23), none⟩] [6])
  .ret)))))⟩
theorem m105 : mFn Try.prog d105 Try.f105 = true := by kernel_rfl
def dom_SetText.A (id_1373 : Int) (s_1374 : api_Str) (o0_1375 : Int) (o0_1376 : Int) (o0_1377 : Int) (o0_1378 : Int) (o0_1379 : Int) (o0_1380 : Int) (o0_1381 : Int) (o0_1382 : Int) (o1_1383 : (List (Int × arena_Node))) : List Vv := [.one (.ptr 0 0), .one (.p (.int .i64 id_1373)), .agg [.p (.str s_1374.Text), .p (.sl 2 (s_1374.Runs.map en_api_Run))]]
def dom_SetText.S0 (id_1373 : Int) (s_1374 : api_Str) (o0_1375 : Int) (o0_1376 : Int) (o0_1377 : Int) (o0_1378 : Int) (o0_1379 : Int) (o0_1380 : Int) (o0_1381 : Int) (o0_1382 : Int) (o1_1383 : (List (Int × arena_Node))) : Sto := [.box [.mp 1, .p (.int .i64 o0_1375), .p (.int .i64 o0_1376), .p (.int .i64 o0_1377), .p (.int .i64 o0_1378), .p (.int .i64 o0_1379), .p (.int .i64 o0_1380), .p (.int .i64 o0_1381), .p (.int .i64 o0_1382)], .map (enE en_arena_Node o1_1383)]
def dom_SetText.R (id_1373 : Int) (s_1374 : api_Str) (o0_1375 : Int) (o0_1376 : Int) (o0_1377 : Int) (o0_1378 : Int) (o0_1379 : Int) (o0_1380 : Int) (o0_1381 : Int) (o0_1382 : Int) (o1_1383 : (List (Int × arena_Node))) (r_0 : Int × (List (Int × arena_Node))) : Vv := .one (.p (.int .i64 r_0.1))
def dom_SetText.S1 (id_1373 : Int) (s_1374 : api_Str) (o0_1375 : Int) (o0_1376 : Int) (o0_1377 : Int) (o0_1378 : Int) (o0_1379 : Int) (o0_1380 : Int) (o0_1381 : Int) (o0_1382 : Int) (o1_1383 : (List (Int × arena_Node))) (r_0 : Int × (List (Int × arena_Node))) : Sto := [.box [.mp 1, .p (.int .i64 o0_1375), .p (.int .i64 o0_1376), .p (.int .i64 o0_1377), .p (.int .i64 o0_1378), .p (.int .i64 o0_1379), .p (.int .i64 o0_1380), .p (.int .i64 o0_1381), .p (.int .i64 o0_1382)], .map (enE en_arena_Node r_0.2)]
def dom_SetText.rs : List Rv := d105.res
def dom_SetText.b : Sx := d105.body
def dom_SetText.f (k : Nat) (id_1373 : Int) (s_1374 : api_Str) (o1_1383 : (List (Int × arena_Node))) : Option (Int × (List (Int × arena_Node))) := ((dom_of.f k id_1373 2 o1_1383).bind fun t_1412 => (if t_1412.2 ≠ 0 then (some (t_1412.2, o1_1383)) else ((mark_Fix.f k s_1374).bind fun t_1414 => ((arena_Arena_Set.f k (arena_Node.mk t_1412.1.Id t_1412.1.Owner t_1412.1.Parent t_1412.1.Kind t_1412.1.Tag t_1412.1.Key t_1412.1.Slot t_1412.1.Attrs t_1412.1.Hooks t_1412.1.Kids t_1414) o1_1383).bind fun t_1415 => (some (t_1415.1, t_1415.2))))))
theorem dom_SetText.run (k : Nat) (id_1373 : Int) (s_1374 : api_Str) (o0_1375 : Int) (o0_1376 : Int) (o0_1377 : Int) (o0_1378 : Int) (o0_1379 : Int) (o0_1380 : Int) (o0_1381 : Int) (o0_1382 : Int) (o1_1383 : (List (Int × arena_Node))) (r : Int × (List (Int × arena_Node))) (h : dom_SetText.f k id_1373 s_1374 o1_1383 = some r) (res : Vv) (st : Sto) (hr : (dom_SetText.R id_1373 s_1374 o0_1375 o0_1376 o0_1377 o0_1378 o0_1379 o0_1380 o0_1381 o0_1382 o1_1383 r, dom_SetText.S1 id_1373 s_1374 o0_1375 o0_1376 o0_1377 o0_1378 o0_1379 o0_1380 o0_1381 o0_1382 o1_1383 r) = (res, st)) : RunE Try.prog ⟨2, dom_SetText.rs, res, st⟩ (.st dom_SetText.b .done) (argE 0 (dom_SetText.A id_1373 s_1374 o0_1375 o0_1376 o0_1377 o0_1378 o0_1379 o0_1380 o0_1381 o0_1382 o1_1383)) (dom_SetText.S0 id_1373 s_1374 o0_1375 o0_1376 o0_1377 o0_1378 o0_1379 o0_1380 o0_1381 o0_1382 o1_1383) := by
  unfold dom_SetText.f at h
  obtain ⟨t_1412, ht_1412, h⟩ := bind_some h
  rcases ite_some h with ⟨c_1413, h⟩ | ⟨c_1413, h⟩
  · obtain rfl := Option.some.inj h
    exact pathE 448 [.call [0, 1] (dom_of.R id_1373 2 o0_1375 o0_1376 o0_1377 o0_1378 o0_1379 o0_1380 o0_1381 o0_1382 o1_1383 t_1412) (dom_of.S1 id_1373 2 o0_1375 o0_1376 o0_1377 o0_1378 o0_1379 o0_1380 o0_1381 o0_1382 o1_1383 t_1412), .b true, .i 5, .fin [0, 1]] (ai (dom_of.ok k id_1373 2 o0_1375 o0_1376 o0_1377 o0_1378 o0_1379 o0_1380 o0_1381 o0_1382 o1_1383 t_1412 ht_1412) <| ai (bne_iff_ne.2 c_1413) <| hr) (by kernel_rfl)
  · obtain ⟨t_1414, ht_1414, h⟩ := bind_some h
    obtain ⟨t_1415, ht_1415, h⟩ := bind_some h
    obtain rfl := Option.some.inj h
    exact pathE 472 [.call [0, 1] (dom_of.R id_1373 2 o0_1375 o0_1376 o0_1377 o0_1378 o0_1379 o0_1380 o0_1381 o0_1382 o1_1383 t_1412) (dom_of.S1 id_1373 2 o0_1375 o0_1376 o0_1377 o0_1378 o0_1379 o0_1380 o0_1381 o0_1382 o1_1383 t_1412), .b false, .call [] (mark_Fix.R s_1374 t_1414) (mark_Fix.S1 s_1374 t_1414), .call [0, 1] (arena_Arena_Set.R (arena_Node.mk t_1412.1.Id t_1412.1.Owner t_1412.1.Parent t_1412.1.Kind t_1412.1.Tag t_1412.1.Key t_1412.1.Slot t_1412.1.Attrs t_1412.1.Hooks t_1412.1.Kids t_1414) o0_1375 o0_1376 o0_1377 o0_1378 o0_1379 o0_1380 o0_1381 o0_1382 o1_1383 t_1415) (arena_Arena_Set.S1 (arena_Node.mk t_1412.1.Id t_1412.1.Owner t_1412.1.Parent t_1412.1.Kind t_1412.1.Tag t_1412.1.Key t_1412.1.Slot t_1412.1.Attrs t_1412.1.Hooks t_1412.1.Kids t_1414) o0_1375 o0_1376 o0_1377 o0_1378 o0_1379 o0_1380 o0_1381 o0_1382 o1_1383 t_1415), .i 2, .fin [0, 1]] (ai (dom_of.ok k id_1373 2 o0_1375 o0_1376 o0_1377 o0_1378 o0_1379 o0_1380 o0_1381 o0_1382 o1_1383 t_1412 ht_1412) <| ai (bne_false c_1413) <| ai (mark_Fix.ok k s_1374 t_1414 ht_1414) <| ai (arena_Arena_Set.ok k (arena_Node.mk t_1412.1.Id t_1412.1.Owner t_1412.1.Parent t_1412.1.Kind t_1412.1.Tag t_1412.1.Key t_1412.1.Slot t_1412.1.Attrs t_1412.1.Hooks t_1412.1.Kids t_1414) o0_1375 o0_1376 o0_1377 o0_1378 o0_1379 o0_1380 o0_1381 o0_1382 o1_1383 t_1415 ht_1415) <| hr) (by kernel_rfl)
theorem dom_SetText.ok (k : Nat) (id_1373 : Int) (s_1374 : api_Str) (o0_1375 : Int) (o0_1376 : Int) (o0_1377 : Int) (o0_1378 : Int) (o0_1379 : Int) (o0_1380 : Int) (o0_1381 : Int) (o0_1382 : Int) (o1_1383 : (List (Int × arena_Node))) (r : Int × (List (Int × arena_Node))) (h : dom_SetText.f k id_1373 s_1374 o1_1383 = some r) : OkS Try.prog 105 (dom_SetText.A id_1373 s_1374 o0_1375 o0_1376 o0_1377 o0_1378 o0_1379 o0_1380 o0_1381 o0_1382 o1_1383) (dom_SetText.S0 id_1373 s_1374 o0_1375 o0_1376 o0_1377 o0_1378 o0_1379 o0_1380 o0_1381 o0_1382 o1_1383) (dom_SetText.R id_1373 s_1374 o0_1375 o0_1376 o0_1377 o0_1378 o0_1379 o0_1380 o0_1381 o0_1382 o1_1383 r) (dom_SetText.S1 id_1373 s_1374 o0_1375 o0_1376 o0_1377 o0_1378 o0_1379 o0_1380 o0_1381 o0_1382 o1_1383 r) := okE Try.func105 m105 rfl rfl rfl (dom_SetText.run k id_1373 s_1374 o0_1375 o0_1376 o0_1377 o0_1378 o0_1379 o0_1380 o0_1381 o0_1382 o1_1383 r h _ _ rfl)
-- 36 glazier/glazierlaw21.built
def d36 : FnDef := ⟨93, [.tmp 2, .tmp 3],
  (.seq
  (.ops [
    ⟨some 2, .mv (.c (.one .null)), none⟩,
    ⟨some 3, .mv (.c (.one (.nil 1))), none⟩] [0])
  (.seq
  (.ops [
    ⟨some 13, .call 30 [], none⟩,
    ⟨some 4, .mv (.t 13), none⟩] [0, 4])
  (.seq
  (.ops [
    ⟨some 14, .bslice 3 1 [(.c (.one (.p (.int .i64 0))))], none⟩,
    ⟨some 5, .mv (.t 14), none⟩] [0, 4, 5])
  (.seq
  (.seq
  (.ops [
    ⟨some 6, .mv (.c (.one (.p (.int .i64 0)))), none⟩] [0, 4, 5, 6])
  (.block 0
    (.loop
      (.seq
      (.seq
      (.ops [
        ⟨some 15, .mv (.t 6), none⟩,
        ⟨some 16, .mv (.t 0), none⟩,
        ⟨some 17, .len false (.t 16), none⟩,
        ⟨some 18, .bin 0 .lss (.t 15) (.t 17), none⟩,
        ⟨some 19, .mv (.t 18), none⟩,
        ⟨some 20, .mv (.t 6), some (19, true)⟩,
        ⟨some 21, .bin 0 .lss (.t 20) (.c (.one (.p (.int .i64 25)))), some (19, true)⟩,
        ⟨some 22, .pick (.t 19) (.t 21) (.c (.one (.p (.bool false)))), none⟩] [0, 4, 5, 6, 22])
      (.cond (.t 22)
        .skip
        (.exit 0)))
      (.seq
      (.block 1
        (.seq
        (.ops [
          ⟨some 25, .mv (.t 0), none⟩,
          ⟨some 26, .mv (.t 6), none⟩,
          ⟨some 27, .iaddr 6 (.t 25) (.t 26), none⟩,
          ⟨some 28, .load 6 true (.t 27), none⟩,
          ⟨some 7, .alloc [.p (.int .i64 0), .p (.int .i64 0), .p (.int .i64 0), .p (.int .i64 0), .p (.str []), .nil 2], none⟩,
          ⟨none, .store 6 (.t 7) (.t 28), none⟩] [0, 4, 5, 6, 7])
        (.seq
        (.ops [
          ⟨some 30, .mv (.t 4), none⟩,
          ⟨some 31, .faddr 2 (.t 7), none⟩,
          ⟨some 32, .load 1 false (.t 31), none⟩,
          ⟨some 33, .bin 0 .rem (.t 32) (.c (.one (.p (.int .i64 4)))), none⟩,
          ⟨some 34, .bin 0 .add (.t 33) (.c (.one (.p (.int .i64 4)))), none⟩,
          ⟨some 35, .bin 0 .rem (.t 34) (.c (.one (.p (.int .i64 4)))), none⟩,
          ⟨some 36, .faddr 1 (.t 7), none⟩,
          ⟨some 37, .load 1 false (.t 36), none⟩,
          ⟨some 38, .bin 0 .rem (.t 37) (.c (.one (.p (.int .i64 3)))), none⟩,
          ⟨some 39, .bin 0 .add (.t 38) (.c (.one (.p (.int .i64 3)))), none⟩,
          ⟨some 40, .bin 0 .rem (.t 39) (.c (.one (.p (.int .i64 3)))), none⟩,
          ⟨some 41, .bin 0 .add (.c (.one (.p (.int .i64 1)))) (.t 40), none⟩,
          ⟨some 42, .faddr 4 (.t 7), none⟩,
          ⟨some 43, .load 2 true (.t 42), none⟩,
          ⟨some 44, .faddr 4 (.t 7), none⟩,
          ⟨some 45, .faddr 0 (.t 44), none⟩,
          ⟨some 46, .load 1 false (.t 45), none⟩,
          ⟨some 47, .faddr 3 (.t 7), none⟩,
          ⟨some 48, .load 1 false (.t 47), none⟩,
          ⟨some 49, .call 31 [(.t 30), (.t 35), (.t 41), (.t 43), (.t 46), (.t 48)], none⟩,
          ⟨some 29, .mv (.t 49), none⟩,
          ⟨some 50, .ext (.t 29) 0, none⟩,
          ⟨some 51, .ext (.t 29) 1, none⟩,
          ⟨some 8, .mv (.t 50), none⟩,
          ⟨some 9, .mv (.t 51), none⟩] [0, 4, 5, 6, 7, 8, 9])
        (.seq
        (.seq
        (.ops [
          ⟨some 52, .mv (.t 9), none⟩,
          ⟨some 53, .bin 0 .neq (.t 52) (.c (.one (.p (.int .i64 0)))), none⟩] [0, 4, 5, 6, 7, 8, 53])
        (.cond (.t 53)
          (.exit 1)
          .skip))
        (.seq
        (.ops [
          ⟨some 54, .mv (.t 5), none⟩,
          ⟨some 55, .faddr 0 (.t 7), none⟩,
          ⟨some 56, .load 1 false (.t 55), none⟩,
          ⟨some 57, .mv (.t 5), none⟩,
          ⟨some 58, .len false (.t 57), none⟩,
          ⟨some 59, .bin 0 .rem (.t 56) (.t 58), none⟩,
          ⟨some 60, .mv (.t 5), none⟩,
          ⟨some 61, .len false (.t 60), none⟩,
          ⟨some 62, .bin 0 .add (.t 59) (.t 61), none⟩,
          ⟨some 63, .mv (.t 5), none⟩,
          ⟨some 64, .len false (.t 63), none⟩,
          ⟨some 65, .bin 0 .rem (.t 62) (.t 64), none⟩,
          ⟨some 66, .iaddr 1 (.t 54) (.t 65), none⟩,
          ⟨some 67, .load 1 false (.t 66), none⟩,
          ⟨some 10, .mv (.t 67), none⟩] [0, 4, 5, 6, 7, 8, 10])
        (.seq
        (.ops [
          ⟨some 69, .mv (.t 4), none⟩,
          ⟨some 70, .mv (.t 10), none⟩,
          ⟨some 71, .call 34 [(.t 69), (.t 70)], none⟩,
          ⟨some 68, .mv (.t 71), none⟩,
          ⟨some 72, .ext (.t 68) 0, none⟩,
          ⟨some 73, .ext (.t 68) 1, none⟩,
          ⟨some 11, .alloc [.p (.int .i64 0), .p (.int .i64 0), .p (.int .i64 0), .p (.int .i64 0), .p (.str []), .nil 2, .p (.str []), .p (.int .i64 0), .nil 4, .nil 3, .nil 1, .p (.str []), .nil 2], none⟩,
          ⟨none, .store 13 (.t 11) (.t 72), none⟩,
          ⟨some 12, .mv (.t 73), none⟩] [0, 4, 5, 6, 7, 8, 10, 11])
        (.seq
        (.ops [
          ⟨some 74, .mv (.t 4), none⟩,
          ⟨some 75, .mv (.t 10), none⟩,
          ⟨some 76, .faddr 10 (.t 11), none⟩,
          ⟨some 77, .load 1 false (.t 76), none⟩,
          ⟨some 78, .len false (.t 77), none⟩,
          ⟨some 79, .mv (.t 8), none⟩,
          ⟨some 80, .call 62 [(.t 74), (.t 75), (.t 78), (.t 79)], none⟩,
          ⟨some 81, .bin 0 .eql (.t 80) (.c (.one (.p (.int .i64 0)))), none⟩] [0, 4, 5, 6, 7, 8, 81])
        (.cond (.t 81)
          (.seq
          (.ops [
            ⟨some 82, .mv (.t 4), none⟩,
            ⟨some 83, .mv (.t 8), none⟩,
            ⟨some 84, .faddr 4 (.t 7), none⟩,
            ⟨some 85, .load 2 true (.t 84), none⟩,
            ⟨some 86, .call 105 [(.t 82), (.t 83), (.t 85)], none⟩] [0, 4, 5, 6, 8])
          (.ops [
            ⟨some 87, .mv (.t 5), none⟩,
            ⟨some 88, .mv (.t 8), none⟩,
            ⟨some 89, .bslice 3 1 [(.t 88)], none⟩,
            ⟨some 90, .app 3 1 8 (.t 87) (.t 89), none⟩,
            ⟨some 5, .mv (.t 90), none⟩] [0, 4, 5, 6]))
          .skip))))))))
      (.ops [
        ⟨some 23, .mv (.t 6), none⟩,
        ⟨some 24, .bin 0 .add (.t 23) (.c (.one (.p (.int .i64 1)))), none⟩,
        ⟨some 6, .mv (.t 24), none⟩] [0, 4, 5, 6]))))))
  (.seq
  (.ops [
    ⟨some 91, .mv (.t 4), none⟩,
    ⟨some 92, .mv (.t 5), none⟩,
    ⟨some 2, .mv (.t 91), none⟩,
    ⟨some 3, .mv (.t 92), none⟩] [2, 3])
  .ret)))))⟩
theorem m36 : mFn Try.prog d36 Try.f36 = true := by kernel_rfl
def law21_built.A (l_1189 : (List law21_Op)) : List Vv := [.one (.p (.sl 6 (l_1189.map en_law21_Op)))]
def law21_built.S0 (l_1189 : (List law21_Op)) : Sto := []
def law21_built.R (l_1189 : (List law21_Op)) (r_0 : (List Int) × Int × Int × Int × Int × Int × Int × Int × Int × (List (Int × arena_Node))) : Vv := .tup [.one (.ptr 0 0), .one (.p (.sl 1 (r_0.1.map en_i64)))]
def law21_built.S1 (l_1189 : (List law21_Op)) (r_0 : (List Int) × Int × Int × Int × Int × Int × Int × Int × Int × (List (Int × arena_Node))) : Sto := [.box [.mp 1, .p (.int .i64 r_0.2.1), .p (.int .i64 r_0.2.2.1), .p (.int .i64 r_0.2.2.2.1), .p (.int .i64 r_0.2.2.2.2.1), .p (.int .i64 r_0.2.2.2.2.2.1), .p (.int .i64 r_0.2.2.2.2.2.2.1), .p (.int .i64 r_0.2.2.2.2.2.2.2.1), .p (.int .i64 r_0.2.2.2.2.2.2.2.2.1)], .map (enE en_arena_Node r_0.2.2.2.2.2.2.2.2.2)]
def law21_built.rs : List Rv := d36.res
def law21_built.b : Sx := d36.body
def law21_built_l1 : Nat → (List law21_Op) → Int → Int → Int → Int → Int → Int → Int → Int → Int → (List (Int × arena_Node)) → (List Int) → Option ((Int × Int × Int × Int × Int × Int × Int × Int × (List (Int × arena_Node)) × (List Int)))
  | 0, _, _, _, _, _, _, _, _, _, _, _, _ => none
  | k + 1, l_1496, i_1497, o0_1498, o0_1499, o0_1500, o0_1501, o0_1502, o0_1503, o0_1504, o0_1505, o1_1506, o2_1507 => (if i_1497 < (l_1496.length : Int) then (if i_1497 < 25 then ((idx l_1496 i_1497).bind fun x_1523 => ((arena_Arena_Make.f k (Int.tmod (w64 ((Int.tmod x_1523.Owner 4) + 4)) 4) (w64 (1 + (Int.tmod (w64 ((Int.tmod x_1523.Kind 3) + 3)) 3))) x_1523.Text x_1523.Text.Text x_1523.Slot o0_1498 o0_1499 o0_1500 o0_1501 o0_1502 o0_1503 o0_1504 o0_1505 o1_1506).bind fun t_1524 => (if t_1524.2.1 ≠ 0 then (law21_built_l1 k l_1496 (w64 (i_1497 + 1)) t_1524.2.2.1 t_1524.2.2.2.1 t_1524.2.2.2.2.1 t_1524.2.2.2.2.2.1 t_1524.2.2.2.2.2.2.1 t_1524.2.2.2.2.2.2.2.1 t_1524.2.2.2.2.2.2.2.2.1 t_1524.2.2.2.2.2.2.2.2.2.1 t_1524.2.2.2.2.2.2.2.2.2.2 o2_1507) else (if (o2_1507.length : Int) ≠ 0 then (if (o2_1507.length : Int) ≠ 0 then ((idx o2_1507 (Int.tmod (w64 ((Int.tmod x_1523.At (o2_1507.length : Int)) + (o2_1507.length : Int))) (o2_1507.length : Int))).bind fun x_1528 => ((arena_Arena_Get.f k x_1528 t_1524.2.2.2.2.2.2.2.2.2.2).bind fun t_1529 => ((dom_Insert.f k x_1528 (t_1529.1.Kids.length : Int) t_1524.1 t_1524.2.2.2.2.2.2.2.2.2.2).bind fun t_1530 => (if t_1530.1 = 0 then ((dom_SetText.f k t_1524.1 x_1523.Text t_1530.2).bind fun t_1532 => (if (o2_1507 ++ ([t_1524.1] : List Int)).length * 8 ≤ room then (law21_built_l1 k l_1496 (w64 (i_1497 + 1)) t_1524.2.2.1 t_1524.2.2.2.1 t_1524.2.2.2.2.1 t_1524.2.2.2.2.2.1 t_1524.2.2.2.2.2.2.1 t_1524.2.2.2.2.2.2.2.1 t_1524.2.2.2.2.2.2.2.2.1 t_1524.2.2.2.2.2.2.2.2.2.1 t_1532.2 (o2_1507 ++ ([t_1524.1] : List Int))) else none)) else (law21_built_l1 k l_1496 (w64 (i_1497 + 1)) t_1524.2.2.1 t_1524.2.2.2.1 t_1524.2.2.2.2.1 t_1524.2.2.2.2.2.1 t_1524.2.2.2.2.2.2.1 t_1524.2.2.2.2.2.2.2.1 t_1524.2.2.2.2.2.2.2.2.1 t_1524.2.2.2.2.2.2.2.2.2.1 t_1530.2 o2_1507))))) else none) else none)))) else (some (o0_1498, o0_1499, o0_1500, o0_1501, o0_1502, o0_1503, o0_1504, o0_1505, o1_1506, o2_1507))) else (some (o0_1498, o0_1499, o0_1500, o0_1501, o0_1502, o0_1503, o0_1504, o0_1505, o1_1506, o2_1507)))
def law21_built_l1.S (k : Nat) : Prop := ∀ (l_1496 : (List law21_Op)) (i_1497 : Int) (o0_1498 : Int) (o0_1499 : Int) (o0_1500 : Int) (o0_1501 : Int) (o0_1502 : Int) (o0_1503 : Int) (o0_1504 : Int) (o0_1505 : Int) (o1_1506 : (List (Int × arena_Node))) (o2_1507 : (List Int)) (v : (Int × Int × Int × Int × Int × Int × Int × Int × (List (Int × arena_Node)) × (List Int))), law21_built_l1 k l_1496 i_1497 o0_1498 o0_1499 o0_1500 o0_1501 o0_1502 o0_1503 o0_1504 o0_1505 o1_1506 o2_1507 = some v → ∀ (res : Vv) (st : Sto), (∀ x_0, v = x_0 → RunE Try.prog ⟨0, law21_built.rs, res, st⟩ (koAfter law21_built.b [1, 1, 1, 0, 1]) [(4, .one (.ptr 0 0)), (5, .one (.own 2 1 0 x_0.2.2.2.2.2.2.2.2.2.length))] [.box [.mp 1, .p (.int .i64 x_0.1), .p (.int .i64 x_0.2.1), .p (.int .i64 x_0.2.2.1), .p (.int .i64 x_0.2.2.2.1), .p (.int .i64 x_0.2.2.2.2.1), .p (.int .i64 x_0.2.2.2.2.2.1), .p (.int .i64 x_0.2.2.2.2.2.2.1), .p (.int .i64 x_0.2.2.2.2.2.2.2.1)], .map (enE en_arena_Node x_0.2.2.2.2.2.2.2.2.1), .row 3 1 x_0.2.2.2.2.2.2.2.2.2.length (x_0.2.2.2.2.2.2.2.2.2.map en_i64)]) → RunE Try.prog ⟨0, law21_built.rs, res, st⟩ (koLoop law21_built.b [1, 1, 1, 0, 1, 0]) [(0, .one (.p (.sl 6 (l_1496.map en_law21_Op)))), (4, .one (.ptr 0 0)), (5, .one (.own 2 1 0 o2_1507.length)), (6, .one (.p (.int .i64 i_1497)))] [.box [.mp 1, .p (.int .i64 o0_1498), .p (.int .i64 o0_1499), .p (.int .i64 o0_1500), .p (.int .i64 o0_1501), .p (.int .i64 o0_1502), .p (.int .i64 o0_1503), .p (.int .i64 o0_1504), .p (.int .i64 o0_1505)], .map (enE en_arena_Node o1_1506), .row 3 1 o2_1507.length (o2_1507.map en_i64)]
theorem law21_built_l1.z : law21_built_l1.S 0 := fun _ _ _ _ _ _ _ _ _ _ _ _ v h => none_some h
theorem law21_built_l1.step (k : Nat) (ih : law21_built_l1.S k) : law21_built_l1.S (k + 1) := by
  intro l_1496 i_1497 o0_1498 o0_1499 o0_1500 o0_1501 o0_1502 o0_1503 o0_1504 o0_1505 o1_1506 o2_1507 v h res st c0
  rw [law21_built_l1] at h
  rcases ite_some h with ⟨c_1521, h⟩ | ⟨c_1521, h⟩
  · refine pathE 472 [.n l_1496.length, .b true, .b true, .i 2, .keep [0, 4, 5, 6, 22], .stop] (ai (len_ob en_law21_Op l_1496) <| ai (decide_eq_true c_1521) <| ai rT <| (?_ : RunE Try.prog ⟨0, law21_built.rs, res, st⟩ (koOf law21_built.b .done [1, 1, 1, 0, 1, 0, 0, 0, 1]) [(0, .one (.p (.sl 6 (l_1496.map en_law21_Op)))), (4, .one (.ptr 0 0)), (5, .one (.own 2 1 0 o2_1507.length)), (6, .one (.p (.int .i64 i_1497))), (22, .one (.p (.bool (decide (i_1497 < 25)))))] [.box [.mp 1, .p (.int .i64 o0_1498), .p (.int .i64 o0_1499), .p (.int .i64 o0_1500), .p (.int .i64 o0_1501), .p (.int .i64 o0_1502), .p (.int .i64 o0_1503), .p (.int .i64 o0_1504), .p (.int .i64 o0_1505)], .map (enE en_arena_Node o1_1506), .row 3 1 o2_1507.length (o2_1507.map en_i64)])) (by kernel_rfl)
    rcases ite_some h with ⟨c_1522, h⟩ | ⟨c_1522, h⟩
    · obtain ⟨x_1523, hx_1523, h⟩ := bind_some h
      obtain ⟨t_1524, ht_1524, h⟩ := bind_some h
      refine pathE 484 [.b true, .c (en_law21_Op x_1523), .call [0, 1] (arena_Arena_Make.R (Int.tmod (w64 ((Int.tmod x_1523.Owner 4) + 4)) 4) (w64 (1 + (Int.tmod (w64 ((Int.tmod x_1523.Kind 3) + 3)) 3))) x_1523.Text x_1523.Text.Text x_1523.Slot o0_1498 o0_1499 o0_1500 o0_1501 o0_1502 o0_1503 o0_1504 o0_1505 o1_1506 t_1524) (arena_Arena_Make.S1 (Int.tmod (w64 ((Int.tmod x_1523.Owner 4) + 4)) 4) (w64 (1 + (Int.tmod (w64 ((Int.tmod x_1523.Kind 3) + 3)) 3))) x_1523.Text x_1523.Text.Text x_1523.Slot o0_1498 o0_1499 o0_1500 o0_1501 o0_1502 o0_1503 o0_1504 o0_1505 o1_1506 t_1524), .i 12, .gc [0, 3, 1, 2], .keep [0, 4, 5, 6, 7, 8, 53], .stop] (ai (decide_eq_true c_1522) <| ai (idx_ob en_law21_Op hx_1523) <| ai (by decide : (4 : Int) ≠ 0) <| ai (by decide : (4 : Int) ≠ 0) <| ai (by decide : (3 : Int) ≠ 0) <| ai (by decide : (3 : Int) ≠ 0) <| ai (arena_Arena_Make.ok k (Int.tmod (w64 ((Int.tmod x_1523.Owner 4) + 4)) 4) (w64 (1 + (Int.tmod (w64 ((Int.tmod x_1523.Kind 3) + 3)) 3))) x_1523.Text x_1523.Text.Text x_1523.Slot o0_1498 o0_1499 o0_1500 o0_1501 o0_1502 o0_1503 o0_1504 o0_1505 o1_1506 t_1524 ht_1524) <| (?_ : RunE Try.prog ⟨0, law21_built.rs, res, st⟩ (koOf law21_built.b .done [1, 1, 1, 0, 1, 0, 0, 1, 0, 0, 1, 1, 0, 1]) [(0, .one (.p (.sl 6 (l_1496.map en_law21_Op)))), (4, .one (.ptr 0 0)), (5, .one (.own 3 1 0 o2_1507.length)), (6, .one (.p (.int .i64 i_1497))), (7, .one (.ptr 1 0)), (8, .one (.p (.int .i64 t_1524.1))), (53, .one (.p (.bool (t_1524.2.1 != 0))))] [.box [.mp 2, .p (.int .i64 t_1524.2.2.1), .p (.int .i64 t_1524.2.2.2.1), .p (.int .i64 t_1524.2.2.2.2.1), .p (.int .i64 t_1524.2.2.2.2.2.1), .p (.int .i64 t_1524.2.2.2.2.2.2.1), .p (.int .i64 t_1524.2.2.2.2.2.2.2.1), .p (.int .i64 t_1524.2.2.2.2.2.2.2.2.1), .p (.int .i64 t_1524.2.2.2.2.2.2.2.2.2.1)], .box [.p (.int .i64 x_1523.At), .p (.int .i64 x_1523.Kind), .p (.int .i64 x_1523.Owner), .p (.int .i64 x_1523.Slot), .p (.str x_1523.Text.Text), .p (.sl 2 (x_1523.Text.Runs.map en_api_Run))], .map (enE en_arena_Node t_1524.2.2.2.2.2.2.2.2.2.2), .row 3 1 o2_1507.length (o2_1507.map en_i64)])) (by kernel_rfl)
      rcases ite_some h with ⟨c_1525, h⟩ | ⟨c_1525, h⟩
      · exact pathE 460 [.b true, .i 6, .gc [0, 2, 3], .keep [0, 4, 5, 6], .stop] (ai (bne_iff_ne.2 c_1525) <| (ih l_1496 (w64 (i_1497 + 1)) t_1524.2.2.1 t_1524.2.2.2.1 t_1524.2.2.2.2.1 t_1524.2.2.2.2.2.1 t_1524.2.2.2.2.2.2.1 t_1524.2.2.2.2.2.2.2.1 t_1524.2.2.2.2.2.2.2.2.1 t_1524.2.2.2.2.2.2.2.2.2.1 t_1524.2.2.2.2.2.2.2.2.2.2 o2_1507 _ h res st c0)) (by kernel_rfl)
      · obtain ⟨g_1526, h⟩ := guard_some h
        obtain ⟨g_1527, h⟩ := guard_some h
        obtain ⟨x_1528, hx_1528, h⟩ := bind_some h
        obtain ⟨t_1529, ht_1529, h⟩ := bind_some h
        obtain ⟨t_1530, ht_1530, h⟩ := bind_some h
        refine pathE 496 [.b false, .c (en_i64 x_1528), .call [0, 2] (arena_Arena_Get.R x_1528 t_1524.2.2.1 t_1524.2.2.2.1 t_1524.2.2.2.2.1 t_1524.2.2.2.2.2.1 t_1524.2.2.2.2.2.2.1 t_1524.2.2.2.2.2.2.2.1 t_1524.2.2.2.2.2.2.2.2.1 t_1524.2.2.2.2.2.2.2.2.2.1 t_1524.2.2.2.2.2.2.2.2.2.2 t_1529) (arena_Arena_Get.S1 x_1528 t_1524.2.2.1 t_1524.2.2.2.1 t_1524.2.2.2.2.1 t_1524.2.2.2.2.2.1 t_1524.2.2.2.2.2.2.1 t_1524.2.2.2.2.2.2.2.1 t_1524.2.2.2.2.2.2.2.2.1 t_1524.2.2.2.2.2.2.2.2.2.1 t_1524.2.2.2.2.2.2.2.2.2.2 t_1529), .call [0, 2] (dom_Insert.R x_1528 (t_1529.1.Kids.length : Int) t_1524.1 t_1524.2.2.1 t_1524.2.2.2.1 t_1524.2.2.2.2.1 t_1524.2.2.2.2.2.1 t_1524.2.2.2.2.2.2.1 t_1524.2.2.2.2.2.2.2.1 t_1524.2.2.2.2.2.2.2.2.1 t_1524.2.2.2.2.2.2.2.2.2.1 t_1524.2.2.2.2.2.2.2.2.2.2 t_1530) (dom_Insert.S1 x_1528 (t_1529.1.Kids.length : Int) t_1524.1 t_1524.2.2.1 t_1524.2.2.2.1 t_1524.2.2.2.2.1 t_1524.2.2.2.2.2.1 t_1524.2.2.2.2.2.2.1 t_1524.2.2.2.2.2.2.2.1 t_1524.2.2.2.2.2.2.2.2.1 t_1524.2.2.2.2.2.2.2.2.2.1 t_1524.2.2.2.2.2.2.2.2.2.2 t_1530), .i 2, .gc [0, 1, 2, 3], .keep [0, 4, 5, 6, 7, 8, 81], .stop] (ai (bne_false c_1525) <| ai g_1526 <| ai g_1527 <| ai (idx_ownE (m := o2_1507.length) rfl hx_1528) <| ai (idx_ob en_i64 hx_1528).2 <| ai (arena_Arena_Get.ok k x_1528 t_1524.2.2.1 t_1524.2.2.2.1 t_1524.2.2.2.2.1 t_1524.2.2.2.2.2.1 t_1524.2.2.2.2.2.2.1 t_1524.2.2.2.2.2.2.2.1 t_1524.2.2.2.2.2.2.2.2.1 t_1524.2.2.2.2.2.2.2.2.2.1 t_1524.2.2.2.2.2.2.2.2.2.2 t_1529 ht_1529) <| ai (dom_Insert.ok k x_1528 (t_1529.1.Kids.length : Int) t_1524.1 t_1524.2.2.1 t_1524.2.2.2.1 t_1524.2.2.2.2.1 t_1524.2.2.2.2.2.1 t_1524.2.2.2.2.2.2.1 t_1524.2.2.2.2.2.2.2.1 t_1524.2.2.2.2.2.2.2.2.1 t_1524.2.2.2.2.2.2.2.2.2.1 t_1524.2.2.2.2.2.2.2.2.2.2 t_1530 ht_1530) <| (?_ : RunE Try.prog ⟨0, law21_built.rs, res, st⟩ (koOf law21_built.b .done [1, 1, 1, 0, 1, 0, 0, 1, 0, 0, 1, 1, 1, 1, 1, 1]) [(0, .one (.p (.sl 6 (l_1496.map en_law21_Op)))), (4, .one (.ptr 0 0)), (5, .one (.own 3 1 0 o2_1507.length)), (6, .one (.p (.int .i64 i_1497))), (7, .one (.ptr 1 0)), (8, .one (.p (.int .i64 t_1524.1))), (81, .one (.p (.bool (t_1530.1 == 0))))] [.box [.mp 2, .p (.int .i64 t_1524.2.2.1), .p (.int .i64 t_1524.2.2.2.1), .p (.int .i64 t_1524.2.2.2.2.1), .p (.int .i64 t_1524.2.2.2.2.2.1), .p (.int .i64 t_1524.2.2.2.2.2.2.1), .p (.int .i64 t_1524.2.2.2.2.2.2.2.1), .p (.int .i64 t_1524.2.2.2.2.2.2.2.2.1), .p (.int .i64 t_1524.2.2.2.2.2.2.2.2.2.1)], .box [.p (.int .i64 x_1523.At), .p (.int .i64 x_1523.Kind), .p (.int .i64 x_1523.Owner), .p (.int .i64 x_1523.Slot), .p (.str x_1523.Text.Text), .p (.sl 2 (x_1523.Text.Runs.map en_api_Run))], .map (enE en_arena_Node t_1530.2), .row 3 1 o2_1507.length (o2_1507.map en_i64)])) (by kernel_rfl)
        rcases ite_some h with ⟨c_1531, h⟩ | ⟨c_1531, h⟩
        · obtain ⟨t_1532, ht_1532, h⟩ := bind_some h
          obtain ⟨g_1533, h⟩ := guard_some h
          exact pathE 484 [.b true, .call [0, 2] (dom_SetText.R t_1524.1 x_1523.Text t_1524.2.2.1 t_1524.2.2.2.1 t_1524.2.2.2.2.1 t_1524.2.2.2.2.2.1 t_1524.2.2.2.2.2.2.1 t_1524.2.2.2.2.2.2.2.1 t_1524.2.2.2.2.2.2.2.2.1 t_1524.2.2.2.2.2.2.2.2.2.1 t_1530.2 t_1532) (dom_SetText.S1 t_1524.1 x_1523.Text t_1524.2.2.1 t_1524.2.2.2.1 t_1524.2.2.2.2.1 t_1524.2.2.2.2.2.1 t_1524.2.2.2.2.2.2.1 t_1524.2.2.2.2.2.2.2.1 t_1524.2.2.2.2.2.2.2.2.1 t_1524.2.2.2.2.2.2.2.2.2.1 t_1530.2 t_1532), .a (([t_1524.1] : List Int).map en_i64) ((o2_1507 ++ ([t_1524.1] : List Int)).map en_i64) (o2_1507 ++ ([t_1524.1] : List Int)).length, .i 8, .gc [0, 2, 5], .keep [0, 4, 5, 6], .stop] (ai (beq_iff_eq.2 c_1531) <| ai (dom_SetText.ok k t_1524.1 x_1523.Text t_1524.2.2.1 t_1524.2.2.2.1 t_1524.2.2.2.2.1 t_1524.2.2.2.2.2.1 t_1524.2.2.2.2.2.2.1 t_1524.2.2.2.2.2.2.2.1 t_1524.2.2.2.2.2.2.2.2.1 t_1524.2.2.2.2.2.2.2.2.2.1 t_1530.2 t_1532 ht_1532) <| ai (set_obE en_i64 (l := ([t_1524.1] : List Int)) (m := 1) rfl) <| ai (appo_obE en_i64 (l := o2_1507) (m := ([t_1524.1] : List Int)) (n := o2_1507.length) rfl (b := 8) g_1533) <| (ih l_1496 (w64 (i_1497 + 1)) t_1524.2.2.1 t_1524.2.2.2.1 t_1524.2.2.2.2.1 t_1524.2.2.2.2.2.1 t_1524.2.2.2.2.2.2.1 t_1524.2.2.2.2.2.2.2.1 t_1524.2.2.2.2.2.2.2.2.1 t_1524.2.2.2.2.2.2.2.2.2.1 t_1532.2 (o2_1507 ++ ([t_1524.1] : List Int)) _ h res st c0)) (by kernel_rfl)
        · exact pathE 460 [.b false, .i 7, .gc [0, 2, 3], .keep [0, 4, 5, 6], .stop] (ai (beq_eq_false_iff_ne.2 c_1531) <| (ih l_1496 (w64 (i_1497 + 1)) t_1524.2.2.1 t_1524.2.2.2.1 t_1524.2.2.2.2.1 t_1524.2.2.2.2.2.1 t_1524.2.2.2.2.2.2.1 t_1524.2.2.2.2.2.2.2.1 t_1524.2.2.2.2.2.2.2.2.1 t_1524.2.2.2.2.2.2.2.2.2.1 t_1530.2 o2_1507 _ h res st c0)) (by kernel_rfl)
    · obtain rfl := Option.some.inj h
      exact pathE 448 [.b false, .i 1, .keep [4, 5], .stop] (ai (decide_eq_false c_1522) <| (c0 (o0_1498, o0_1499, o0_1500, o0_1501, o0_1502, o0_1503, o0_1504, o0_1505, o1_1506, o2_1507) rfl)) (by kernel_rfl)
  · obtain rfl := Option.some.inj h
    exact pathE 484 [.n l_1496.length, .b false, .b false, .b false, .i 1, .keep [4, 5], .stop] (ai (len_ob en_law21_Op l_1496) <| ai (decide_eq_false c_1521) <| ai rF <| ai rF <| (c0 (o0_1498, o0_1499, o0_1500, o0_1501, o0_1502, o0_1503, o0_1504, o0_1505, o1_1506, o2_1507) rfl)) (by kernel_rfl)
theorem law21_built_l1.ok : ∀ k, law21_built_l1.S k
  | 0 => law21_built_l1.z
  | k + 1 => law21_built_l1.step k (law21_built_l1.ok k)
def law21_built.f (k : Nat) (l_1189 : (List law21_Op)) : Option ((List Int) × Int × Int × Int × Int × Int × Int × Int × Int × (List (Int × arena_Node))) := ((arena_New.f ).bind fun t_1483 => (Option.bind (law21_built_l1 k l_1189 0 0 0 0 0 1 0 0 0 t_1483 ([0] : List Int)) (fun v_1534 => (some (v_1534.2.2.2.2.2.2.2.2.2, v_1534.1, v_1534.2.1, v_1534.2.2.1, v_1534.2.2.2.1, v_1534.2.2.2.2.1, v_1534.2.2.2.2.2.1, v_1534.2.2.2.2.2.2.1, v_1534.2.2.2.2.2.2.2.1, v_1534.2.2.2.2.2.2.2.2.1)))))
theorem law21_built.run (k : Nat) (l_1189 : (List law21_Op)) (r : (List Int) × Int × Int × Int × Int × Int × Int × Int × Int × (List (Int × arena_Node))) (h : law21_built.f k l_1189 = some r) (res : Vv) (st : Sto) (hr : (law21_built.R l_1189 r, law21_built.S1 l_1189 r) = (res, st)) : RunE Try.prog ⟨0, law21_built.rs, res, st⟩ (.st law21_built.b .done) (argE 0 (law21_built.A l_1189)) (law21_built.S0 l_1189) := by
  unfold law21_built.f at h
  obtain ⟨t_1483, ht_1483, h⟩ := bind_some h
  obtain ⟨v_1534, hv_1534, h⟩ := bind_some h
  refine pathE 448 [.call [] (arena_New.R  t_1483) (arena_New.S1  t_1483), .i 14, .keep [0, 4, 5, 6], .stop] (ai (arena_New.ok  t_1483 ht_1483) <| (law21_built_l1.ok k l_1189 0 0 0 0 0 1 0 0 0 t_1483 ([0] : List Int) v_1534 hv_1534 res st ?_)) (by kernel_rfl)
  · intro y hx
    subst hx
    obtain rfl := Option.some.inj h
    exact pathE 448 [.i 7, .fz 3 [], .z (v_1534.2.2.2.2.2.2.2.2.2.map en_i64), .fin [0, 1]] (ai (set_obE en_i64 (l := v_1534.2.2.2.2.2.2.2.2.2) (m := v_1534.2.2.2.2.2.2.2.2.2.length) rfl) <| hr) (by kernel_rfl)
theorem law21_built.ok (k : Nat) (l_1189 : (List law21_Op)) (r : (List Int) × Int × Int × Int × Int × Int × Int × Int × Int × (List (Int × arena_Node))) (h : law21_built.f k l_1189 = some r) : OkS Try.prog 36 (law21_built.A l_1189) (law21_built.S0 l_1189) (law21_built.R l_1189 r) (law21_built.S1 l_1189 r) := okE Try.func36 m36 rfl rfl rfl (law21_built.run k l_1189 r h _ _ rfl)
-- 37 glazier/glazierlaw21.ids
def d37 : FnDef := ⟨34, [.tmp 4],
  (.seq
  (.ops [
    ⟨some 4, .mv (.c (.one (.nil 1))), none⟩] [0, 1])
  (.seq
  (.ops [
    ⟨some 9, .mv (.t 1), none⟩,
    ⟨some 10, .bslice 3 1 [(.t 9)], none⟩,
    ⟨some 5, .mv (.t 10), none⟩] [0, 1, 5])
  (.seq
  (.ops [
    ⟨some 12, .mv (.t 0), none⟩,
    ⟨some 13, .mv (.t 1), none⟩,
    ⟨some 14, .call 34 [(.t 12), (.t 13)], none⟩,
    ⟨some 11, .mv (.t 14), none⟩,
    ⟨some 15, .ext (.t 11) 0, none⟩,
    ⟨some 16, .ext (.t 11) 1, none⟩,
    ⟨some 6, .alloc [.p (.int .i64 0), .p (.int .i64 0), .p (.int .i64 0), .p (.int .i64 0), .p (.str []), .nil 2, .p (.str []), .p (.int .i64 0), .nil 4, .nil 3, .nil 1, .p (.str []), .nil 2], none⟩,
    ⟨none, .store 13 (.t 6) (.t 15), none⟩,
    ⟨some 7, .mv (.t 16), none⟩] [0, 5, 6])
  (.seq
  (.seq
  (.ops [
    ⟨some 8, .mv (.c (.one (.p (.int .i64 0)))), none⟩] [0, 5, 6, 8])
  (.block 0
    (.loop
      (.seq
      (.seq
      (.ops [
        ⟨some 17, .mv (.t 8), none⟩,
        ⟨some 18, .faddr 10 (.t 6), none⟩,
        ⟨some 19, .load 1 false (.t 18), none⟩,
        ⟨some 20, .len false (.t 19), none⟩,
        ⟨some 21, .bin 0 .lss (.t 17) (.t 20), none⟩] [0, 5, 6, 8, 21])
      (.cond (.t 21)
        .skip
        (.exit 0)))
      (.seq
      (.block 1
        (.ops [
          ⟨some 24, .mv (.t 5), none⟩,
          ⟨some 25, .mv (.t 0), none⟩,
          ⟨some 26, .faddr 10 (.t 6), none⟩,
          ⟨some 27, .load 1 false (.t 26), none⟩,
          ⟨some 28, .mv (.t 8), none⟩,
          ⟨some 29, .iaddr 1 (.t 27) (.t 28), none⟩,
          ⟨some 30, .load 1 false (.t 29), none⟩,
          ⟨some 31, .call 37 [(.t 25), (.t 30)], none⟩,
          ⟨some 32, .app 3 1 8 (.t 24) (.t 31), none⟩,
          ⟨some 5, .mv (.t 32), none⟩] [0, 5, 6, 8]))
      (.ops [
        ⟨some 22, .mv (.t 8), none⟩,
        ⟨some 23, .bin 0 .add (.t 22) (.c (.one (.p (.int .i64 1)))), none⟩,
        ⟨some 8, .mv (.t 23), none⟩] [0, 5, 6, 8]))))))
  (.seq
  (.ops [
    ⟨some 33, .mv (.t 5), none⟩,
    ⟨some 4, .mv (.t 33), none⟩] [4])
  .ret)))))⟩
theorem m37 : mFn Try.prog d37 Try.f37 = true := by kernel_rfl
def law21_ids.A (id_1536 : Int) (o0_1537 : Int) (o0_1538 : Int) (o0_1539 : Int) (o0_1540 : Int) (o0_1541 : Int) (o0_1542 : Int) (o0_1543 : Int) (o0_1544 : Int) (o1_1545 : (List (Int × arena_Node))) : List Vv := [.one (.ptr 0 0), .one (.p (.int .i64 id_1536))]
def law21_ids.S0 (id_1536 : Int) (o0_1537 : Int) (o0_1538 : Int) (o0_1539 : Int) (o0_1540 : Int) (o0_1541 : Int) (o0_1542 : Int) (o0_1543 : Int) (o0_1544 : Int) (o1_1545 : (List (Int × arena_Node))) : Sto := [.box [.mp 1, .p (.int .i64 o0_1537), .p (.int .i64 o0_1538), .p (.int .i64 o0_1539), .p (.int .i64 o0_1540), .p (.int .i64 o0_1541), .p (.int .i64 o0_1542), .p (.int .i64 o0_1543), .p (.int .i64 o0_1544)], .map (enE en_arena_Node o1_1545)]
def law21_ids.R (id_1536 : Int) (o0_1537 : Int) (o0_1538 : Int) (o0_1539 : Int) (o0_1540 : Int) (o0_1541 : Int) (o0_1542 : Int) (o0_1543 : Int) (o0_1544 : Int) (o1_1545 : (List (Int × arena_Node))) (r_0 : (List Int)) : Vv := .one (.p (.sl 1 (r_0.map en_i64)))
def law21_ids.S1 (id_1536 : Int) (o0_1537 : Int) (o0_1538 : Int) (o0_1539 : Int) (o0_1540 : Int) (o0_1541 : Int) (o0_1542 : Int) (o0_1543 : Int) (o0_1544 : Int) (o1_1545 : (List (Int × arena_Node))) (r_0 : (List Int)) : Sto := [.box [.mp 1, .p (.int .i64 o0_1537), .p (.int .i64 o0_1538), .p (.int .i64 o0_1539), .p (.int .i64 o0_1540), .p (.int .i64 o0_1541), .p (.int .i64 o0_1542), .p (.int .i64 o0_1543), .p (.int .i64 o0_1544)], .map (enE en_arena_Node o1_1545)]
def law21_ids.rs : List Rv := d37.res
def law21_ids.b : Sx := d37.body
mutual
def law21_ids_l1 : Nat → (List (Int × arena_Node)) → (List Int) → Int → (List Int) → Option (((List Int)))
  | 0, _, _, _, _ => none
  | k + 1, o1_1781, o5_1795, i_1772, o3_1793 => (if i_1772 < (o5_1795.length : Int) then ((idx o5_1795 i_1772).bind fun x_1801 => ((law21_ids.f k x_1801 o1_1781).bind fun t_1802 => (if (o3_1793 ++ t_1802).length * 8 ≤ room then (law21_ids_l1 k o1_1781 o5_1795 (w64 (i_1772 + 1)) (o3_1793 ++ t_1802)) else none))) else (some o3_1793))
def law21_ids.f : Nat → Int → (List (Int × arena_Node)) → Option ((List Int))
  | 0, _, _ => none
  | k + 1, id_1536, o1_1545 => ((arena_Arena_Get.f k id_1536 o1_1545).bind fun t_1744 => (Option.bind (law21_ids_l1 k o1_1545 t_1744.1.Kids 0 ([id_1536] : List Int)) (fun v_1804 => (some v_1804))))
end
def law21_ids_l1.S (k : Nat) : Prop := ∀ (o0_1773 : Int) (o0_1774 : Int) (o0_1775 : Int) (o0_1776 : Int) (o0_1777 : Int) (o0_1778 : Int) (o0_1779 : Int) (o0_1780 : Int) (o1_1781 : (List (Int × arena_Node))) (o2_1782 : Int) (o2_1783 : Int) (o2_1784 : Int) (o2_1785 : Int) (o2_1786 : (List UInt8)) (o2_1787 : (List api_Run)) (o2_1788 : (List UInt8)) (o2_1789 : Int) (o2_1790 : (List api_Attr)) (o2_1791 : (List UInt8)) (o2_1792 : (List api_Run)) (o4_1794 : (List api_Hook)) (o5_1795 : (List Int)) (i_1772 : Int) (o3_1793 : (List Int)) (v : ((List Int))), law21_ids_l1 k o1_1781 o5_1795 i_1772 o3_1793 = some v → ∀ (res : Vv) (st : Sto), (∀ x_0, v = x_0 → RunE Try.prog ⟨2, law21_ids.rs, res, st⟩ (koAfter law21_ids.b [1, 1, 1, 0, 1]) [(5, .one (.own 2 1 0 x_0.length))] [.box [.mp 1, .p (.int .i64 o0_1773), .p (.int .i64 o0_1774), .p (.int .i64 o0_1775), .p (.int .i64 o0_1776), .p (.int .i64 o0_1777), .p (.int .i64 o0_1778), .p (.int .i64 o0_1779), .p (.int .i64 o0_1780)], .map (enE en_arena_Node o1_1781), .row 3 1 x_0.length (x_0.map en_i64)]) → RunE Try.prog ⟨2, law21_ids.rs, res, st⟩ (koLoop law21_ids.b [1, 1, 1, 0, 1, 0]) [(0, .one (.ptr 0 0)), (5, .one (.own 3 1 0 o3_1793.length)), (6, .one (.ptr 2 0)), (8, .one (.p (.int .i64 i_1772)))] [.box [.mp 1, .p (.int .i64 o0_1773), .p (.int .i64 o0_1774), .p (.int .i64 o0_1775), .p (.int .i64 o0_1776), .p (.int .i64 o0_1777), .p (.int .i64 o0_1778), .p (.int .i64 o0_1779), .p (.int .i64 o0_1780)], .map (enE en_arena_Node o1_1781), .box [.p (.int .i64 o2_1782), .p (.int .i64 o2_1783), .p (.int .i64 o2_1784), .p (.int .i64 o2_1785), .p (.str o2_1786), .p (.sl 2 (o2_1787.map en_api_Run)), .p (.str o2_1788), .p (.int .i64 o2_1789), .p (.sl 4 (o2_1790.map en_api_Attr)), .own 4 3 0 o4_1794.length, .own 5 1 0 o5_1795.length, .p (.str o2_1791), .p (.sl 2 (o2_1792.map en_api_Run))], .row 3 1 o3_1793.length (o3_1793.map en_i64), .row 69 3 o4_1794.length (o4_1794.map en_api_Hook), .row 3 1 o5_1795.length (o5_1795.map en_i64)]
def law21_ids.S (k : Nat) : Prop := ∀ (id_1536 : Int) (o0_1537 : Int) (o0_1538 : Int) (o0_1539 : Int) (o0_1540 : Int) (o0_1541 : Int) (o0_1542 : Int) (o0_1543 : Int) (o0_1544 : Int) (o1_1545 : (List (Int × arena_Node))) (r : (List Int)), law21_ids.f k id_1536 o1_1545 = some r → OkS Try.prog 37 (law21_ids.A id_1536 o0_1537 o0_1538 o0_1539 o0_1540 o0_1541 o0_1542 o0_1543 o0_1544 o1_1545) (law21_ids.S0 id_1536 o0_1537 o0_1538 o0_1539 o0_1540 o0_1541 o0_1542 o0_1543 o0_1544 o1_1545) (law21_ids.R id_1536 o0_1537 o0_1538 o0_1539 o0_1540 o0_1541 o0_1542 o0_1543 o0_1544 o1_1545 r) (law21_ids.S1 id_1536 o0_1537 o0_1538 o0_1539 o0_1540 o0_1541 o0_1542 o0_1543 o0_1544 o1_1545 r)
theorem law21_ids_l1.z : law21_ids_l1.S 0 := fun _ _ _ _ _ _ _ _ _ _ _ _ _ _ _ _ _ _ _ _ _ _ _ _ v h => none_some h
theorem law21_ids.z : law21_ids.S 0 := fun _ _ _ _ _ _ _ _ _ _ r h => none_some h
theorem law21_ids_l1.step (k : Nat) (ih_law21_ids_l1 : law21_ids_l1.S k) (ih_law21_ids : law21_ids.S k) : law21_ids_l1.S (k + 1) := by
  have ih := ih_law21_ids_l1
  intro o0_1773 o0_1774 o0_1775 o0_1776 o0_1777 o0_1778 o0_1779 o0_1780 o1_1781 o2_1782 o2_1783 o2_1784 o2_1785 o2_1786 o2_1787 o2_1788 o2_1789 o2_1790 o2_1791 o2_1792 o4_1794 o5_1795 i_1772 o3_1793 v h res st c0
  rw [law21_ids_l1] at h
  rcases ite_some h with ⟨c_1800, h⟩ | ⟨c_1800, h⟩
  · obtain ⟨x_1801, hx_1801, h⟩ := bind_some h
    obtain ⟨t_1802, ht_1802, h⟩ := bind_some h
    obtain ⟨g_1803, h⟩ := guard_some h
    exact pathE 496 [.b true, .c (en_i64 x_1801), .call [0, 1] (law21_ids.R x_1801 o0_1773 o0_1774 o0_1775 o0_1776 o0_1777 o0_1778 o0_1779 o0_1780 o1_1781 t_1802) (law21_ids.S1 x_1801 o0_1773 o0_1774 o0_1775 o0_1776 o0_1777 o0_1778 o0_1779 o0_1780 o1_1781 t_1802), .a (t_1802.map en_i64) ((o3_1793 ++ t_1802).map en_i64) (o3_1793 ++ t_1802).length, .i 8, .gc [0, 1, 2, 6, 4, 5], .keep [0, 5, 6, 8], .stop] (ai (decide_eq_true c_1800) <| ai (idx_ownE (m := o5_1795.length) rfl hx_1801) <| ai (idx_ob en_i64 hx_1801).2 <| ai (ih_law21_ids x_1801 o0_1773 o0_1774 o0_1775 o0_1776 o0_1777 o0_1778 o0_1779 o0_1780 o1_1781 t_1802 ht_1802) <| ai (Eq.refl (t_1802.map en_i64)) <| ai (appo_obE en_i64 (l := o3_1793) (m := t_1802) (n := o3_1793.length) rfl (b := 8) g_1803) <| (ih o0_1773 o0_1774 o0_1775 o0_1776 o0_1777 o0_1778 o0_1779 o0_1780 o1_1781 o2_1782 o2_1783 o2_1784 o2_1785 o2_1786 o2_1787 o2_1788 o2_1789 o2_1790 o2_1791 o2_1792 o4_1794 o5_1795 (w64 (i_1772 + 1)) (o3_1793 ++ t_1802) _ h res st c0)) (by kernel_rfl)
  · obtain rfl := Option.some.inj h
    exact pathE 460 [.b false, .i 1, .gc [0, 1, 3], .keep [5], .stop] (ai (decide_eq_false c_1800) <| (c0 o3_1793 rfl)) (by kernel_rfl)
theorem law21_ids.step (k : Nat) (ih_law21_ids_l1 : law21_ids_l1.S k) (ih_law21_ids : law21_ids.S k) : law21_ids.S (k + 1) := by
  intro id_1536 o0_1537 o0_1538 o0_1539 o0_1540 o0_1541 o0_1542 o0_1543 o0_1544 o1_1545 r h
  refine okE Try.func37 m37 rfl rfl rfl ?_
  generalize hr : (law21_ids.R id_1536 o0_1537 o0_1538 o0_1539 o0_1540 o0_1541 o0_1542 o0_1543 o0_1544 o1_1545 r, law21_ids.S1 id_1536 o0_1537 o0_1538 o0_1539 o0_1540 o0_1541 o0_1542 o0_1543 o0_1544 o1_1545 r) = q
  obtain ⟨res, st⟩ := q
  rw [show law21_ids.R id_1536 o0_1537 o0_1538 o0_1539 o0_1540 o0_1541 o0_1542 o0_1543 o0_1544 o1_1545 r = res from congrArg Prod.fst hr, show law21_ids.S1 id_1536 o0_1537 o0_1538 o0_1539 o0_1540 o0_1541 o0_1542 o0_1543 o0_1544 o1_1545 r = st from congrArg Prod.snd hr]
  rw [law21_ids.f] at h
  obtain ⟨t_1744, ht_1744, h⟩ := bind_some h
  obtain ⟨v_1804, hv_1804, h⟩ := bind_some h
  refine pathE 460 [.call [0, 1] (arena_Arena_Get.R id_1536 o0_1537 o0_1538 o0_1539 o0_1540 o0_1541 o0_1542 o0_1543 o0_1544 o1_1545 t_1744) (arena_Arena_Get.S1 id_1536 o0_1537 o0_1538 o0_1539 o0_1540 o0_1541 o0_1542 o0_1543 o0_1544 o1_1545 t_1744), .i 14, .gc [0, 1, 5, 2, 3, 4], .keep [0, 5, 6, 8], .stop] (ai (arena_Arena_Get.ok k id_1536 o0_1537 o0_1538 o0_1539 o0_1540 o0_1541 o0_1542 o0_1543 o0_1544 o1_1545 t_1744 ht_1744) <| (ih_law21_ids_l1 o0_1537 o0_1538 o0_1539 o0_1540 o0_1541 o0_1542 o0_1543 o0_1544 o1_1545 t_1744.1.Id t_1744.1.Owner t_1744.1.Parent t_1744.1.Kind t_1744.1.Tag.Text t_1744.1.Tag.Runs t_1744.1.Key t_1744.1.Slot t_1744.1.Attrs t_1744.1.Text.Text t_1744.1.Text.Runs t_1744.1.Hooks t_1744.1.Kids 0 ([id_1536] : List Int) v_1804 hv_1804 res st ?_)) (by kernel_rfl)
  · intro y hx
    subst hx
    obtain rfl := Option.some.inj h
    exact pathE 448 [.i 5, .fz 4 [], .z (v_1804.map en_i64), .fin [0, 1]] (ai (set_obE en_i64 (l := v_1804) (m := v_1804.length) rfl) <| hr) (by kernel_rfl)
theorem law21_ids.all : ∀ k, law21_ids_l1.S k ∧ law21_ids.S k
  | 0 => ⟨law21_ids_l1.z, law21_ids.z⟩
  | k + 1 => by
    obtain ⟨a0, a1⟩ := law21_ids.all k
    exact ⟨law21_ids_l1.step k a0 a1, law21_ids.step k a0 a1⟩
theorem law21_ids_l1.ok (k : Nat) : law21_ids_l1.S k := (law21_ids.all k).1
theorem law21_ids.ok (k : Nat) : law21_ids.S k := (law21_ids.all k).2
-- 40 glazier/glazierlaw21.trees
def d40 : FnDef := ⟨64, [.tmp 4],
  (.seq
  (.ops [
    ⟨some 4, .mv (.c (.one (.nil 6))), none⟩] [0, 1, 11])
  (.seq
  (.ops [
    ⟨some 13, .mv (.t 0), none⟩,
    ⟨some 14, .mv (.t 1), none⟩,
    ⟨some 15, .call 34 [(.t 13), (.t 14)], none⟩,
    ⟨some 12, .mv (.t 15), none⟩,
    ⟨some 16, .ext (.t 12) 0, none⟩,
    ⟨some 17, .ext (.t 12) 1, none⟩,
    ⟨some 5, .alloc [.p (.int .i64 0), .p (.int .i64 0), .p (.int .i64 0), .p (.int .i64 0), .p (.str []), .nil 2, .p (.str []), .p (.int .i64 0), .nil 4, .nil 3, .nil 1, .p (.str []), .nil 2], none⟩,
    ⟨none, .store 13 (.t 5) (.t 16), none⟩,
    ⟨some 6, .mv (.t 17), none⟩] [0, 5, 11])
  (.seq
  (.ops [
    ⟨some 7, .mv (.c (.one (.nil 6))), none⟩] [0, 5, 7, 11])
  (.seq
  (.seq
  (.ops [
    ⟨some 8, .mv (.c (.one (.p (.int .i64 0)))), none⟩] [0, 5, 7, 8, 11])
  (.block 0
    (.loop
      (.seq
      (.seq
      (.ops [
        ⟨some 18, .mv (.t 8), none⟩,
        ⟨some 19, .faddr 10 (.t 5), none⟩,
        ⟨some 20, .load 1 false (.t 19), none⟩,
        ⟨some 21, .len false (.t 20), none⟩,
        ⟨some 22, .bin 0 .lss (.t 18) (.t 21), none⟩] [0, 5, 7, 8, 11, 22])
      (.cond (.t 22)
        .skip
        (.exit 0)))
      (.seq
      (.block 1
        (.seq
        (.ops [
          ⟨some 26, .mv (.t 0), none⟩,
          ⟨some 27, .faddr 10 (.t 5), none⟩,
          ⟨some 28, .load 1 false (.t 27), none⟩,
          ⟨some 29, .mv (.t 8), none⟩,
          ⟨some 30, .iaddr 1 (.t 28) (.t 29), none⟩,
          ⟨some 31, .load 1 false (.t 30), none⟩,
          ⟨some 32, .call 34 [(.t 26), (.t 31)], none⟩,
          ⟨some 25, .mv (.t 32), none⟩,
          ⟨some 33, .ext (.t 25) 0, none⟩,
          ⟨some 34, .ext (.t 25) 1, none⟩,
          ⟨some 9, .alloc [.p (.int .i64 0), .p (.int .i64 0), .p (.int .i64 0), .p (.int .i64 0), .p (.str []), .nil 2, .p (.str []), .p (.int .i64 0), .nil 4, .nil 3, .nil 1, .p (.str []), .nil 2], none⟩,
          ⟨none, .store 13 (.t 9) (.t 33), none⟩,
          ⟨some 10, .mv (.t 34), none⟩] [0, 5, 7, 8, 9, 11])
        (.seq
        (.drawn [
          ⟨⟨some 35, .faddr 4 (.t 9), none⟩, [], false⟩,
          ⟨⟨some 36, .load 2 true (.t 35), none⟩, [0], false⟩,
          ⟨⟨some 37, .faddr 8 (.t 9), none⟩, [], false⟩,
          ⟨⟨some 38, .load 1 false (.t 37), none⟩, [2], false⟩,
          ⟨⟨some 39, .mv (.t 0), none⟩, [], false⟩,
          ⟨⟨some 40, .faddr 10 (.t 5), none⟩, [], false⟩,
          ⟨⟨some 41, .load 1 false (.t 40), none⟩, [5], false⟩,
          ⟨⟨some 42, .mv (.t 8), none⟩, [], false⟩,
          ⟨⟨some 43, .iaddr 1 (.t 41) (.t 42), none⟩, [5, 6, 7], false⟩,
          ⟨⟨some 44, .load 1 false (.t 43), none⟩, [5, 6, 7, 8], false⟩,
          ⟨⟨some 45, .call 40 [(.t 39), (.t 44)], none⟩, [4, 5, 6, 7, 8, 9], true⟩,
          ⟨⟨some 46, .build [.p (.str []), .nil 2, .nil 4, .nil 6, .p (.str []), .nil 2] [(0, 2, (.t 36)), (2, 1, (.t 38)), (3, 1, (.t 45))], none⟩, [0, 1, 2, 3, 4, 5, 6, 7, 8, 9, 10], false⟩,
          ⟨⟨some 11, .alloc [.p (.str []), .nil 2, .nil 4, .nil 6, .p (.str []), .nil 2], none⟩, [], true⟩,
          ⟨⟨none, .store 6 (.t 11) (.t 46), none⟩, [0, 1, 2, 3, 4, 5, 6, 7, 8, 9, 10, 11, 12], true⟩] [[], [10], [12], [10, 12], [10, 12, 13]] [0, 5, 7, 8, 9, 11])
        (.seq
        (.seq
        (.ops [
          ⟨some 47, .faddr 3 (.t 9), none⟩,
          ⟨some 48, .load 1 false (.t 47), none⟩] [0, 5, 7, 8, 9, 11, 48])
        (.block 2
          (.seq
          (.ops [
            ⟨some 50, .bin 0 .eql (.t 48) (.c (.one (.p (.int .i64 2)))), none⟩,
            ⟨some 49, .mv (.t 50), none⟩] [0, 5, 7, 8, 9, 11, 48, 49])
          (.cond (.t 49)
            (.ops [
              ⟨some 51, .faddr 11 (.t 9), none⟩,
              ⟨some 52, .load 2 true (.t 51), none⟩,
              ⟨some 53, .build [.p (.str []), .nil 2, .nil 4, .nil 6, .p (.str []), .nil 2] [(4, 2, (.t 52))], none⟩,
              ⟨none, .store 6 (.t 11) (.t 53), none⟩] [0, 5, 7, 8, 11])
            (.seq
            (.ops [
              ⟨some 55, .bin 0 .eql (.t 48) (.c (.one (.p (.int .i64 3)))), none⟩,
              ⟨some 54, .mv (.t 55), none⟩] [0, 5, 7, 8, 11, 54])
            (.cond (.t 54)
              (.ops [
                ⟨some 56, .call 32 [(.c (.one (.p (.str [100, 105, 118])))), (.c (.one (.p (.int .i64 0))))], none⟩,
                ⟨some 57, .faddr 0 (.t 11), none⟩,
                ⟨none, .store 2 (.t 57) (.t 56), none⟩,
                ⟨some 58, .faddr 2 (.t 11), none⟩,
                ⟨none, .store 1 (.t 58) (.c (.one (.nil 4))), none⟩] [0, 5, 7, 8, 11])
              .skip))))))
        (.ops [
          ⟨some 59, .mv (.t 7), none⟩,
          ⟨some 60, .load 6 true (.t 11), none⟩,
          ⟨some 61, .bslice 49 6 [(.t 60)], none⟩,
          ⟨some 62, .app 49 6 128 (.t 59) (.t 61), none⟩,
          ⟨some 7, .mv (.t 62), none⟩] [0, 5, 7, 8, 11])))))
      (.ops [
        ⟨some 23, .mv (.t 8), none⟩,
        ⟨some 24, .bin 0 .add (.t 23) (.c (.one (.p (.int .i64 1)))), none⟩,
        ⟨some 8, .mv (.t 24), none⟩] [0, 5, 7, 8, 11]))))))
  (.seq
  (.ops [
    ⟨some 63, .mv (.t 7), none⟩,
    ⟨some 4, .mv (.t 63), none⟩] [4])
  .ret)))))⟩
theorem m40 : mFn Try.prog d40 Try.f40 = true := by kernel_rfl
def law21_trees.A (id_1811 : Int) (o0_1812 : Int) (o0_1813 : Int) (o0_1814 : Int) (o0_1815 : Int) (o0_1816 : Int) (o0_1817 : Int) (o0_1818 : Int) (o0_1819 : Int) (o1_1820 : (List (Int × arena_Node))) : List Vv := [.one (.ptr 0 0), .one (.p (.int .i64 id_1811))]
def law21_trees.S0 (id_1811 : Int) (o0_1812 : Int) (o0_1813 : Int) (o0_1814 : Int) (o0_1815 : Int) (o0_1816 : Int) (o0_1817 : Int) (o0_1818 : Int) (o0_1819 : Int) (o1_1820 : (List (Int × arena_Node))) : Sto := [.box [.mp 1, .p (.int .i64 o0_1812), .p (.int .i64 o0_1813), .p (.int .i64 o0_1814), .p (.int .i64 o0_1815), .p (.int .i64 o0_1816), .p (.int .i64 o0_1817), .p (.int .i64 o0_1818), .p (.int .i64 o0_1819)], .map (enE en_arena_Node o1_1820)]
def law21_trees.R (id_1811 : Int) (o0_1812 : Int) (o0_1813 : Int) (o0_1814 : Int) (o0_1815 : Int) (o0_1816 : Int) (o0_1817 : Int) (o0_1818 : Int) (o0_1819 : Int) (o1_1820 : (List (Int × arena_Node))) (r_0 : (List api_Tree)) : Vv := .one (.p (.sl 6 (r_0.map enR_api_Tree)))
def law21_trees.S1 (id_1811 : Int) (o0_1812 : Int) (o0_1813 : Int) (o0_1814 : Int) (o0_1815 : Int) (o0_1816 : Int) (o0_1817 : Int) (o0_1818 : Int) (o0_1819 : Int) (o1_1820 : (List (Int × arena_Node))) (r_0 : (List api_Tree)) : Sto := [.box [.mp 1, .p (.int .i64 o0_1812), .p (.int .i64 o0_1813), .p (.int .i64 o0_1814), .p (.int .i64 o0_1815), .p (.int .i64 o0_1816), .p (.int .i64 o0_1817), .p (.int .i64 o0_1818), .p (.int .i64 o0_1819)], .map (enE en_arena_Node o1_1820)]
def law21_trees.rs : List Rv := d40.res
def law21_trees.b : Sx := d40.body
mutual
def law21_trees_l1 : Nat → (List (Int × arena_Node)) → (List Int) → Int → (List api_Tree) → Option (((List api_Tree)))
  | 0, _, _, _, _ => none
  | k + 1, o1_2222, o5_2236, i_2213, o3_2234 => (if i_2213 < (o5_2236.length : Int) then ((idx o5_2236 i_2213).bind fun x_2249 => ((arena_Arena_Get.f k x_2249 o1_2222).bind fun t_2250 => ((idx o5_2236 i_2213).bind fun x_2251 => ((law21_trees.f k x_2251 o1_2222).bind fun t_2252 => (if t_2250.1.Kind = 2 then (if (o3_2234 ++ ([(api_Tree.mk (api_Str.mk [] ([] : List api_Run)) ([] : List api_Attr) ([] : List api_Tree) t_2250.1.Text)] : List api_Tree)).length * 128 ≤ room then (law21_trees_l1 k o1_2222 o5_2236 (w64 (i_2213 + 1)) (o3_2234 ++ ([(api_Tree.mk (api_Str.mk [] ([] : List api_Run)) ([] : List api_Attr) ([] : List api_Tree) t_2250.1.Text)] : List api_Tree))) else none) else (if t_2250.1.Kind = 3 then ((mark_Of.f ([100, 105, 118] : List UInt8) 0).bind fun t_2256 => (if (o3_2234 ++ ([(api_Tree.mk t_2256 ([] : List api_Attr) t_2252 (api_Str.mk [] ([] : List api_Run)))] : List api_Tree)).length * 128 ≤ room then (law21_trees_l1 k o1_2222 o5_2236 (w64 (i_2213 + 1)) (o3_2234 ++ ([(api_Tree.mk t_2256 ([] : List api_Attr) t_2252 (api_Str.mk [] ([] : List api_Run)))] : List api_Tree))) else none)) else (if (o3_2234 ++ ([(api_Tree.mk t_2250.1.Tag t_2250.1.Attrs t_2252 (api_Str.mk [] ([] : List api_Run)))] : List api_Tree)).length * 128 ≤ room then (law21_trees_l1 k o1_2222 o5_2236 (w64 (i_2213 + 1)) (o3_2234 ++ ([(api_Tree.mk t_2250.1.Tag t_2250.1.Attrs t_2252 (api_Str.mk [] ([] : List api_Run)))] : List api_Tree))) else none))))))) else (some o3_2234))
def law21_trees.f : Nat → Int → (List (Int × arena_Node)) → Option ((List api_Tree))
  | 0, _, _ => none
  | k + 1, id_1811, o1_1820 => ((arena_Arena_Get.f k id_1811 o1_1820).bind fun t_2149 => (Option.bind (law21_trees_l1 k o1_1820 t_2149.1.Kids 0 ([] : List api_Tree)) (fun v_2259 => (some v_2259))))
end
def law21_trees_l1.S (k : Nat) : Prop := ∀ (o0_2214 : Int) (o0_2215 : Int) (o0_2216 : Int) (o0_2217 : Int) (o0_2218 : Int) (o0_2219 : Int) (o0_2220 : Int) (o0_2221 : Int) (o1_2222 : (List (Int × arena_Node))) (o2_2223 : Int) (o2_2224 : Int) (o2_2225 : Int) (o2_2226 : Int) (o2_2227 : (List UInt8)) (o2_2228 : (List api_Run)) (o2_2229 : (List UInt8)) (o2_2230 : Int) (o2_2231 : (List api_Attr)) (o2_2232 : (List UInt8)) (o2_2233 : (List api_Run)) (o4_2235 : (List api_Hook)) (o5_2236 : (List Int)) (i_2213 : Int) (o3_2234 : (List api_Tree)) (v : ((List api_Tree))), law21_trees_l1 k o1_2222 o5_2236 i_2213 o3_2234 = some v → ∀ (res : Vv) (st : Sto), (∀ x_0, v = x_0 → RunE Try.prog ⟨2, law21_trees.rs, res, st⟩ (koAfter law21_trees.b [1, 1, 1, 0, 1]) [(7, .one (.own 2 6 0 x_0.length))] [.box [.mp 1, .p (.int .i64 o0_2214), .p (.int .i64 o0_2215), .p (.int .i64 o0_2216), .p (.int .i64 o0_2217), .p (.int .i64 o0_2218), .p (.int .i64 o0_2219), .p (.int .i64 o0_2220), .p (.int .i64 o0_2221)], .map (enE en_arena_Node o1_2222), .row 49 6 x_0.length (x_0.map enR_api_Tree)]) → RunE Try.prog ⟨2, law21_trees.rs, res, st⟩ (koLoop law21_trees.b [1, 1, 1, 0, 1, 0]) [(0, .one (.ptr 0 0)), (5, .one (.ptr 2 0)), (7, .one (.own 3 6 0 o3_2234.length)), (8, .one (.p (.int .i64 i_2213)))] [.box [.mp 1, .p (.int .i64 o0_2214), .p (.int .i64 o0_2215), .p (.int .i64 o0_2216), .p (.int .i64 o0_2217), .p (.int .i64 o0_2218), .p (.int .i64 o0_2219), .p (.int .i64 o0_2220), .p (.int .i64 o0_2221)], .map (enE en_arena_Node o1_2222), .box [.p (.int .i64 o2_2223), .p (.int .i64 o2_2224), .p (.int .i64 o2_2225), .p (.int .i64 o2_2226), .p (.str o2_2227), .p (.sl 2 (o2_2228.map en_api_Run)), .p (.str o2_2229), .p (.int .i64 o2_2230), .p (.sl 4 (o2_2231.map en_api_Attr)), .own 4 3 0 o4_2235.length, .own 5 1 0 o5_2236.length, .p (.str o2_2232), .p (.sl 2 (o2_2233.map en_api_Run))], .row 49 6 o3_2234.length (o3_2234.map enR_api_Tree), .row 69 3 o4_2235.length (o4_2235.map en_api_Hook), .row 3 1 o5_2236.length (o5_2236.map en_i64)]
def law21_trees.S (k : Nat) : Prop := ∀ (id_1811 : Int) (o0_1812 : Int) (o0_1813 : Int) (o0_1814 : Int) (o0_1815 : Int) (o0_1816 : Int) (o0_1817 : Int) (o0_1818 : Int) (o0_1819 : Int) (o1_1820 : (List (Int × arena_Node))) (r : (List api_Tree)), law21_trees.f k id_1811 o1_1820 = some r → OkS Try.prog 40 (law21_trees.A id_1811 o0_1812 o0_1813 o0_1814 o0_1815 o0_1816 o0_1817 o0_1818 o0_1819 o1_1820) (law21_trees.S0 id_1811 o0_1812 o0_1813 o0_1814 o0_1815 o0_1816 o0_1817 o0_1818 o0_1819 o1_1820) (law21_trees.R id_1811 o0_1812 o0_1813 o0_1814 o0_1815 o0_1816 o0_1817 o0_1818 o0_1819 o1_1820 r) (law21_trees.S1 id_1811 o0_1812 o0_1813 o0_1814 o0_1815 o0_1816 o0_1817 o0_1818 o0_1819 o1_1820 r)
theorem law21_trees_l1.z : law21_trees_l1.S 0 := fun _ _ _ _ _ _ _ _ _ _ _ _ _ _ _ _ _ _ _ _ _ _ _ _ v h => none_some h
theorem law21_trees.z : law21_trees.S 0 := fun _ _ _ _ _ _ _ _ _ _ r h => none_some h
theorem law21_trees_l1.step (k : Nat) (ih_law21_trees_l1 : law21_trees_l1.S k) (ih_law21_trees : law21_trees.S k) : law21_trees_l1.S (k + 1) := by
  have ih := ih_law21_trees_l1
  intro o0_2214 o0_2215 o0_2216 o0_2217 o0_2218 o0_2219 o0_2220 o0_2221 o1_2222 o2_2223 o2_2224 o2_2225 o2_2226 o2_2227 o2_2228 o2_2229 o2_2230 o2_2231 o2_2232 o2_2233 o4_2235 o5_2236 i_2213 o3_2234 v h res st c0
  rw [law21_trees_l1] at h
  rcases ite_some h with ⟨c_2248, h⟩ | ⟨c_2248, h⟩
  · obtain ⟨x_2249, hx_2249, h⟩ := bind_some h
    obtain ⟨t_2250, ht_2250, h⟩ := bind_some h
    obtain ⟨x_2251, hx_2251, h⟩ := bind_some h
    obtain ⟨t_2252, ht_2252, h⟩ := bind_some h
    refine pathE 496 [.b true, .c (en_i64 x_2249), .call [0, 1] (arena_Arena_Get.R x_2249 o0_2214 o0_2215 o0_2216 o0_2217 o0_2218 o0_2219 o0_2220 o0_2221 o1_2222 t_2250) (arena_Arena_Get.S1 x_2249 o0_2214 o0_2215 o0_2216 o0_2217 o0_2218 o0_2219 o0_2220 o0_2221 o1_2222 t_2250), .dr 1 [[], [], [], [], [], [], [], [], [], [.c (en_i64 x_2251)], [.call [0, 1] (law21_trees.R x_2251 o0_2214 o0_2215 o0_2216 o0_2217 o0_2218 o0_2219 o0_2220 o0_2221 o1_2222 t_2252) (law21_trees.S1 x_2251 o0_2214 o0_2215 o0_2216 o0_2217 o0_2218 o0_2219 o0_2220 o0_2221 o1_2222 t_2252)], [], [.slot 9], []] [.one (.ptr 8 4), .agg [.p (.str t_2250.1.Tag.Text), .p (.sl 2 (t_2250.1.Tag.Runs.map en_api_Run))], .one (.ptr 8 8), .one (.p (.sl 4 (t_2250.1.Attrs.map en_api_Attr))), .one (.ptr 0 0), .one (.ptr 2 10), .one (.own 5 1 0 o5_2236.length), .one (.p (.int .i64 i_2213)), .one (.eptr 5 1 (Int.toNat i_2213) 0), .one (.p (.int .i64 x_2251)), .one (.p (.sl 6 (t_2252.map enR_api_Tree))), .agg [.p (.str t_2250.1.Tag.Text), .p (.sl 2 (t_2250.1.Tag.Runs.map en_api_Run)), .p (.sl 4 (t_2250.1.Attrs.map en_api_Attr)), .p (.sl 6 (t_2252.map enR_api_Tree)), .p (.str []), .nil 2], .one (.ptr 9 0), .top] [[], [], [], [], [], [], [], [], [], [], [], [], [(9, .box [.p (.str []), .nil 2, .nil 4, .nil 6, .p (.str []), .nil 2])], [(9, .box [.p (.str t_2250.1.Tag.Text), .p (.sl 2 (t_2250.1.Tag.Runs.map en_api_Run)), .p (.sl 4 (t_2250.1.Attrs.map en_api_Attr)), .p (.sl 6 (t_2252.map enR_api_Tree)), .p (.str []), .nil 2])]], .i 12, .gc [0, 1, 2, 8, 9, 3, 4, 5, 6, 7], .keep [0, 5, 7, 8, 9, 11, 48, 49], .stop] (ai (decide_eq_true c_2248) <| ai (idx_ownE (m := o5_2236.length) rfl hx_2249) <| ai (idx_ob en_i64 hx_2249).2 <| ai (arena_Arena_Get.ok k x_2249 o0_2214 o0_2215 o0_2216 o0_2217 o0_2218 o0_2219 o0_2220 o0_2221 o1_2222 t_2250 ht_2250) <| ai (idx_ownE (m := o5_2236.length) rfl hx_2251) <| ai (idx_ob en_i64 hx_2251).2 <| ai (idx_ob en_i64 hx_2251).2 <| ai (ih_law21_trees x_2251 o0_2214 o0_2215 o0_2216 o0_2217 o0_2218 o0_2219 o0_2220 o0_2221 o1_2222 t_2252 ht_2252) <| ai (ih_law21_trees x_2251 o0_2214 o0_2215 o0_2216 o0_2217 o0_2218 o0_2219 o0_2220 o0_2221 o1_2222 t_2252 ht_2252) <| ai (drE law21_trees.b [1, 1, 1, 0, 1, 0, 0, 1, 0, 0, 1, 0] [.one (.ptr 8 4), .agg [.p (.str t_2250.1.Tag.Text), .p (.sl 2 (t_2250.1.Tag.Runs.map en_api_Run))], .one (.ptr 8 8), .one (.p (.sl 4 (t_2250.1.Attrs.map en_api_Attr))), .one (.ptr 0 0), .one (.ptr 2 10), .one (.own 5 1 0 o5_2236.length), .one (.p (.int .i64 i_2213)), .one (.eptr 5 1 (Int.toNat i_2213) 0), .one (.p (.int .i64 x_2251)), .one (.p (.sl 6 (t_2252.map enR_api_Tree))), .agg [.p (.str t_2250.1.Tag.Text), .p (.sl 2 (t_2250.1.Tag.Runs.map en_api_Run)), .p (.sl 4 (t_2250.1.Attrs.map en_api_Attr)), .p (.sl 6 (t_2252.map enR_api_Tree)), .p (.str []), .nil 2], .one (.ptr 9 0), .top] [[], [], [], [], [], [], [], [], [], [], [], [], [(9, .box [.p (.str []), .nil 2, .nil 4, .nil 6, .p (.str []), .nil 2])], [(9, .box [.p (.str t_2250.1.Tag.Text), .p (.sl 2 (t_2250.1.Tag.Runs.map en_api_Run)), .p (.sl 4 (t_2250.1.Attrs.map en_api_Attr)), .p (.sl 6 (t_2252.map enR_api_Tree)), .p (.str []), .nil 2])]] ([.box [.mp 1, .p (.int .i64 o0_2214), .p (.int .i64 o0_2215), .p (.int .i64 o0_2216), .p (.int .i64 o0_2217), .p (.int .i64 o0_2218), .p (.int .i64 o0_2219), .p (.int .i64 o0_2220), .p (.int .i64 o0_2221)], .map (enE en_arena_Node o1_2222), .box [.p (.int .i64 o2_2223), .p (.int .i64 o2_2224), .p (.int .i64 o2_2225), .p (.int .i64 o2_2226), .p (.str o2_2227), .p (.sl 2 (o2_2228.map en_api_Run)), .p (.str o2_2229), .p (.int .i64 o2_2230), .p (.sl 4 (o2_2231.map en_api_Attr)), .own 4 3 0 o4_2235.length, .own 5 1 0 o5_2236.length, .p (.str o2_2232), .p (.sl 2 (o2_2233.map en_api_Run))], .row 49 6 o3_2234.length (o3_2234.map enR_api_Tree), .row 69 3 o4_2235.length (o4_2235.map en_api_Hook), .row 3 1 o5_2236.length (o5_2236.map en_i64), .row 69 3 t_2250.1.Hooks.length (t_2250.1.Hooks.map en_api_Hook), .row 3 1 t_2250.1.Kids.length (t_2250.1.Kids.map en_i64), .box [.p (.int .i64 t_2250.1.Id), .p (.int .i64 t_2250.1.Owner), .p (.int .i64 t_2250.1.Parent), .p (.int .i64 t_2250.1.Kind), .p (.str t_2250.1.Tag.Text), .p (.sl 2 (t_2250.1.Tag.Runs.map en_api_Run)), .p (.str t_2250.1.Key), .p (.int .i64 t_2250.1.Slot), .p (.sl 4 (t_2250.1.Attrs.map en_api_Attr)), .own 6 3 0 t_2250.1.Hooks.length, .own 7 1 0 t_2250.1.Kids.length, .p (.str t_2250.1.Text.Text), .p (.sl 2 (t_2250.1.Text.Runs.map en_api_Run))]] ++ List.replicate 1 .res)) <| (?_ : RunE Try.prog ⟨2, law21_trees.rs, res, st⟩ (koOf law21_trees.b .done [1, 1, 1, 0, 1, 0, 0, 1, 0, 0, 1, 1, 0, 1, 0, 1]) [(0, .one (.ptr 0 0)), (5, .one (.ptr 2 0)), (7, .one (.own 5 6 0 o3_2234.length)), (8, .one (.p (.int .i64 i_2213))), (9, .one (.ptr 3 0)), (11, .one (.ptr 4 0)), (48, .one (.p (.int .i64 t_2250.1.Kind))), (49, .one (.p (.bool (t_2250.1.Kind == 2))))] [.box [.mp 1, .p (.int .i64 o0_2214), .p (.int .i64 o0_2215), .p (.int .i64 o0_2216), .p (.int .i64 o0_2217), .p (.int .i64 o0_2218), .p (.int .i64 o0_2219), .p (.int .i64 o0_2220), .p (.int .i64 o0_2221)], .map (enE en_arena_Node o1_2222), .box [.p (.int .i64 o2_2223), .p (.int .i64 o2_2224), .p (.int .i64 o2_2225), .p (.int .i64 o2_2226), .p (.str o2_2227), .p (.sl 2 (o2_2228.map en_api_Run)), .p (.str o2_2229), .p (.int .i64 o2_2230), .p (.sl 4 (o2_2231.map en_api_Attr)), .own 6 3 0 o4_2235.length, .own 7 1 0 o5_2236.length, .p (.str o2_2232), .p (.sl 2 (o2_2233.map en_api_Run))], .box [.p (.int .i64 t_2250.1.Id), .p (.int .i64 t_2250.1.Owner), .p (.int .i64 t_2250.1.Parent), .p (.int .i64 t_2250.1.Kind), .p (.str t_2250.1.Tag.Text), .p (.sl 2 (t_2250.1.Tag.Runs.map en_api_Run)), .p (.str t_2250.1.Key), .p (.int .i64 t_2250.1.Slot), .p (.sl 4 (t_2250.1.Attrs.map en_api_Attr)), .own 8 3 0 t_2250.1.Hooks.length, .own 9 1 0 t_2250.1.Kids.length, .p (.str t_2250.1.Text.Text), .p (.sl 2 (t_2250.1.Text.Runs.map en_api_Run))], .box [.p (.str t_2250.1.Tag.Text), .p (.sl 2 (t_2250.1.Tag.Runs.map en_api_Run)), .p (.sl 4 (t_2250.1.Attrs.map en_api_Attr)), .p (.sl 6 (t_2252.map enR_api_Tree)), .p (.str []), .nil 2], .row 49 6 o3_2234.length (o3_2234.map enR_api_Tree), .row 69 3 o4_2235.length (o4_2235.map en_api_Hook), .row 3 1 o5_2236.length (o5_2236.map en_i64), .row 69 3 t_2250.1.Hooks.length (t_2250.1.Hooks.map en_api_Hook), .row 3 1 t_2250.1.Kids.length (t_2250.1.Kids.map en_i64)])) (by kernel_rfl)
    rcases ite_some h with ⟨c_2253, h⟩ | ⟨c_2253, h⟩
    · obtain ⟨g_2254, h⟩ := guard_some h
      exact pathE 472 [.b true, .a (([(api_Tree.mk (api_Str.mk [] ([] : List api_Run)) ([] : List api_Attr) ([] : List api_Tree) t_2250.1.Text)] : List api_Tree).map enR_api_Tree) ((o3_2234 ++ ([(api_Tree.mk (api_Str.mk [] ([] : List api_Run)) ([] : List api_Attr) ([] : List api_Tree) t_2250.1.Text)] : List api_Tree)).map enR_api_Tree) (o3_2234 ++ ([(api_Tree.mk (api_Str.mk [] ([] : List api_Run)) ([] : List api_Attr) ([] : List api_Tree) t_2250.1.Text)] : List api_Tree)).length, .i 8, .gc [0, 1, 2, 11, 6, 7], .keep [0, 5, 7, 8], .stop] (ai (beq_iff_eq.2 c_2253) <| ai (set_obX enR_api_Tree en_api_Tree enR_api_Tree_eq (l := ([(api_Tree.mk (api_Str.mk [] ([] : List api_Run)) ([] : List api_Attr) ([] : List api_Tree) t_2250.1.Text)] : List api_Tree)) (m := 1) rfl) <| ai (appo_obE enR_api_Tree (l := o3_2234) (m := ([(api_Tree.mk (api_Str.mk [] ([] : List api_Run)) ([] : List api_Attr) ([] : List api_Tree) t_2250.1.Text)] : List api_Tree)) (n := o3_2234.length) rfl (b := 128) g_2254) <| (ih o0_2214 o0_2215 o0_2216 o0_2217 o0_2218 o0_2219 o0_2220 o0_2221 o1_2222 o2_2223 o2_2224 o2_2225 o2_2226 o2_2227 o2_2228 o2_2229 o2_2230 o2_2231 o2_2232 o2_2233 o4_2235 o5_2236 (w64 (i_2213 + 1)) (o3_2234 ++ ([(api_Tree.mk (api_Str.mk [] ([] : List api_Run)) ([] : List api_Attr) ([] : List api_Tree) t_2250.1.Text)] : List api_Tree)) _ h res st c0)) (by kernel_rfl)
    · rcases ite_some h with ⟨c_2255, h⟩ | ⟨c_2255, h⟩
      · obtain ⟨t_2256, ht_2256, h⟩ := bind_some h
        obtain ⟨g_2257, h⟩ := guard_some h
        exact pathE 496 [.b false, .b true, .call [] (mark_Of.R ([100, 105, 118] : List UInt8) 0 t_2256) (mark_Of.S1 ([100, 105, 118] : List UInt8) 0 t_2256), .a (([(api_Tree.mk t_2256 ([] : List api_Attr) t_2252 (api_Str.mk [] ([] : List api_Run)))] : List api_Tree).map enR_api_Tree) ((o3_2234 ++ ([(api_Tree.mk t_2256 ([] : List api_Attr) t_2252 (api_Str.mk [] ([] : List api_Run)))] : List api_Tree)).map enR_api_Tree) (o3_2234 ++ ([(api_Tree.mk t_2256 ([] : List api_Attr) t_2252 (api_Str.mk [] ([] : List api_Run)))] : List api_Tree)).length, .i 8, .gc [0, 1, 2, 11, 6, 7], .keep [0, 5, 7, 8], .stop] (ai (beq_eq_false_iff_ne.2 c_2253) <| ai (beq_iff_eq.2 c_2255) <| ai (mark_Of.ok ([100, 105, 118] : List UInt8) 0 t_2256 ht_2256) <| ai (set_obX enR_api_Tree en_api_Tree enR_api_Tree_eq (l := ([(api_Tree.mk t_2256 ([] : List api_Attr) t_2252 (api_Str.mk [] ([] : List api_Run)))] : List api_Tree)) (m := 1) rfl) <| ai (appo_obE enR_api_Tree (l := o3_2234) (m := ([(api_Tree.mk t_2256 ([] : List api_Attr) t_2252 (api_Str.mk [] ([] : List api_Run)))] : List api_Tree)) (n := o3_2234.length) rfl (b := 128) g_2257) <| (ih o0_2214 o0_2215 o0_2216 o0_2217 o0_2218 o0_2219 o0_2220 o0_2221 o1_2222 o2_2223 o2_2224 o2_2225 o2_2226 o2_2227 o2_2228 o2_2229 o2_2230 o2_2231 o2_2232 o2_2233 o4_2235 o5_2236 (w64 (i_2213 + 1)) (o3_2234 ++ ([(api_Tree.mk t_2256 ([] : List api_Attr) t_2252 (api_Str.mk [] ([] : List api_Run)))] : List api_Tree)) _ h res st c0)) (by kernel_rfl)
      · obtain ⟨g_2258, h⟩ := guard_some h
        exact pathE 484 [.b false, .b false, .a (([(api_Tree.mk t_2250.1.Tag t_2250.1.Attrs t_2252 (api_Str.mk [] ([] : List api_Run)))] : List api_Tree).map enR_api_Tree) ((o3_2234 ++ ([(api_Tree.mk t_2250.1.Tag t_2250.1.Attrs t_2252 (api_Str.mk [] ([] : List api_Run)))] : List api_Tree)).map enR_api_Tree) (o3_2234 ++ ([(api_Tree.mk t_2250.1.Tag t_2250.1.Attrs t_2252 (api_Str.mk [] ([] : List api_Run)))] : List api_Tree)).length, .i 8, .gc [0, 1, 2, 11, 6, 7], .keep [0, 5, 7, 8], .stop] (ai (beq_eq_false_iff_ne.2 c_2253) <| ai (beq_eq_false_iff_ne.2 c_2255) <| ai (set_obX enR_api_Tree en_api_Tree enR_api_Tree_eq (l := ([(api_Tree.mk t_2250.1.Tag t_2250.1.Attrs t_2252 (api_Str.mk [] ([] : List api_Run)))] : List api_Tree)) (m := 1) rfl) <| ai (appo_obE enR_api_Tree (l := o3_2234) (m := ([(api_Tree.mk t_2250.1.Tag t_2250.1.Attrs t_2252 (api_Str.mk [] ([] : List api_Run)))] : List api_Tree)) (n := o3_2234.length) rfl (b := 128) g_2258) <| (ih o0_2214 o0_2215 o0_2216 o0_2217 o0_2218 o0_2219 o0_2220 o0_2221 o1_2222 o2_2223 o2_2224 o2_2225 o2_2226 o2_2227 o2_2228 o2_2229 o2_2230 o2_2231 o2_2232 o2_2233 o4_2235 o5_2236 (w64 (i_2213 + 1)) (o3_2234 ++ ([(api_Tree.mk t_2250.1.Tag t_2250.1.Attrs t_2252 (api_Str.mk [] ([] : List api_Run)))] : List api_Tree)) _ h res st c0)) (by kernel_rfl)
  · obtain rfl := Option.some.inj h
    exact pathE 460 [.b false, .i 1, .gc [0, 1, 3], .keep [7], .stop] (ai (decide_eq_false c_2248) <| (c0 o3_2234 rfl)) (by kernel_rfl)
theorem law21_trees.step (k : Nat) (ih_law21_trees_l1 : law21_trees_l1.S k) (ih_law21_trees : law21_trees.S k) : law21_trees.S (k + 1) := by
  intro id_1811 o0_1812 o0_1813 o0_1814 o0_1815 o0_1816 o0_1817 o0_1818 o0_1819 o1_1820 r h
  refine okE Try.func40 m40 rfl rfl rfl ?_
  generalize hr : (law21_trees.R id_1811 o0_1812 o0_1813 o0_1814 o0_1815 o0_1816 o0_1817 o0_1818 o0_1819 o1_1820 r, law21_trees.S1 id_1811 o0_1812 o0_1813 o0_1814 o0_1815 o0_1816 o0_1817 o0_1818 o0_1819 o1_1820 r) = q
  obtain ⟨res, st⟩ := q
  rw [show law21_trees.R id_1811 o0_1812 o0_1813 o0_1814 o0_1815 o0_1816 o0_1817 o0_1818 o0_1819 o1_1820 r = res from congrArg Prod.fst hr, show law21_trees.S1 id_1811 o0_1812 o0_1813 o0_1814 o0_1815 o0_1816 o0_1817 o0_1818 o0_1819 o1_1820 r = st from congrArg Prod.snd hr]
  rw [law21_trees.f] at h
  obtain ⟨t_2149, ht_2149, h⟩ := bind_some h
  obtain ⟨v_2259, hv_2259, h⟩ := bind_some h
  refine pathE 472 [.call [0, 1] (arena_Arena_Get.R id_1811 o0_1812 o0_1813 o0_1814 o0_1815 o0_1816 o0_1817 o0_1818 o0_1819 o1_1820 t_2149) (arena_Arena_Get.S1 id_1811 o0_1812 o0_1813 o0_1814 o0_1815 o0_1816 o0_1817 o0_1818 o0_1819 o1_1820 t_2149), .i 18, .mkown 7 49 6, .gc [0, 1, 4, 5, 2, 3], .keep [0, 5, 7, 8], .stop] (ai (arena_Arena_Get.ok k id_1811 o0_1812 o0_1813 o0_1814 o0_1815 o0_1816 o0_1817 o0_1818 o0_1819 o1_1820 t_2149 ht_2149) <| (ih_law21_trees_l1 o0_1812 o0_1813 o0_1814 o0_1815 o0_1816 o0_1817 o0_1818 o0_1819 o1_1820 t_2149.1.Id t_2149.1.Owner t_2149.1.Parent t_2149.1.Kind t_2149.1.Tag.Text t_2149.1.Tag.Runs t_2149.1.Key t_2149.1.Slot t_2149.1.Attrs t_2149.1.Text.Text t_2149.1.Text.Runs t_2149.1.Hooks t_2149.1.Kids 0 ([] : List api_Tree) v_2259 hv_2259 res st ?_)) (by kernel_rfl)
  · intro y hx
    subst hx
    obtain rfl := Option.some.inj h
    exact pathE 448 [.i 5, .fz 4 [], .z (v_2259.map enR_api_Tree), .fin [0, 1]] (ai (set_obE enR_api_Tree (l := v_2259) (m := v_2259.length) rfl) <| hr) (by kernel_rfl)
theorem law21_trees.all : ∀ k, law21_trees_l1.S k ∧ law21_trees.S k
  | 0 => ⟨law21_trees_l1.z, law21_trees.z⟩
  | k + 1 => by
    obtain ⟨a0, a1⟩ := law21_trees.all k
    exact ⟨law21_trees_l1.step k a0 a1, law21_trees.step k a0 a1⟩
theorem law21_trees_l1.ok (k : Nat) : law21_trees_l1.S k := (law21_trees.all k).1
theorem law21_trees.ok (k : Nat) : law21_trees.S k := (law21_trees.all k).2
-- 158 glazier/glazierref01.near
def d158 : FnDef := ⟨6, [.tmp 2],
  (.seq
  (.ops [
    ⟨some 2, .mv (.c (.one (.p (.int .i64 0)))), none⟩] [0])
  (.seq
  (.ops [
    ⟨some 3, .mv (.t 0), none⟩,
    ⟨some 4, .mm true [(.t 3), (.c (.one (.p (.int .i64 0))))], none⟩,
    ⟨some 5, .mm false [(.t 4), (.c (.one (.p (.int .i64 65536))))], none⟩,
    ⟨some 2, .mv (.t 5), none⟩] [2])
  .ret))⟩
theorem m158 : mFn Try.prog d158 Try.f158 = true := by kernel_rfl
def ref01_near.A (o_2280 : Int) : List Vv := [.one (.p (.int .i64 o_2280))]
def ref01_near.S0 (o_2280 : Int) : Sto := []
def ref01_near.R (o_2280 : Int) (r_0 : Unit) : Vv := .one (.p (.int .i64 (mn (mx o_2280 0) 65536)))
def ref01_near.S1 (o_2280 : Int) (r_0 : Unit) : Sto := []
def ref01_near.rs : List Rv := d158.res
def ref01_near.b : Sx := d158.body
def ref01_near.f : Option (Unit) := (some ())
theorem ref01_near.run (o_2280 : Int) (r : Unit) (h : ref01_near.f = some r) (res : Vv) (st : Sto) (hr : (ref01_near.R o_2280 r, ref01_near.S1 o_2280 r) = (res, st)) : RunE Try.prog ⟨0, ref01_near.rs, res, st⟩ (.st ref01_near.b .done) (argE 0 (ref01_near.A o_2280)) (ref01_near.S0 o_2280) := by
  unfold ref01_near.f at h
  obtain rfl := Option.some.inj h
  exact pathE 424 [.i 11, .fin []] (hr) (by kernel_rfl)
theorem ref01_near.ok (o_2280 : Int) (r : Unit) (h : ref01_near.f = some r) : OkS Try.prog 158 (ref01_near.A o_2280) (ref01_near.S0 o_2280) (ref01_near.R o_2280 r) (ref01_near.S1 o_2280 r) := okE Try.func158 m158 rfl rfl rfl (ref01_near.run o_2280 r h _ _ rfl)
-- 164 glazier/glazierref01.Of
def d164 : FnDef := ⟨63, [.tmp 2],
  (.seq
  (.ops [
    ⟨some 1, .box (.t 0), none⟩,
    ⟨some 2, .mv (.c (.one (.nil 2))), none⟩] [1])
  (.seq
  (.ops [
    ⟨some 3, .mv (.c (.one (.nil 2))), none⟩] [1, 3])
  (.seq
  (.seq
  (.ops [
    ⟨some 4, .mv (.c (.one (.p (.int .i64 0)))), none⟩] [1, 3, 4])
  (.block 0
    (.loop
      (.seq
      (.seq
      (.ops [
        ⟨some 6, .mv (.t 4), none⟩,
        ⟨some 7, .faddr 1 (.t 1), none⟩,
        ⟨some 8, .load 1 false (.t 7), none⟩,
        ⟨some 9, .len false (.t 8), none⟩,
        ⟨some 10, .bin 0 .lss (.t 6) (.t 9), none⟩] [1, 3, 4, 10])
      (.cond (.t 10)
        .skip
        (.exit 0)))
      (.seq
      (.block 1
        (.seq
        (.ops [
          ⟨some 5, .mv (.c (.one (.p (.int .i64 0)))), none⟩] [1, 3, 4, 5])
        (.block 2
          (.loop
            (.seq
            (.seq
            (.ops [
              ⟨some 13, .mv (.t 5), none⟩,
              ⟨some 14, .faddr 1 (.t 1), none⟩,
              ⟨some 15, .load 1 false (.t 14), none⟩,
              ⟨some 16, .mv (.t 4), none⟩,
              ⟨some 17, .iaddr 2 (.t 15) (.t 16), none⟩,
              ⟨some 18, .faddr 0 (.t 17), none⟩,
              ⟨some 19, .load 1 false (.t 18), none⟩,
              ⟨some 20, .bin 0 .lss (.t 13) (.t 19), none⟩,
              ⟨some 21, .mv (.t 20), none⟩,
              ⟨some 22, .mv (.t 3), some (21, true)⟩,
              ⟨some 23, .len false (.t 22), some (21, true)⟩,
              ⟨some 24, .faddr 0 (.t 1), some (21, true)⟩,
              ⟨some 25, .load 1 false (.t 24), some (21, true)⟩,
              ⟨some 26, .len true (.t 25), some (21, true)⟩,
              ⟨some 27, .bin 0 .lss (.t 23) (.t 26), some (21, true)⟩,
              ⟨some 28, .pick (.t 21) (.t 27) (.c (.one (.p (.bool false)))), none⟩] [1, 3, 4, 5, 28])
            (.cond (.t 28)
              .skip
              (.exit 2)))
            (.seq
            (.block 3
              (.drawn [
                ⟨⟨some 31, .mv (.t 3), none⟩, [], false⟩,
                ⟨⟨some 32, .faddr 0 (.t 1), none⟩, [], false⟩,
                ⟨⟨some 33, .load 1 false (.t 32), none⟩, [1], false⟩,
                ⟨⟨some 34, .mv (.t 3), none⟩, [], false⟩,
                ⟨⟨some 35, .len false (.t 34), none⟩, [3], false⟩,
                ⟨⟨some 36, .sidx (.t 33) (.t 35), none⟩, [1, 2, 3, 4], false⟩,
                ⟨⟨some 37, .faddr 1 (.t 1), none⟩, [], false⟩,
                ⟨⟨some 38, .load 1 false (.t 37), none⟩, [6], false⟩,
                ⟨⟨some 39, .mv (.t 4), none⟩, [], false⟩,
                ⟨⟨some 40, .iaddr 2 (.t 38) (.t 39), none⟩, [6, 7, 8], false⟩,
                ⟨⟨some 41, .faddr 1 (.t 40), none⟩, [6, 7, 8, 9], false⟩,
                ⟨⟨some 42, .load 1 false (.t 41), none⟩, [6, 7, 8, 9, 10], false⟩,
                ⟨⟨some 43, .call 158 [(.t 42)], none⟩, [6, 7, 8, 9, 10, 11], true⟩,
                ⟨⟨some 44, .build [.p (.int .u8 0), .p (.int .i64 0)] [(0, 1, (.t 36)), (1, 1, (.t 43))], none⟩, [1, 2, 3, 4, 5, 6, 7, 8, 9, 10, 11, 12], false⟩,
                ⟨⟨some 45, .bslice 150 2 [(.t 44)], none⟩, [1, 2, 3, 4, 5, 6, 7, 8, 9, 10, 11, 12, 13], true⟩,
                ⟨⟨some 46, .app 150 2 16 (.t 31) (.t 45), none⟩, [0, 1, 2, 3, 4, 5, 6, 7, 8, 9, 10, 11, 12, 13, 14], true⟩,
                ⟨⟨some 3, .mv (.t 46), none⟩, [0, 1, 2, 3, 4, 5, 6, 7, 8, 9, 10, 11, 12, 13, 14, 15], false⟩] [[], [12], [12, 14], [12, 14, 15]] [1, 3, 4, 5]))
            (.ops [
              ⟨some 29, .mv (.t 5), none⟩,
              ⟨some 30, .bin 0 .add (.t 29) (.c (.one (.p (.int .i64 1)))), none⟩,
              ⟨some 5, .mv (.t 30), none⟩] [1, 3, 4, 5])))))))
      (.ops [
        ⟨some 11, .mv (.t 4), none⟩,
        ⟨some 12, .bin 0 .add (.t 11) (.c (.one (.p (.int .i64 1)))), none⟩,
        ⟨some 4, .mv (.t 12), none⟩] [1, 3, 4]))))))
  (.seq
  (.block 4
    (.loop
      (.seq
      (.seq
      (.ops [
        ⟨some 47, .mv (.t 3), none⟩,
        ⟨some 48, .len false (.t 47), none⟩,
        ⟨some 49, .faddr 0 (.t 1), none⟩,
        ⟨some 50, .load 1 false (.t 49), none⟩,
        ⟨some 51, .len true (.t 50), none⟩,
        ⟨some 52, .bin 0 .lss (.t 48) (.t 51), none⟩] [1, 3, 52])
      (.cond (.t 52)
        .skip
        (.exit 4)))
      (.block 5
        (.ops [
          ⟨some 53, .mv (.t 3), none⟩,
          ⟨some 54, .faddr 0 (.t 1), none⟩,
          ⟨some 55, .load 1 false (.t 54), none⟩,
          ⟨some 56, .mv (.t 3), none⟩,
          ⟨some 57, .len false (.t 56), none⟩,
          ⟨some 58, .sidx (.t 55) (.t 57), none⟩,
          ⟨some 59, .build [.p (.int .u8 0), .p (.int .i64 0)] [(0, 1, (.t 58)), (1, 1, (.c (.one (.p (.int .i64 65536)))))], none⟩,
          ⟨some 60, .bslice 150 2 [(.t 59)], none⟩,
          ⟨some 61, .app 150 2 16 (.t 53) (.t 60), none⟩,
          ⟨some 3, .mv (.t 61), none⟩] [1, 3])))))
  (.seq
  (.ops [
    ⟨some 62, .mv (.t 3), none⟩,
    ⟨some 2, .mv (.t 62), none⟩] [2])
  .ret)))))⟩
theorem m164 : mFn Try.prog d164 Try.f164 = true := by kernel_rfl
def ref01_Of.A (s_2271 : api_Str) : List Vv := [.agg [.p (.str s_2271.Text), .p (.sl 2 (s_2271.Runs.map en_api_Run))]]
def ref01_Of.S0 (s_2271 : api_Str) : Sto := []
def ref01_Of.R (s_2271 : api_Str) (r_0 : (List ref01_C)) : Vv := .one (.p (.sl 2 (r_0.map en_ref01_C)))
def ref01_Of.S1 (s_2271 : api_Str) (r_0 : (List ref01_C)) : Sto := []
def ref01_Of.rs : List Rv := d164.res
def ref01_Of.b : Sx := d164.body
def ref01_Of_l3 : Nat → Int → api_Str → Int → (List ref01_C) → Option (((List ref01_C)))
  | 0, _, _, _, _ => none
  | k + 1, i_2359, o0_2361, k_2360, o1_2362 => ((idx o0_2361.Runs i_2359).bind fun x_2372 => (if k_2360 < x_2372.Len then (if (o1_2362.length : Int) < (o0_2361.Text.length : Int) then ((idx o0_2361.Text (o1_2362.length : Int)).bind fun b_2375 => ((idx o0_2361.Runs i_2359).bind fun x_2376 => ((ref01_near.f).bind fun t_2377 => (if (o1_2362 ++ ([(ref01_C.mk (b_2375.toNat : Int) (mn (mx x_2376.Origin 0) 65536))] : List ref01_C)).length * 16 ≤ room then (ref01_Of_l3 k i_2359 o0_2361 (w64 (k_2360 + 1)) (o1_2362 ++ ([(ref01_C.mk (b_2375.toNat : Int) (mn (mx x_2376.Origin 0) 65536))] : List ref01_C))) else none)))) else (some o1_2362)) else (some o1_2362)))
def ref01_Of_l3.S (k : Nat) : Prop := ∀ (i_2359 : Int) (o0_2361 : api_Str) (k_2360 : Int) (o1_2362 : (List ref01_C)) (v : ((List ref01_C))), ref01_Of_l3 k i_2359 o0_2361 k_2360 o1_2362 = some v → ∀ (res : Vv) (st : Sto), (∀ x_0, v = x_0 → RunE Try.prog ⟨0, ref01_Of.rs, res, st⟩ (koAfter ref01_Of.b [1, 1, 0, 1, 0, 0, 1, 0, 0, 1]) [(1, .one (.ptr 0 0)), (3, .one (.own 1 2 0 x_0.length)), (4, .one (.p (.int .i64 i_2359)))] [.box [.p (.str o0_2361.Text), .p (.sl 2 (o0_2361.Runs.map en_api_Run))], .row 150 2 x_0.length (x_0.map en_ref01_C)]) → RunE Try.prog ⟨0, ref01_Of.rs, res, st⟩ (koLoop ref01_Of.b [1, 1, 0, 1, 0, 0, 1, 0, 0, 1, 0]) [(1, .one (.ptr 0 0)), (3, .one (.own 1 2 0 o1_2362.length)), (4, .one (.p (.int .i64 i_2359))), (5, .one (.p (.int .i64 k_2360)))] [.box [.p (.str o0_2361.Text), .p (.sl 2 (o0_2361.Runs.map en_api_Run))], .row 150 2 o1_2362.length (o1_2362.map en_ref01_C)]
theorem ref01_Of_l3.z : ref01_Of_l3.S 0 := fun _ _ _ _ v h => none_some h
theorem ref01_Of_l3.step (k : Nat) (ih : ref01_Of_l3.S k) : ref01_Of_l3.S (k + 1) := by
  intro i_2359 o0_2361 k_2360 o1_2362 v h res st c0
  rw [ref01_Of_l3] at h
  obtain ⟨x_2372, hx_2372, h⟩ := bind_some h
  rcases ite_some h with ⟨c_2373, h⟩ | ⟨c_2373, h⟩
  · refine pathE 520 [.c (en_api_Run x_2372), .b true, .b true, .b true, .b true, .b true, .b true, .i 2, .keep [1, 3, 4, 5, 28], .stop] (ai (idx_ob en_api_Run hx_2372) <| ai (decide_eq_true c_2373) <| ai rT <| ai rT <| ai rT <| ai rT <| ai rT <| (?_ : RunE Try.prog ⟨0, ref01_Of.rs, res, st⟩ (koOf ref01_Of.b .done [1, 1, 0, 1, 0, 0, 1, 0, 0, 1, 0, 0, 0, 1]) [(1, .one (.ptr 0 0)), (3, .one (.own 1 2 0 o1_2362.length)), (4, .one (.p (.int .i64 i_2359))), (5, .one (.p (.int .i64 k_2360))), (28, .one (.p (.bool (decide ((o1_2362.length : Int) < (o0_2361.Text.length : Int))))))] [.box [.p (.str o0_2361.Text), .p (.sl 2 (o0_2361.Runs.map en_api_Run))], .row 150 2 o1_2362.length (o1_2362.map en_ref01_C)])) (by kernel_rfl)
    rcases ite_some h with ⟨c_2374, h⟩ | ⟨c_2374, h⟩
    · obtain ⟨b_2375, hb_2375, h⟩ := bind_some h
      obtain ⟨x_2376, hx_2376, h⟩ := bind_some h
      obtain ⟨t_2377, ht_2377, h⟩ := bind_some h
      obtain ⟨g_2378, h⟩ := guard_some h
      exact pathE 472 [.b true, .dr 0 [[], [], [], [], [], [.u b_2375], [], [], [], [.c (en_api_Run x_2376)], [], [], [.call [] (ref01_near.R x_2376.Origin t_2377) (ref01_near.S1 x_2376.Origin t_2377)], [], [], [.a (([(ref01_C.mk (b_2375.toNat : Int) (mn (mx x_2376.Origin 0) 65536))] : List ref01_C).map en_ref01_C) ((o1_2362 ++ ([(ref01_C.mk (b_2375.toNat : Int) (mn (mx x_2376.Origin 0) 65536))] : List ref01_C)).map en_ref01_C) (o1_2362 ++ ([(ref01_C.mk (b_2375.toNat : Int) (mn (mx x_2376.Origin 0) 65536))] : List ref01_C)).length], []] [.one (.own 1 2 0 o1_2362.length), .one (.ptr 0 0), .one (.p (.str o0_2361.Text)), .one (.own 1 2 0 o1_2362.length), .one (.p (.int .i64 (o1_2362.length : Int))), .one (.p (.int .u8 (b_2375.toNat : Int))), .one (.ptr 0 1), .one (.p (.sl 2 (o0_2361.Runs.map en_api_Run))), .one (.p (.int .i64 i_2359)), .one (.cptr [.int .i64 x_2376.Len, .int .i64 x_2376.Origin]), .one (.cptr [.int .i64 x_2376.Origin]), .one (.p (.int .i64 x_2376.Origin)), .one (.p (.int .i64 (mn (mx x_2376.Origin 0) 65536))), .agg [.p (.int .u8 (b_2375.toNat : Int)), .p (.int .i64 (mn (mx x_2376.Origin 0) 65536))], .one (.own 2 2 0 1), .one (.own 3 2 0 (o1_2362 ++ ([(ref01_C.mk (b_2375.toNat : Int) (mn (mx x_2376.Origin 0) 65536))] : List ref01_C)).length), .one (.own 3 2 0 (o1_2362 ++ ([(ref01_C.mk (b_2375.toNat : Int) (mn (mx x_2376.Origin 0) 65536))] : List ref01_C)).length)] [[], [], [], [], [], [], [], [], [], [], [], [], [], [], [(2, .row 150 2 1 (([(ref01_C.mk (b_2375.toNat : Int) (mn (mx x_2376.Origin 0) 65536))] : List ref01_C).map en_ref01_C))], [(1, .none), (3, .row 150 2 (o1_2362 ++ ([(ref01_C.mk (b_2375.toNat : Int) (mn (mx x_2376.Origin 0) 65536))] : List ref01_C)).length ((o1_2362 ++ ([(ref01_C.mk (b_2375.toNat : Int) (mn (mx x_2376.Origin 0) 65536))] : List ref01_C)).map en_ref01_C))], []], .i 6, .gc [0, 3], .keep [1, 3, 4, 5], .stop] (ai (decide_eq_true c_2374) <| ai (idx_str hb_2375) <| ai (idx_ob en_api_Run hx_2376) <| ai (ref01_near.ok x_2376.Origin t_2377 ht_2377) <| ai (set_obE en_ref01_C (l := ([(ref01_C.mk (b_2375.toNat : Int) (mn (mx x_2376.Origin 0) 65536))] : List ref01_C)) (m := 1) rfl) <| ai (appo_obE en_ref01_C (l := o1_2362) (m := ([(ref01_C.mk (b_2375.toNat : Int) (mn (mx x_2376.Origin 0) 65536))] : List ref01_C)) (n := o1_2362.length) rfl (b := 16) g_2378) <| ai (drE ref01_Of.b [1, 1, 0, 1, 0, 0, 1, 0, 0, 1, 0, 0, 1, 0, 0] [.one (.own 1 2 0 o1_2362.length), .one (.ptr 0 0), .one (.p (.str o0_2361.Text)), .one (.own 1 2 0 o1_2362.length), .one (.p (.int .i64 (o1_2362.length : Int))), .one (.p (.int .u8 (b_2375.toNat : Int))), .one (.ptr 0 1), .one (.p (.sl 2 (o0_2361.Runs.map en_api_Run))), .one (.p (.int .i64 i_2359)), .one (.cptr [.int .i64 x_2376.Len, .int .i64 x_2376.Origin]), .one (.cptr [.int .i64 x_2376.Origin]), .one (.p (.int .i64 x_2376.Origin)), .one (.p (.int .i64 (mn (mx x_2376.Origin 0) 65536))), .agg [.p (.int .u8 (b_2375.toNat : Int)), .p (.int .i64 (mn (mx x_2376.Origin 0) 65536))], .one (.own 2 2 0 1), .one (.own 3 2 0 (o1_2362 ++ ([(ref01_C.mk (b_2375.toNat : Int) (mn (mx x_2376.Origin 0) 65536))] : List ref01_C)).length), .one (.own 3 2 0 (o1_2362 ++ ([(ref01_C.mk (b_2375.toNat : Int) (mn (mx x_2376.Origin 0) 65536))] : List ref01_C)).length)] [[], [], [], [], [], [], [], [], [], [], [], [], [], [], [(2, .row 150 2 1 (([(ref01_C.mk (b_2375.toNat : Int) (mn (mx x_2376.Origin 0) 65536))] : List ref01_C).map en_ref01_C))], [(1, .none), (3, .row 150 2 (o1_2362 ++ ([(ref01_C.mk (b_2375.toNat : Int) (mn (mx x_2376.Origin 0) 65536))] : List ref01_C)).length ((o1_2362 ++ ([(ref01_C.mk (b_2375.toNat : Int) (mn (mx x_2376.Origin 0) 65536))] : List ref01_C)).map en_ref01_C))], []] ([.box [.p (.str o0_2361.Text), .p (.sl 2 (o0_2361.Runs.map en_api_Run))], .row 150 2 o1_2362.length (o1_2362.map en_ref01_C)] ++ List.replicate 0 .res)) <| (ih i_2359 o0_2361 (w64 (k_2360 + 1)) (o1_2362 ++ ([(ref01_C.mk (b_2375.toNat : Int) (mn (mx x_2376.Origin 0) 65536))] : List ref01_C)) _ h res st c0)) (by kernel_rfl)
    · obtain rfl := Option.some.inj h
      exact pathE 448 [.b false, .i 1, .keep [1, 3, 4], .stop] (ai (decide_eq_false c_2374) <| (c0 o1_2362 rfl)) (by kernel_rfl)
  · obtain rfl := Option.some.inj h
    exact pathE 532 [.c (en_api_Run x_2372), .b false, .b false, .b false, .b false, .b false, .b false, .b false, .i 1, .keep [1, 3, 4], .stop] (ai (idx_ob en_api_Run hx_2372) <| ai (decide_eq_false c_2373) <| ai rF <| ai rF <| ai rF <| ai rF <| ai rF <| ai rF <| (c0 o1_2362 rfl)) (by kernel_rfl)
theorem ref01_Of_l3.ok : ∀ k, ref01_Of_l3.S k
  | 0 => ref01_Of_l3.z
  | k + 1 => ref01_Of_l3.step k (ref01_Of_l3.ok k)
def ref01_Of_l4 : Nat → api_Str → Int → (List ref01_C) → Option (((List ref01_C)))
  | 0, _, _, _ => none
  | k + 1, o0_2346, i_2345, o1_2347 => (if i_2345 < (o0_2346.Runs.length : Int) then (Option.bind (ref01_Of_l3 k i_2345 o0_2346 0 o1_2347) (fun v_2379 => (ref01_Of_l4 k o0_2346 (w64 (i_2345 + 1)) v_2379))) else (some o1_2347))
def ref01_Of_l4.S (k : Nat) : Prop := ∀ (o0_2346 : api_Str) (i_2345 : Int) (o1_2347 : (List ref01_C)) (v : ((List ref01_C))), ref01_Of_l4 k o0_2346 i_2345 o1_2347 = some v → ∀ (res : Vv) (st : Sto), (∀ x_0, v = x_0 → RunE Try.prog ⟨0, ref01_Of.rs, res, st⟩ (koAfter ref01_Of.b [1, 1, 0, 1]) [(1, .one (.ptr 0 0)), (3, .one (.own 1 2 0 x_0.length))] [.box [.p (.str o0_2346.Text), .p (.sl 2 (o0_2346.Runs.map en_api_Run))], .row 150 2 x_0.length (x_0.map en_ref01_C)]) → RunE Try.prog ⟨0, ref01_Of.rs, res, st⟩ (koLoop ref01_Of.b [1, 1, 0, 1, 0]) [(1, .one (.ptr 0 0)), (3, .one (.own 1 2 0 o1_2347.length)), (4, .one (.p (.int .i64 i_2345)))] [.box [.p (.str o0_2346.Text), .p (.sl 2 (o0_2346.Runs.map en_api_Run))], .row 150 2 o1_2347.length (o1_2347.map en_ref01_C)]
theorem ref01_Of_l4.z : ref01_Of_l4.S 0 := fun _ _ _ v h => none_some h
theorem ref01_Of_l4.step (k : Nat) (ih : ref01_Of_l4.S k) : ref01_Of_l4.S (k + 1) := by
  intro o0_2346 i_2345 o1_2347 v h res st c0
  rw [ref01_Of_l4] at h
  rcases ite_some h with ⟨c_2371, h⟩ | ⟨c_2371, h⟩
  · obtain ⟨v_2379, hv_2379, h⟩ := bind_some h
    refine pathE 460 [.n o0_2346.Runs.length, .b true, .i 9, .keep [1, 3, 4, 5], .stop] (ai (len_ob en_api_Run o0_2346.Runs) <| ai (decide_eq_true c_2371) <| (ref01_Of_l3.ok k i_2345 o0_2346 0 o1_2347 v_2379 hv_2379 res st ?_)) (by kernel_rfl)
    · intro y hx
      subst hx
      exact pathE 436 [.i 6, .keep [1, 3, 4], .stop] ((ih o0_2346 (w64 (i_2345 + 1)) v_2379 _ h res st c0)) (by kernel_rfl)
  · obtain rfl := Option.some.inj h
    exact pathE 460 [.n o0_2346.Runs.length, .b false, .i 1, .keep [1, 3], .stop] (ai (len_ob en_api_Run o0_2346.Runs) <| ai (decide_eq_false c_2371) <| (c0 o1_2347 rfl)) (by kernel_rfl)
theorem ref01_Of_l4.ok : ∀ k, ref01_Of_l4.S k
  | 0 => ref01_Of_l4.z
  | k + 1 => ref01_Of_l4.step k (ref01_Of_l4.ok k)
def ref01_Of_l5 : Nat → api_Str → (List ref01_C) → Option (((List ref01_C)))
  | 0, _, _ => none
  | k + 1, o0_2386, o1_2387 => (if (o1_2387.length : Int) < (o0_2386.Text.length : Int) then ((idx o0_2386.Text (o1_2387.length : Int)).bind fun b_2392 => (if (o1_2387 ++ ([(ref01_C.mk (b_2392.toNat : Int) 65536)] : List ref01_C)).length * 16 ≤ room then (ref01_Of_l5 k o0_2386 (o1_2387 ++ ([(ref01_C.mk (b_2392.toNat : Int) 65536)] : List ref01_C))) else none)) else (some o1_2387))
def ref01_Of_l5.S (k : Nat) : Prop := ∀ (o0_2386 : api_Str) (o1_2387 : (List ref01_C)) (v : ((List ref01_C))), ref01_Of_l5 k o0_2386 o1_2387 = some v → ∀ (res : Vv) (st : Sto), (∀ x_0, v = x_0 → RunE Try.prog ⟨0, ref01_Of.rs, res, st⟩ (koAfter ref01_Of.b [1, 1, 1, 0]) [(3, .one (.own 0 2 0 x_0.length))] [.row 150 2 x_0.length (x_0.map en_ref01_C)]) → RunE Try.prog ⟨0, ref01_Of.rs, res, st⟩ (koLoop ref01_Of.b [1, 1, 1, 0, 0]) [(1, .one (.ptr 0 0)), (3, .one (.own 1 2 0 o1_2387.length))] [.box [.p (.str o0_2386.Text), .p (.sl 2 (o0_2386.Runs.map en_api_Run))], .row 150 2 o1_2387.length (o1_2387.map en_ref01_C)]
theorem ref01_Of_l5.z : ref01_Of_l5.S 0 := fun _ _ v h => none_some h
theorem ref01_Of_l5.step (k : Nat) (ih : ref01_Of_l5.S k) : ref01_Of_l5.S (k + 1) := by
  intro o0_2386 o1_2387 v h res st c0
  rw [ref01_Of_l5] at h
  rcases ite_some h with ⟨c_2391, h⟩ | ⟨c_2391, h⟩
  · obtain ⟨b_2392, hb_2392, h⟩ := bind_some h
    obtain ⟨g_2393, h⟩ := guard_some h
    exact pathE 484 [.b true, .u b_2392, .a (([(ref01_C.mk (b_2392.toNat : Int) 65536)] : List ref01_C).map en_ref01_C) ((o1_2387 ++ ([(ref01_C.mk (b_2392.toNat : Int) 65536)] : List ref01_C)).map en_ref01_C) (o1_2387 ++ ([(ref01_C.mk (b_2392.toNat : Int) 65536)] : List ref01_C)).length, .i 3, .gc [0, 3], .keep [1, 3], .stop] (ai (decide_eq_true c_2391) <| ai (idx_str hb_2392) <| ai (set_obE en_ref01_C (l := ([(ref01_C.mk (b_2392.toNat : Int) 65536)] : List ref01_C)) (m := 1) rfl) <| ai (appo_obE en_ref01_C (l := o1_2387) (m := ([(ref01_C.mk (b_2392.toNat : Int) 65536)] : List ref01_C)) (n := o1_2387.length) rfl (b := 16) g_2393) <| (ih o0_2386 (o1_2387 ++ ([(ref01_C.mk (b_2392.toNat : Int) 65536)] : List ref01_C)) _ h res st c0)) (by kernel_rfl)
  · obtain rfl := Option.some.inj h
    exact pathE 460 [.b false, .i 1, .gc [1], .keep [3], .stop] (ai (decide_eq_false c_2391) <| (c0 o1_2387 rfl)) (by kernel_rfl)
theorem ref01_Of_l5.ok : ∀ k, ref01_Of_l5.S k
  | 0 => ref01_Of_l5.z
  | k + 1 => ref01_Of_l5.step k (ref01_Of_l5.ok k)
def ref01_Of.f (k : Nat) (s_2271 : api_Str) : Option ((List ref01_C)) := (Option.bind (ref01_Of_l4 k s_2271 0 ([] : List ref01_C)) (fun v_2380 => (Option.bind (ref01_Of_l5 k s_2271 v_2380) (fun v_2394 => (some v_2394)))))
theorem ref01_Of.run (k : Nat) (s_2271 : api_Str) (r : (List ref01_C)) (h : ref01_Of.f k s_2271 = some r) (res : Vv) (st : Sto) (hr : (ref01_Of.R s_2271 r, ref01_Of.S1 s_2271 r) = (res, st)) : RunE Try.prog ⟨0, ref01_Of.rs, res, st⟩ (.st ref01_Of.b .done) (argE 0 (ref01_Of.A s_2271)) (ref01_Of.S0 s_2271) := by
  unfold ref01_Of.f at h
  obtain ⟨v_2380, hv_2380, h⟩ := bind_some h
  refine pathE 448 [.i 16, .mkown 3 150 2, .keep [1, 3, 4], .stop] ((ref01_Of_l4.ok k s_2271 0 ([] : List ref01_C) v_2380 hv_2380 res st ?_)) (by kernel_rfl)
  · intro y hx
    subst hx
    obtain ⟨v_2394, hv_2394, h⟩ := bind_some h
    refine pathE 436 [.i 3, .keep [1, 3], .stop] ((ref01_Of_l5.ok k s_2271 v_2380 v_2394 hv_2394 res st ?_)) (by kernel_rfl)
    · intro y hx
      subst hx
      obtain rfl := Option.some.inj h
      exact pathE 448 [.i 5, .fz 2 [], .z (v_2394.map en_ref01_C), .fin []] (ai (set_obE en_ref01_C (l := v_2394) (m := v_2394.length) rfl) <| hr) (by kernel_rfl)
theorem ref01_Of.ok (k : Nat) (s_2271 : api_Str) (r : (List ref01_C)) (h : ref01_Of.f k s_2271 = some r) : OkS Try.prog 164 (ref01_Of.A s_2271) (ref01_Of.S0 s_2271) (ref01_Of.R s_2271 r) (ref01_Of.S1 s_2271 r) := okE Try.func164 m164 rfl rfl rfl (ref01_Of.run k s_2271 r h _ _ rfl)
-- 163 glazier/glazierref01.Same
def d163 : FnDef := ⟨26, [.tmp 4],
  (.seq
  (.ops [
    ⟨some 4, .mv (.c (.one (.p (.bool false)))), none⟩] [0, 1])
  (.seq
  (.seq
  (.ops [
    ⟨some 6, .mv (.t 0), none⟩,
    ⟨some 7, .len false (.t 6), none⟩,
    ⟨some 8, .mv (.t 1), none⟩,
    ⟨some 9, .len false (.t 8), none⟩,
    ⟨some 10, .bin 0 .neq (.t 7) (.t 9), none⟩] [0, 1, 10])
  (.cond (.t 10)
    (.seq
    (.ops [
      ⟨some 4, .mv (.c (.one (.p (.bool false)))), none⟩] [4])
    .ret)
    .skip))
  (.seq
  (.seq
  (.ops [
    ⟨some 5, .mv (.c (.one (.p (.int .i64 0)))), none⟩] [0, 1, 5])
  (.block 0
    (.loop
      (.seq
      (.seq
      (.ops [
        ⟨some 11, .mv (.t 5), none⟩,
        ⟨some 12, .mv (.t 0), none⟩,
        ⟨some 13, .len false (.t 12), none⟩,
        ⟨some 14, .bin 0 .lss (.t 11) (.t 13), none⟩] [0, 1, 5, 14])
      (.cond (.t 14)
        .skip
        (.exit 0)))
      (.seq
      (.block 1
        (.seq
        (.drawn [
          ⟨⟨some 17, .mv (.t 0), none⟩, [], false⟩,
          ⟨⟨some 18, .mv (.t 5), none⟩, [], false⟩,
          ⟨⟨some 19, .iaddr 2 (.t 17) (.t 18), none⟩, [0, 1], false⟩,
          ⟨⟨some 20, .load 2 true (.t 19), none⟩, [0, 1, 2], false⟩,
          ⟨⟨some 21, .mv (.t 1), none⟩, [], false⟩,
          ⟨⟨some 22, .mv (.t 5), none⟩, [], false⟩,
          ⟨⟨some 23, .iaddr 2 (.t 21) (.t 22), none⟩, [4, 5], false⟩,
          ⟨⟨some 24, .load 2 true (.t 23), none⟩, [4, 5, 6], false⟩,
          ⟨⟨some 25, .eqs true [0, 0] (.t 20) (.t 24), none⟩, [0, 1, 2, 3, 4, 5, 6, 7], false⟩] [[]] [0, 1, 5, 25])
        (.cond (.t 25)
          (.seq
          (.ops [
            ⟨some 4, .mv (.c (.one (.p (.bool false)))), none⟩] [4])
          .ret)
          .skip)))
      (.ops [
        ⟨some 15, .mv (.t 5), none⟩,
        ⟨some 16, .bin 0 .add (.t 15) (.c (.one (.p (.int .i64 1)))), none⟩,
        ⟨some 5, .mv (.t 16), none⟩] [0, 1, 5]))))))
  (.seq
  (.ops [
    ⟨some 4, .mv (.c (.one (.p (.bool true)))), none⟩] [4])
  .ret))))⟩
theorem m163 : mFn Try.prog d163 Try.f163 = true := by kernel_rfl
def ref01_Same.A (a_2397 : (List ref01_C)) (b_2398 : (List ref01_C)) : List Vv := [.one (.p (.sl 2 (a_2397.map en_ref01_C))), .one (.p (.sl 2 (b_2398.map en_ref01_C)))]
def ref01_Same.S0 (a_2397 : (List ref01_C)) (b_2398 : (List ref01_C)) : Sto := []
def ref01_Same.R (a_2397 : (List ref01_C)) (b_2398 : (List ref01_C)) (r_0 : Bool) : Vv := .one (.p (.bool r_0))
def ref01_Same.S1 (a_2397 : (List ref01_C)) (b_2398 : (List ref01_C)) (r_0 : Bool) : Sto := []
def ref01_Same.rs : List Rv := d163.res
def ref01_Same.b : Sx := d163.body
def ref01_Same_l1 : Nat → (List ref01_C) → (List ref01_C) → Int → Option ((Unit) ⊕ (Unit))
  | 0, _, _, _ => none
  | k + 1, a_2440, b_2441, i_2442 => (if i_2442 < (a_2440.length : Int) then ((idx a_2440 i_2442).bind fun x_2448 => ((idx b_2441 i_2442).bind fun x_2449 => (if (!((x_2448.B == x_2449.B) && ((x_2448.O == x_2449.O) && true))) = true then (some (.inl ())) else (ref01_Same_l1 k a_2440 b_2441 (w64 (i_2442 + 1)))))) else (some (.inr ())))
def ref01_Same_l1.S (k : Nat) : Prop := ∀ (a_2440 : (List ref01_C)) (b_2441 : (List ref01_C)) (i_2442 : Int) (v : (Unit) ⊕ (Unit)), ref01_Same_l1 k a_2440 b_2441 i_2442 = some v → ∀ (res : Vv) (st : Sto), (∀ x_0, v = (.inl x_0) → ∀ k, RunE Try.prog ⟨0, ref01_Same.rs, res, st⟩ (.st .ret k) [(4, .one (.p (.bool false)))] []) → (∀ x_0, v = (.inr x_0) → RunE Try.prog ⟨0, ref01_Same.rs, res, st⟩ (koAfter ref01_Same.b [1, 1, 0, 1]) [] []) → RunE Try.prog ⟨0, ref01_Same.rs, res, st⟩ (koLoop ref01_Same.b [1, 1, 0, 1, 0]) [(0, .one (.p (.sl 2 (a_2440.map en_ref01_C)))), (1, .one (.p (.sl 2 (b_2441.map en_ref01_C)))), (5, .one (.p (.int .i64 i_2442)))] []
theorem ref01_Same_l1.z : ref01_Same_l1.S 0 := fun _ _ _ v h => none_some h
theorem ref01_Same_l1.step (k : Nat) (ih : ref01_Same_l1.S k) : ref01_Same_l1.S (k + 1) := by
  intro a_2440 b_2441 i_2442 v h res st c0 c1
  rw [ref01_Same_l1] at h
  rcases ite_some h with ⟨c_2447, h⟩ | ⟨c_2447, h⟩
  · obtain ⟨x_2448, hx_2448, h⟩ := bind_some h
    obtain ⟨x_2449, hx_2449, h⟩ := bind_some h
    refine pathE 460 [.n a_2440.length, .b true, .dr 0 [[], [], [.c (en_ref01_C x_2448)], [], [], [], [.c (en_ref01_C x_2449)], [], []] [.one (.p (.sl 2 (a_2440.map en_ref01_C))), .one (.p (.int .i64 i_2442)), .one (.cptr [.int .u8 x_2448.B, .int .i64 x_2448.O]), .agg [.p (.int .u8 x_2448.B), .p (.int .i64 x_2448.O)], .one (.p (.sl 2 (b_2441.map en_ref01_C))), .one (.p (.int .i64 i_2442)), .one (.cptr [.int .u8 x_2449.B, .int .i64 x_2449.O]), .agg [.p (.int .u8 x_2449.B), .p (.int .i64 x_2449.O)], .one (.p (.bool (!((x_2448.B == x_2449.B) && ((x_2448.O == x_2449.O) && true)))))] [[], [], [], [], [], [], [], [], []], .keep [0, 1, 5, 25], .stop] (ai (len_ob en_ref01_C a_2440) <| ai (decide_eq_true c_2447) <| ai (idx_ob en_ref01_C hx_2448) <| ai (idx_ob en_ref01_C hx_2449) <| ai (drE ref01_Same.b [1, 1, 0, 1, 0, 0, 1, 0, 0, 0] [.one (.p (.sl 2 (a_2440.map en_ref01_C))), .one (.p (.int .i64 i_2442)), .one (.cptr [.int .u8 x_2448.B, .int .i64 x_2448.O]), .agg [.p (.int .u8 x_2448.B), .p (.int .i64 x_2448.O)], .one (.p (.sl 2 (b_2441.map en_ref01_C))), .one (.p (.int .i64 i_2442)), .one (.cptr [.int .u8 x_2449.B, .int .i64 x_2449.O]), .agg [.p (.int .u8 x_2449.B), .p (.int .i64 x_2449.O)], .one (.p (.bool (!((x_2448.B == x_2449.B) && ((x_2448.O == x_2449.O) && true)))))] [[], [], [], [], [], [], [], [], []] ([] ++ List.replicate 0 .res)) <| (?_ : RunE Try.prog ⟨0, ref01_Same.rs, res, st⟩ (koOf ref01_Same.b .done [1, 1, 0, 1, 0, 0, 1, 0, 0, 1]) [(0, .one (.p (.sl 2 (a_2440.map en_ref01_C)))), (1, .one (.p (.sl 2 (b_2441.map en_ref01_C)))), (5, .one (.p (.int .i64 i_2442))), (25, .one (.p (.bool (!((x_2448.B == x_2449.B) && ((x_2448.O == x_2449.O) && true))))))] [])) (by kernel_rfl)
    rcases ite_some h with ⟨c_2450, h⟩ | ⟨c_2450, h⟩
    · obtain rfl := Option.some.inj h
      exact pathE 448 [.b true, .i 4, .keep [4], .stop] (ai c_2450 <| ((c0 () rfl) (koAfter ref01_Same.b [1, 1, 0, 1, 0, 0, 1, 0, 0, 1, 0, 1]))) (by kernel_rfl)
    · exact pathE 448 [.b false, .i 7, .keep [0, 1, 5], .stop] (ai (bool_false c_2450) <| (ih a_2440 b_2441 (w64 (i_2442 + 1)) _ h res st c0 c1)) (by kernel_rfl)
  · obtain rfl := Option.some.inj h
    exact pathE 460 [.n a_2440.length, .b false, .i 1, .keep [], .stop] (ai (len_ob en_ref01_C a_2440) <| ai (decide_eq_false c_2447) <| (c1 () rfl)) (by kernel_rfl)
theorem ref01_Same_l1.ok : ∀ k, ref01_Same_l1.S k
  | 0 => ref01_Same_l1.z
  | k + 1 => ref01_Same_l1.step k (ref01_Same_l1.ok k)
def ref01_Same.f (k : Nat) (a_2397 : (List ref01_C)) (b_2398 : (List ref01_C)) : Option (Bool) := (if (a_2397.length : Int) ≠ (b_2398.length : Int) then (some false) else (Option.bind (ref01_Same_l1 k a_2397 b_2398 0) (Sum.elim (fun x_2452 => (some false)) (fun x_2453 => (some true)))))
theorem ref01_Same.run (k : Nat) (a_2397 : (List ref01_C)) (b_2398 : (List ref01_C)) (r : Bool) (h : ref01_Same.f k a_2397 b_2398 = some r) (res : Vv) (st : Sto) (hr : (ref01_Same.R a_2397 b_2398 r, ref01_Same.S1 a_2397 b_2398 r) = (res, st)) : RunE Try.prog ⟨0, ref01_Same.rs, res, st⟩ (.st ref01_Same.b .done) (argE 0 (ref01_Same.A a_2397 b_2398)) (ref01_Same.S0 a_2397 b_2398) := by
  unfold ref01_Same.f at h
  rcases ite_some h with ⟨c_2433, h⟩ | ⟨c_2433, h⟩
  · obtain rfl := Option.some.inj h
    exact pathE 460 [.n a_2397.length, .n b_2398.length, .b true, .i 4, .fin []] (ai (len_ob en_ref01_C a_2397) <| ai (len_ob en_ref01_C b_2398) <| ai (bne_iff_ne.2 c_2433) <| hr) (by kernel_rfl)
  · obtain ⟨v_2451, hv_2451, h⟩ := bind_some h
    refine pathE 472 [.n a_2397.length, .n b_2398.length, .b false, .i 8, .keep [0, 1, 5], .stop] (ai (len_ob en_ref01_C a_2397) <| ai (len_ob en_ref01_C b_2398) <| ai (bne_false c_2433) <| (ref01_Same_l1.ok k a_2397 b_2398 0 v_2451 hv_2451 res st ?_ ?_)) (by kernel_rfl)
    · intro x_2452 hx
      subst hx
      replace h := sum_l h
      intro k
      obtain rfl := Option.some.inj h
      exact pathE 412 [.fin []] (hr) (by kernel_rfl)
    · intro x_2453 hx
      subst hx
      replace h := sum_r h
      obtain rfl := Option.some.inj h
      exact pathE 424 [.i 4, .fin []] (hr) (by kernel_rfl)
theorem ref01_Same.ok (k : Nat) (a_2397 : (List ref01_C)) (b_2398 : (List ref01_C)) (r : Bool) (h : ref01_Same.f k a_2397 b_2398 = some r) : OkS Try.prog 163 (ref01_Same.A a_2397 b_2398) (ref01_Same.S0 a_2397 b_2398) (ref01_Same.R a_2397 b_2398 r) (ref01_Same.S1 a_2397 b_2398 r) := okE Try.func163 m163 rfl rfl rfl (ref01_Same.run k a_2397 b_2398 r h _ _ rfl)
-- 106 glazier/glazierplain.Str
def d106 : FnDef := ⟨10, [.tmp 4],
  (.seq
  (.ops [
    ⟨some 2, .box (.t 0), none⟩,
    ⟨some 3, .box (.t 1), none⟩,
    ⟨some 4, .mv (.c (.one (.p (.bool false)))), none⟩] [2, 3])
  (.seq
  (.drawn [
    ⟨⟨some 5, .load 2 true (.t 2), none⟩, [], false⟩,
    ⟨⟨some 6, .call 164 [(.t 5)], none⟩, [0], true⟩,
    ⟨⟨some 7, .load 2 true (.t 3), none⟩, [], false⟩,
    ⟨⟨some 8, .call 164 [(.t 7)], none⟩, [0, 1, 2], true⟩,
    ⟨⟨some 9, .call 163 [(.t 6), (.t 8)], none⟩, [0, 1, 2, 3], true⟩,
    ⟨⟨some 4, .mv (.t 9), none⟩, [0, 1, 2, 3, 4], false⟩] [[], [1], [1, 3], [1, 3, 4]] [4])
  .ret))⟩
theorem m106 : mFn Try.prog d106 Try.f106 = true := by kernel_rfl
def glazierplain_Str.A (a_2269 : api_Str) (b_2270 : api_Str) : List Vv := [.agg [.p (.str a_2269.Text), .p (.sl 2 (a_2269.Runs.map en_api_Run))], .agg [.p (.str b_2270.Text), .p (.sl 2 (b_2270.Runs.map en_api_Run))]]
def glazierplain_Str.S0 (a_2269 : api_Str) (b_2270 : api_Str) : Sto := []
def glazierplain_Str.R (a_2269 : api_Str) (b_2270 : api_Str) (r_0 : Bool) : Vv := .one (.p (.bool r_0))
def glazierplain_Str.S1 (a_2269 : api_Str) (b_2270 : api_Str) (r_0 : Bool) : Sto := []
def glazierplain_Str.rs : List Rv := d106.res
def glazierplain_Str.b : Sx := d106.body
def glazierplain_Str.f (k : Nat) (a_2269 : api_Str) (b_2270 : api_Str) : Option (Bool) := ((ref01_Of.f k a_2269).bind fun t_2458 => ((ref01_Of.f k b_2270).bind fun t_2459 => ((ref01_Same.f k t_2458 t_2459).bind fun t_2460 => (some t_2460))))
theorem glazierplain_Str.run (k : Nat) (a_2269 : api_Str) (b_2270 : api_Str) (r : Bool) (h : glazierplain_Str.f k a_2269 b_2270 = some r) (res : Vv) (st : Sto) (hr : (glazierplain_Str.R a_2269 b_2270 r, glazierplain_Str.S1 a_2269 b_2270 r) = (res, st)) : RunE Try.prog ⟨0, glazierplain_Str.rs, res, st⟩ (.st glazierplain_Str.b .done) (argE 0 (glazierplain_Str.A a_2269 b_2270)) (glazierplain_Str.S0 a_2269 b_2270) := by
  unfold glazierplain_Str.f at h
  obtain ⟨t_2458, ht_2458, h⟩ := bind_some h
  obtain ⟨t_2459, ht_2459, h⟩ := bind_some h
  obtain ⟨t_2460, ht_2460, h⟩ := bind_some h
  obtain rfl := Option.some.inj h
  exact pathE 424 [.dr 0 [[], [.call [] (ref01_Of.R a_2269 t_2458) (ref01_Of.S1 a_2269 t_2458)], [], [.call [] (ref01_Of.R b_2270 t_2459) (ref01_Of.S1 b_2270 t_2459)], [.call [] (ref01_Same.R t_2458 t_2459 t_2460) (ref01_Same.S1 t_2458 t_2459 t_2460)], []] [.agg [.p (.str a_2269.Text), .p (.sl 2 (a_2269.Runs.map en_api_Run))], .one (.p (.sl 2 (t_2458.map en_ref01_C))), .agg [.p (.str b_2270.Text), .p (.sl 2 (b_2270.Runs.map en_api_Run))], .one (.p (.sl 2 (t_2459.map en_ref01_C))), .one (.p (.bool t_2460)), .one (.p (.bool t_2460))] [[], [], [], [], [], []], .fin []] (ai (ref01_Of.ok k a_2269 t_2458 ht_2458) <| ai (ref01_Of.ok k b_2270 t_2459 ht_2459) <| ai (ref01_Same.ok k t_2458 t_2459 t_2460 ht_2460) <| ai (drE glazierplain_Str.b [1, 0] [.agg [.p (.str a_2269.Text), .p (.sl 2 (a_2269.Runs.map en_api_Run))], .one (.p (.sl 2 (t_2458.map en_ref01_C))), .agg [.p (.str b_2270.Text), .p (.sl 2 (b_2270.Runs.map en_api_Run))], .one (.p (.sl 2 (t_2459.map en_ref01_C))), .one (.p (.bool t_2460)), .one (.p (.bool t_2460))] [[], [], [], [], [], []] ([.box [.p (.str a_2269.Text), .p (.sl 2 (a_2269.Runs.map en_api_Run))], .box [.p (.str b_2270.Text), .p (.sl 2 (b_2270.Runs.map en_api_Run))]] ++ List.replicate 0 .res)) <| hr) (by kernel_rfl)
theorem glazierplain_Str.ok (k : Nat) (a_2269 : api_Str) (b_2270 : api_Str) (r : Bool) (h : glazierplain_Str.f k a_2269 b_2270 = some r) : OkS Try.prog 106 (glazierplain_Str.A a_2269 b_2270) (glazierplain_Str.S0 a_2269 b_2270) (glazierplain_Str.R a_2269 b_2270 r) (glazierplain_Str.S1 a_2269 b_2270 r) := okE Try.func106 m106 rfl rfl rfl (glazierplain_Str.run k a_2269 b_2270 r h _ _ rfl)
-- 74 glazier/glazierplain.Attrs
def d74 : FnDef := ⟨43, [.tmp 4],
  (.seq
  (.ops [
    ⟨some 4, .mv (.c (.one (.p (.bool false)))), none⟩] [0, 1])
  (.seq
  (.seq
  (.ops [
    ⟨some 6, .mv (.t 0), none⟩,
    ⟨some 7, .len false (.t 6), none⟩,
    ⟨some 8, .mv (.t 1), none⟩,
    ⟨some 9, .len false (.t 8), none⟩,
    ⟨some 10, .bin 0 .neq (.t 7) (.t 9), none⟩] [0, 1, 10])
  (.cond (.t 10)
    (.seq
    (.ops [
      ⟨some 4, .mv (.c (.one (.p (.bool false)))), none⟩] [4])
    .ret)
    .skip))
  (.seq
  (.seq
  (.ops [
    ⟨some 5, .mv (.c (.one (.p (.int .i64 0)))), none⟩] [0, 1, 5])
  (.block 0
    (.loop
      (.seq
      (.seq
      (.ops [
        ⟨some 11, .mv (.t 5), none⟩,
        ⟨some 12, .mv (.t 0), none⟩,
        ⟨some 13, .len false (.t 12), none⟩,
        ⟨some 14, .bin 0 .lss (.t 11) (.t 13), none⟩] [0, 1, 5, 14])
      (.cond (.t 14)
        .skip
        (.exit 0)))
      (.seq
      (.block 1
        (.seq
        (.drawn [
          ⟨⟨some 17, .mv (.t 0), none⟩, [], false⟩,
          ⟨⟨some 18, .mv (.t 5), none⟩, [], false⟩,
          ⟨⟨some 19, .iaddr 4 (.t 17) (.t 18), none⟩, [0, 1], false⟩,
          ⟨⟨some 20, .faddr 0 (.t 19), none⟩, [0, 1, 2], false⟩,
          ⟨⟨some 21, .load 2 true (.t 20), none⟩, [0, 1, 2, 3], false⟩,
          ⟨⟨some 22, .mv (.t 1), none⟩, [], false⟩,
          ⟨⟨some 23, .mv (.t 5), none⟩, [], false⟩,
          ⟨⟨some 24, .iaddr 4 (.t 22) (.t 23), none⟩, [5, 6], false⟩,
          ⟨⟨some 25, .faddr 0 (.t 24), none⟩, [5, 6, 7], false⟩,
          ⟨⟨some 26, .load 2 true (.t 25), none⟩, [5, 6, 7, 8], false⟩,
          ⟨⟨some 27, .call 106 [(.t 21), (.t 26)], none⟩, [0, 1, 2, 3, 4, 5, 6, 7, 8, 9], true⟩,
          ⟨⟨some 28, .un .not (.t 27), none⟩, [0, 1, 2, 3, 4, 5, 6, 7, 8, 9, 10], false⟩,
          ⟨⟨some 29, .mv (.t 28), none⟩, [0, 1, 2, 3, 4, 5, 6, 7, 8, 9, 10, 11], false⟩,
          ⟨⟨some 30, .mv (.t 0), some (29, false)⟩, [0, 1, 2, 3, 4, 5, 6, 7, 8, 9, 10, 11, 12], false⟩,
          ⟨⟨some 31, .mv (.t 5), some (29, false)⟩, [0, 1, 2, 3, 4, 5, 6, 7, 8, 9, 10, 11, 12], false⟩,
          ⟨⟨some 32, .iaddr 4 (.t 30) (.t 31), some (29, false)⟩, [0, 1, 2, 3, 4, 5, 6, 7, 8, 9, 10, 11, 12, 13, 14], false⟩,
          ⟨⟨some 33, .faddr 2 (.t 32), some (29, false)⟩, [0, 1, 2, 3, 4, 5, 6, 7, 8, 9, 10, 11, 12, 13, 14, 15], false⟩,
          ⟨⟨some 34, .load 2 true (.t 33), some (29, false)⟩, [0, 1, 2, 3, 4, 5, 6, 7, 8, 9, 10, 11, 12, 13, 14, 15, 16], false⟩,
          ⟨⟨some 35, .mv (.t 1), some (29, false)⟩, [0, 1, 2, 3, 4, 5, 6, 7, 8, 9, 10, 11, 12], false⟩,
          ⟨⟨some 36, .mv (.t 5), some (29, false)⟩, [0, 1, 2, 3, 4, 5, 6, 7, 8, 9, 10, 11, 12], false⟩,
          ⟨⟨some 37, .iaddr 4 (.t 35) (.t 36), some (29, false)⟩, [0, 1, 2, 3, 4, 5, 6, 7, 8, 9, 10, 11, 12, 18, 19], false⟩,
          ⟨⟨some 38, .faddr 2 (.t 37), some (29, false)⟩, [0, 1, 2, 3, 4, 5, 6, 7, 8, 9, 10, 11, 12, 18, 19, 20], false⟩,
          ⟨⟨some 39, .load 2 true (.t 38), some (29, false)⟩, [0, 1, 2, 3, 4, 5, 6, 7, 8, 9, 10, 11, 12, 18, 19, 20, 21], false⟩,
          ⟨⟨some 40, .call 106 [(.t 34), (.t 39)], some (29, false)⟩, [0, 1, 2, 3, 4, 5, 6, 7, 8, 9, 10, 11, 12, 13, 14, 15, 16, 17, 18, 19, 20, 21, 22], true⟩,
          ⟨⟨some 41, .un .not (.t 40), some (29, false)⟩, [0, 1, 2, 3, 4, 5, 6, 7, 8, 9, 10, 11, 12, 13, 14, 15, 16, 17, 18, 19, 20, 21, 22, 23], false⟩,
          ⟨⟨some 42, .pick (.t 29) (.c (.one (.p (.bool true)))) (.t 41), none⟩, [0, 1, 2, 3, 4, 5, 6, 7, 8, 9, 10, 11, 12, 13, 14, 15, 16, 17, 18, 19, 20, 21, 22, 23, 24], false⟩] [[], [10], [10, 23]] [0, 1, 5, 42])
        (.cond (.t 42)
          (.seq
          (.ops [
            ⟨some 4, .mv (.c (.one (.p (.bool false)))), none⟩] [4])
          .ret)
          .skip)))
      (.ops [
        ⟨some 15, .mv (.t 5), none⟩,
        ⟨some 16, .bin 0 .add (.t 15) (.c (.one (.p (.int .i64 1)))), none⟩,
        ⟨some 5, .mv (.t 16), none⟩] [0, 1, 5]))))))
  (.seq
  (.ops [
    ⟨some 4, .mv (.c (.one (.p (.bool true)))), none⟩] [4])
  .ret))))⟩
theorem m74 : mFn Try.prog d74 Try.f74 = true := by kernel_rfl
def glazierplain_Attrs.A (a_2469 : (List api_Attr)) (b_2470 : (List api_Attr)) : List Vv := [.one (.p (.sl 4 (a_2469.map en_api_Attr))), .one (.p (.sl 4 (b_2470.map en_api_Attr)))]
def glazierplain_Attrs.S0 (a_2469 : (List api_Attr)) (b_2470 : (List api_Attr)) : Sto := []
def glazierplain_Attrs.R (a_2469 : (List api_Attr)) (b_2470 : (List api_Attr)) (r_0 : Bool) : Vv := .one (.p (.bool r_0))
def glazierplain_Attrs.S1 (a_2469 : (List api_Attr)) (b_2470 : (List api_Attr)) (r_0 : Bool) : Sto := []
def glazierplain_Attrs.rs : List Rv := d74.res
def glazierplain_Attrs.b : Sx := d74.body
def glazierplain_Attrs_l1 : Nat → (List api_Attr) → (List api_Attr) → Int → Option ((Unit) ⊕ (Unit))
  | 0, _, _, _ => none
  | k + 1, a_2537, b_2538, i_2539 => (if i_2539 < (a_2537.length : Int) then ((idx a_2537 i_2539).bind fun x_2550 => ((idx b_2538 i_2539).bind fun x_2551 => ((glazierplain_Str.f k x_2550.Name x_2551.Name).bind fun t_2552 => (if (!t_2552) = true then (some (.inl ())) else ((idx a_2537 i_2539).bind fun x_2554 => ((idx b_2538 i_2539).bind fun x_2555 => ((glazierplain_Str.f k x_2554.Value x_2555.Value).bind fun t_2556 => (if (!t_2556) = true then (some (.inl ())) else (glazierplain_Attrs_l1 k a_2537 b_2538 (w64 (i_2539 + 1))))))))))) else (some (.inr ())))
def glazierplain_Attrs_l1.S (k : Nat) : Prop := ∀ (a_2537 : (List api_Attr)) (b_2538 : (List api_Attr)) (i_2539 : Int) (v : (Unit) ⊕ (Unit)), glazierplain_Attrs_l1 k a_2537 b_2538 i_2539 = some v → ∀ (res : Vv) (st : Sto), (∀ x_0, v = (.inl x_0) → ∀ k, RunE Try.prog ⟨0, glazierplain_Attrs.rs, res, st⟩ (.st .ret k) [(4, .one (.p (.bool false)))] []) → (∀ x_0, v = (.inr x_0) → RunE Try.prog ⟨0, glazierplain_Attrs.rs, res, st⟩ (koAfter glazierplain_Attrs.b [1, 1, 0, 1]) [] []) → RunE Try.prog ⟨0, glazierplain_Attrs.rs, res, st⟩ (koLoop glazierplain_Attrs.b [1, 1, 0, 1, 0]) [(0, .one (.p (.sl 4 (a_2537.map en_api_Attr)))), (1, .one (.p (.sl 4 (b_2538.map en_api_Attr)))), (5, .one (.p (.int .i64 i_2539)))] []
theorem glazierplain_Attrs_l1.z : glazierplain_Attrs_l1.S 0 := fun _ _ _ v h => none_some h
theorem glazierplain_Attrs_l1.step (k : Nat) (ih : glazierplain_Attrs_l1.S k) : glazierplain_Attrs_l1.S (k + 1) := by
  intro a_2537 b_2538 i_2539 v h res st c0 c1
  rw [glazierplain_Attrs_l1] at h
  rcases ite_some h with ⟨c_2549, h⟩ | ⟨c_2549, h⟩
  · obtain ⟨x_2550, hx_2550, h⟩ := bind_some h
    obtain ⟨x_2551, hx_2551, h⟩ := bind_some h
    obtain ⟨t_2552, ht_2552, h⟩ := bind_some h
    rcases ite_some h with ⟨c_2553, h⟩ | ⟨c_2553, h⟩
    · obtain rfl := Option.some.inj h
      exact pathE 484 [.n a_2537.length, .b true, .dr 0 [[], [], [.c (en_api_Attr x_2550)], [], [], [], [], [.c (en_api_Attr x_2551)], [], [], [.call [] (glazierplain_Str.R x_2550.Name x_2551.Name t_2552) (glazierplain_Str.S1 x_2550.Name x_2551.Name t_2552)], [], [.lt true], [.b true], [.b true], [.b true], [.b true], [.b true], [.b true], [.b true], [.b true], [.b true], [.b true], [.b true], [.b true], []] [.one (.p (.sl 4 (a_2537.map en_api_Attr))), .one (.p (.int .i64 i_2539)), .one (.cptr [.str x_2550.Name.Text, .sl 2 (x_2550.Name.Runs.map en_api_Run), .str x_2550.Value.Text, .sl 2 (x_2550.Value.Runs.map en_api_Run)]), .one (.cptr [.str x_2550.Name.Text, .sl 2 (x_2550.Name.Runs.map en_api_Run), .str x_2550.Value.Text, .sl 2 (x_2550.Value.Runs.map en_api_Run)]), .agg [.p (.str x_2550.Name.Text), .p (.sl 2 (x_2550.Name.Runs.map en_api_Run))], .one (.p (.sl 4 (b_2538.map en_api_Attr))), .one (.p (.int .i64 i_2539)), .one (.cptr [.str x_2551.Name.Text, .sl 2 (x_2551.Name.Runs.map en_api_Run), .str x_2551.Value.Text, .sl 2 (x_2551.Value.Runs.map en_api_Run)]), .one (.cptr [.str x_2551.Name.Text, .sl 2 (x_2551.Name.Runs.map en_api_Run), .str x_2551.Value.Text, .sl 2 (x_2551.Value.Runs.map en_api_Run)]), .agg [.p (.str x_2551.Name.Text), .p (.sl 2 (x_2551.Name.Runs.map en_api_Run))], .one (.p (.bool t_2552)), .one (.p (.bool (!t_2552))), .one (.p (.bool true)), .tup [], .tup [], .tup [], .tup [], .tup [], .tup [], .tup [], .tup [], .tup [], .tup [], .tup [], .tup [], .one (.p (.bool true))] [[], [], [], [], [], [], [], [], [], [], [], [], [], [], [], [], [], [], [], [], [], [], [], [], [], []], .b true, .i 4, .keep [4], .stop] (ai (len_ob en_api_Attr a_2537) <| ai (decide_eq_true c_2549) <| ai (idx_ob en_api_Attr hx_2550) <| ai (idx_ob en_api_Attr hx_2551) <| ai (glazierplain_Str.ok k x_2550.Name x_2551.Name t_2552 ht_2552) <| ai c_2553 <| ai rT <| ai rT <| ai rT <| ai rT <| ai rT <| ai rT <| ai rT <| ai rT <| ai rT <| ai rT <| ai rT <| ai rT <| ai (drE glazierplain_Attrs.b [1, 1, 0, 1, 0, 0, 1, 0, 0, 0] [.one (.p (.sl 4 (a_2537.map en_api_Attr))), .one (.p (.int .i64 i_2539)), .one (.cptr [.str x_2550.Name.Text, .sl 2 (x_2550.Name.Runs.map en_api_Run), .str x_2550.Value.Text, .sl 2 (x_2550.Value.Runs.map en_api_Run)]), .one (.cptr [.str x_2550.Name.Text, .sl 2 (x_2550.Name.Runs.map en_api_Run), .str x_2550.Value.Text, .sl 2 (x_2550.Value.Runs.map en_api_Run)]), .agg [.p (.str x_2550.Name.Text), .p (.sl 2 (x_2550.Name.Runs.map en_api_Run))], .one (.p (.sl 4 (b_2538.map en_api_Attr))), .one (.p (.int .i64 i_2539)), .one (.cptr [.str x_2551.Name.Text, .sl 2 (x_2551.Name.Runs.map en_api_Run), .str x_2551.Value.Text, .sl 2 (x_2551.Value.Runs.map en_api_Run)]), .one (.cptr [.str x_2551.Name.Text, .sl 2 (x_2551.Name.Runs.map en_api_Run), .str x_2551.Value.Text, .sl 2 (x_2551.Value.Runs.map en_api_Run)]), .agg [.p (.str x_2551.Name.Text), .p (.sl 2 (x_2551.Name.Runs.map en_api_Run))], .one (.p (.bool t_2552)), .one (.p (.bool (!t_2552))), .one (.p (.bool true)), .tup [], .tup [], .tup [], .tup [], .tup [], .tup [], .tup [], .tup [], .tup [], .tup [], .tup [], .tup [], .one (.p (.bool true))] [[], [], [], [], [], [], [], [], [], [], [], [], [], [], [], [], [], [], [], [], [], [], [], [], [], []] ([] ++ List.replicate 0 .res)) <| ai rT <| ((c0 () rfl) (koAfter glazierplain_Attrs.b [1, 1, 0, 1, 0, 0, 1, 0, 0, 1, 0, 1]))) (by kernel_rfl)
    · obtain ⟨x_2554, hx_2554, h⟩ := bind_some h
      obtain ⟨x_2555, hx_2555, h⟩ := bind_some h
      obtain ⟨t_2556, ht_2556, h⟩ := bind_some h
      refine pathE 460 [.n a_2537.length, .b true, .dr 0 [[], [], [.c (en_api_Attr x_2550)], [], [], [], [], [.c (en_api_Attr x_2551)], [], [], [.call [] (glazierplain_Str.R x_2550.Name x_2551.Name t_2552) (glazierplain_Str.S1 x_2550.Name x_2551.Name t_2552)], [], [.lt false], [.b false], [.b false], [.b false, .c (en_api_Attr x_2554)], [.b false], [.b false], [.b false], [.b false], [.b false, .c (en_api_Attr x_2555)], [.b false], [.b false], [.b false, .call [] (glazierplain_Str.R x_2554.Value x_2555.Value t_2556) (glazierplain_Str.S1 x_2554.Value x_2555.Value t_2556)], [.b false], []] [.one (.p (.sl 4 (a_2537.map en_api_Attr))), .one (.p (.int .i64 i_2539)), .one (.cptr [.str x_2550.Name.Text, .sl 2 (x_2550.Name.Runs.map en_api_Run), .str x_2550.Value.Text, .sl 2 (x_2550.Value.Runs.map en_api_Run)]), .one (.cptr [.str x_2550.Name.Text, .sl 2 (x_2550.Name.Runs.map en_api_Run), .str x_2550.Value.Text, .sl 2 (x_2550.Value.Runs.map en_api_Run)]), .agg [.p (.str x_2550.Name.Text), .p (.sl 2 (x_2550.Name.Runs.map en_api_Run))], .one (.p (.sl 4 (b_2538.map en_api_Attr))), .one (.p (.int .i64 i_2539)), .one (.cptr [.str x_2551.Name.Text, .sl 2 (x_2551.Name.Runs.map en_api_Run), .str x_2551.Value.Text, .sl 2 (x_2551.Value.Runs.map en_api_Run)]), .one (.cptr [.str x_2551.Name.Text, .sl 2 (x_2551.Name.Runs.map en_api_Run), .str x_2551.Value.Text, .sl 2 (x_2551.Value.Runs.map en_api_Run)]), .agg [.p (.str x_2551.Name.Text), .p (.sl 2 (x_2551.Name.Runs.map en_api_Run))], .one (.p (.bool t_2552)), .one (.p (.bool (!t_2552))), .one (.p (.bool false)), .one (.p (.sl 4 (a_2537.map en_api_Attr))), .one (.p (.int .i64 i_2539)), .one (.cptr [.str x_2554.Name.Text, .sl 2 (x_2554.Name.Runs.map en_api_Run), .str x_2554.Value.Text, .sl 2 (x_2554.Value.Runs.map en_api_Run)]), .one (.cptr [.str x_2554.Value.Text, .sl 2 (x_2554.Value.Runs.map en_api_Run)]), .agg [.p (.str x_2554.Value.Text), .p (.sl 2 (x_2554.Value.Runs.map en_api_Run))], .one (.p (.sl 4 (b_2538.map en_api_Attr))), .one (.p (.int .i64 i_2539)), .one (.cptr [.str x_2555.Name.Text, .sl 2 (x_2555.Name.Runs.map en_api_Run), .str x_2555.Value.Text, .sl 2 (x_2555.Value.Runs.map en_api_Run)]), .one (.cptr [.str x_2555.Value.Text, .sl 2 (x_2555.Value.Runs.map en_api_Run)]), .agg [.p (.str x_2555.Value.Text), .p (.sl 2 (x_2555.Value.Runs.map en_api_Run))], .one (.p (.bool t_2556)), .one (.p (.bool (!t_2556))), .one (.p (.bool (!t_2556)))] [[], [], [], [], [], [], [], [], [], [], [], [], [], [], [], [], [], [], [], [], [], [], [], [], [], []], .keep [0, 1, 5, 42], .stop] (ai (len_ob en_api_Attr a_2537) <| ai (decide_eq_true c_2549) <| ai (idx_ob en_api_Attr hx_2550) <| ai (idx_ob en_api_Attr hx_2551) <| ai (glazierplain_Str.ok k x_2550.Name x_2551.Name t_2552 ht_2552) <| ai (bool_false c_2553) <| ai rF <| ai rF <| ai rF <| ai (idx_ob en_api_Attr hx_2554) <| ai rF <| ai rF <| ai rF <| ai rF <| ai rF <| ai (idx_ob en_api_Attr hx_2555) <| ai rF <| ai rF <| ai rF <| ai (glazierplain_Str.ok k x_2554.Value x_2555.Value t_2556 ht_2556) <| ai rF <| ai (drE glazierplain_Attrs.b [1, 1, 0, 1, 0, 0, 1, 0, 0, 0] [.one (.p (.sl 4 (a_2537.map en_api_Attr))), .one (.p (.int .i64 i_2539)), .one (.cptr [.str x_2550.Name.Text, .sl 2 (x_2550.Name.Runs.map en_api_Run), .str x_2550.Value.Text, .sl 2 (x_2550.Value.Runs.map en_api_Run)]), .one (.cptr [.str x_2550.Name.Text, .sl 2 (x_2550.Name.Runs.map en_api_Run), .str x_2550.Value.Text, .sl 2 (x_2550.Value.Runs.map en_api_Run)]), .agg [.p (.str x_2550.Name.Text), .p (.sl 2 (x_2550.Name.Runs.map en_api_Run))], .one (.p (.sl 4 (b_2538.map en_api_Attr))), .one (.p (.int .i64 i_2539)), .one (.cptr [.str x_2551.Name.Text, .sl 2 (x_2551.Name.Runs.map en_api_Run), .str x_2551.Value.Text, .sl 2 (x_2551.Value.Runs.map en_api_Run)]), .one (.cptr [.str x_2551.Name.Text, .sl 2 (x_2551.Name.Runs.map en_api_Run), .str x_2551.Value.Text, .sl 2 (x_2551.Value.Runs.map en_api_Run)]), .agg [.p (.str x_2551.Name.Text), .p (.sl 2 (x_2551.Name.Runs.map en_api_Run))], .one (.p (.bool t_2552)), .one (.p (.bool (!t_2552))), .one (.p (.bool false)), .one (.p (.sl 4 (a_2537.map en_api_Attr))), .one (.p (.int .i64 i_2539)), .one (.cptr [.str x_2554.Name.Text, .sl 2 (x_2554.Name.Runs.map en_api_Run), .str x_2554.Value.Text, .sl 2 (x_2554.Value.Runs.map en_api_Run)]), .one (.cptr [.str x_2554.Value.Text, .sl 2 (x_2554.Value.Runs.map en_api_Run)]), .agg [.p (.str x_2554.Value.Text), .p (.sl 2 (x_2554.Value.Runs.map en_api_Run))], .one (.p (.sl 4 (b_2538.map en_api_Attr))), .one (.p (.int .i64 i_2539)), .one (.cptr [.str x_2555.Name.Text, .sl 2 (x_2555.Name.Runs.map en_api_Run), .str x_2555.Value.Text, .sl 2 (x_2555.Value.Runs.map en_api_Run)]), .one (.cptr [.str x_2555.Value.Text, .sl 2 (x_2555.Value.Runs.map en_api_Run)]), .agg [.p (.str x_2555.Value.Text), .p (.sl 2 (x_2555.Value.Runs.map en_api_Run))], .one (.p (.bool t_2556)), .one (.p (.bool (!t_2556))), .one (.p (.bool (!t_2556)))] [[], [], [], [], [], [], [], [], [], [], [], [], [], [], [], [], [], [], [], [], [], [], [], [], [], []] ([] ++ List.replicate 0 .res)) <| (?_ : RunE Try.prog ⟨0, glazierplain_Attrs.rs, res, st⟩ (koOf glazierplain_Attrs.b .done [1, 1, 0, 1, 0, 0, 1, 0, 0, 1]) [(0, .one (.p (.sl 4 (a_2537.map en_api_Attr)))), (1, .one (.p (.sl 4 (b_2538.map en_api_Attr)))), (5, .one (.p (.int .i64 i_2539))), (42, .one (.p (.bool (!t_2556))))] [])) (by kernel_rfl)
      rcases ite_some h with ⟨c_2557, h⟩ | ⟨c_2557, h⟩
      · obtain rfl := Option.some.inj h
        exact pathE 448 [.b true, .i 4, .keep [4], .stop] (ai c_2557 <| ((c0 () rfl) (koAfter glazierplain_Attrs.b [1, 1, 0, 1, 0, 0, 1, 0, 0, 1, 0, 1]))) (by kernel_rfl)
      · exact pathE 448 [.b false, .i 7, .keep [0, 1, 5], .stop] (ai (bool_false c_2557) <| (ih a_2537 b_2538 (w64 (i_2539 + 1)) _ h res st c0 c1)) (by kernel_rfl)
  · obtain rfl := Option.some.inj h
    exact pathE 460 [.n a_2537.length, .b false, .i 1, .keep [], .stop] (ai (len_ob en_api_Attr a_2537) <| ai (decide_eq_false c_2549) <| (c1 () rfl)) (by kernel_rfl)
theorem glazierplain_Attrs_l1.ok : ∀ k, glazierplain_Attrs_l1.S k
  | 0 => glazierplain_Attrs_l1.z
  | k + 1 => glazierplain_Attrs_l1.step k (glazierplain_Attrs_l1.ok k)
def glazierplain_Attrs.f (k : Nat) (a_2469 : (List api_Attr)) (b_2470 : (List api_Attr)) : Option (Bool) := (if (a_2469.length : Int) ≠ (b_2470.length : Int) then (some false) else (Option.bind (glazierplain_Attrs_l1 k a_2469 b_2470 0) (Sum.elim (fun x_2559 => (some false)) (fun x_2560 => (some true)))))
theorem glazierplain_Attrs.run (k : Nat) (a_2469 : (List api_Attr)) (b_2470 : (List api_Attr)) (r : Bool) (h : glazierplain_Attrs.f k a_2469 b_2470 = some r) (res : Vv) (st : Sto) (hr : (glazierplain_Attrs.R a_2469 b_2470 r, glazierplain_Attrs.S1 a_2469 b_2470 r) = (res, st)) : RunE Try.prog ⟨0, glazierplain_Attrs.rs, res, st⟩ (.st glazierplain_Attrs.b .done) (argE 0 (glazierplain_Attrs.A a_2469 b_2470)) (glazierplain_Attrs.S0 a_2469 b_2470) := by
  unfold glazierplain_Attrs.f at h
  rcases ite_some h with ⟨c_2525, h⟩ | ⟨c_2525, h⟩
  · obtain rfl := Option.some.inj h
    exact pathE 460 [.n a_2469.length, .n b_2470.length, .b true, .i 4, .fin []] (ai (len_ob en_api_Attr a_2469) <| ai (len_ob en_api_Attr b_2470) <| ai (bne_iff_ne.2 c_2525) <| hr) (by kernel_rfl)
  · obtain ⟨v_2558, hv_2558, h⟩ := bind_some h
    refine pathE 472 [.n a_2469.length, .n b_2470.length, .b false, .i 8, .keep [0, 1, 5], .stop] (ai (len_ob en_api_Attr a_2469) <| ai (len_ob en_api_Attr b_2470) <| ai (bne_false c_2525) <| (glazierplain_Attrs_l1.ok k a_2469 b_2470 0 v_2558 hv_2558 res st ?_ ?_)) (by kernel_rfl)
    · intro x_2559 hx
      subst hx
      replace h := sum_l h
      intro k
      obtain rfl := Option.some.inj h
      exact pathE 412 [.fin []] (hr) (by kernel_rfl)
    · intro x_2560 hx
      subst hx
      replace h := sum_r h
      obtain rfl := Option.some.inj h
      exact pathE 424 [.i 4, .fin []] (hr) (by kernel_rfl)
theorem glazierplain_Attrs.ok (k : Nat) (a_2469 : (List api_Attr)) (b_2470 : (List api_Attr)) (r : Bool) (h : glazierplain_Attrs.f k a_2469 b_2470 = some r) : OkS Try.prog 74 (glazierplain_Attrs.A a_2469 b_2470) (glazierplain_Attrs.S0 a_2469 b_2470) (glazierplain_Attrs.R a_2469 b_2470 r) (glazierplain_Attrs.S1 a_2469 b_2470 r) := okE Try.func74 m74 rfl rfl rfl (glazierplain_Attrs.run k a_2469 b_2470 r h _ _ rfl)
end Go.Proofs.Ga

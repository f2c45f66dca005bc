/- A logic of plain data over the model, proved sound: part U; conditions stand in each theorem. -/
import Derived.Test.YtajaolmagnldaaaDlT
set_option linter.unusedVariables false
/-! Functions of the library, told once. -/
namespace Go.Proofs.Dl
/-! ## slices.Clone -/
def cloneD (e sz bytes : Nat) : FnDef := ⟨8, [.tmp 2],
  (.seq
  (.ops [
    ⟨some 2, .mv (.c (.one (.nil sz))), none⟩] [0])
  (.seq
  (.seq
  (.ops [
    ⟨some 3, .mv (.t 0), none⟩,
    ⟨some 4, .eqnil false (.t 3), none⟩] [0, 4])
  (.cond (.t 4)
    (.seq
    (.ops [
      ⟨some 2, .mv (.c (.one (.nil sz))), none⟩] [2])
    .ret)
    .skip))
  (.seq
  (.ops [
    ⟨some 5, .bslice e sz [], none⟩,
    ⟨some 6, .mv (.t 0), none⟩,
    ⟨some 7, .app e sz bytes (.t 5) (.t 6), none⟩,
    ⟨some 2, .mv (.t 7), none⟩] [2])
  .ret)))⟩
def cloneK (e sz bytes : Nat) : Ko := .st (.cond (.t 4)
    (.seq
    (.ops [
      ⟨some 2, .mv (.c (.one (.nil sz))), none⟩] [2])
    .ret)
    .skip) (.st (.seq
  (.ops [
    ⟨some 5, .bslice e sz [], none⟩,
    ⟨some 6, .mv (.t 0), none⟩,
    ⟨some 7, .app e sz bytes (.t 5) (.t 6), none⟩,
    ⟨some 2, .mv (.t 7), none⟩] [2])
  .ret) .done)
/-- Up to the question whether it is nil. -/
theorem clone_head {P : Program} {n : Nat} {Q : Env → Store → Prop} {e sz bytes : Nat} {x : Vv} {σ : Store} {len : Int} (hl : slenV x = some len)
    (h : ∀ q : Bool, (q = true → len = 0) → Run P n Q (cloneK e sz bytes) [(0, x), (4, b1 q)] σ) : Run P n Q (.st (cloneD e sz bytes).body .done) (argE 0 [x]) σ := by
  refine .seq (.start ?_)
  refine .op (v := .one (.nil sz)) (σ' := σ) rfl rfl (.fin ?_)
  refine .seq (.seq (.start ?_))
  refine .op (v := x) (σ' := σ) rfl rfl ?_
  refine .eqnil rfl rfl (len := len) hl (fun q hq => .fin ?_)
  exact h q hq
theorem clone_pure {P : Program} {f : Nat} {fn : Func} {e sz bytes : Nat} (hf : P.funcs[f]? = some fn) (hm : mFn P (cloneD e sz bytes) fn = true) (hp : 0 < sz) {xs : List (List Pd)} (hr : xs.length * bytes ≤ room) :
    Ok P f [.one (.p (.sl sz xs))] (lowS []) (.one (.own 0 sz 0 xs.length)) (lowS [.row e sz xs.length xs]) := by
  refine okS_of_run (σ := []) (σ' := [.row e sz xs.length xs]) hf hm ?_
  refine clone_head (len := (xs.length : Int)) rfl (fun q hq => ?_)
  cases q with
  | true =>
    have h0 : xs = [] := List.eq_nil_of_length_eq_zero (by have := hq rfl; omega)
    subst h0
    refine .cond true rfl (.seq (.start ?_))
    refine .op (v := .one (.nil sz)) (σ' := lowS []) rfl rfl (.fin ?_)
    refine .weak (Weak.mkown (t := 2) (ty := e) hp rfl) (.ret ?_)
    exact ⟨[_], [_], _, rfl, .inl rfl, .inr ⟨[0], rfl, by simp, by simp [lowS], rfl, rfl⟩⟩
  | false =>
    refine .cond false rfl (.skip (.seq (.start ?_)))
    refine .op (v := .one (.own 0 sz 0 0)) (σ' := [.row e sz 0 []]) rfl rfl ?_
    refine .op (v := .one (.p (.sl sz xs))) (σ' := [.row e sz 0 []]) rfl rfl ?_
    refine .op (v := .one (.own 1 sz 0 xs.length)) (σ' := [.none, .row e sz xs.length (upP xs)]) rfl ?_ ?_
    · simp [stepv, ev, getE, setE, elemsOf, appV, hr, upP, List.take_of_length_le]
    · refine .op (v := .one (.own 1 sz 0 xs.length)) (σ' := [.none, .row e sz xs.length (upP xs)]) rfl rfl (.fin (.ret ?_))
      exact ⟨[_], [_], _, rfl, .inl rfl, .inr ⟨[1], rfl, by simp, by simp, rfl, by simp [gcS, Ob.gc, gc_up, lowS, So.low]⟩⟩
/-- The same of a row that is one's own. -/
theorem clone_own {P : Program} {f : Nat} {fn : Func} {e sz bytes : Nat} (hf : P.funcs[f]? = some fn) (hm : mFn P (cloneD e sz bytes) fn = true) (hp : 0 < sz) {e0 kc : Nat} {xs : List (List Pd)} (hr : xs.length * bytes ≤ room) :
    Ok P f [.one (.own 0 sz 0 xs.length)] (lowS [.row e0 sz kc xs]) (.one (.own 1 sz 0 xs.length)) (lowS [.row e0 sz kc xs, .row e sz xs.length xs]) := by
  refine okS_of_run (σ := [.row e0 sz kc xs]) (σ' := [.row e0 sz kc xs, .row e sz xs.length xs]) hf hm ?_
  refine clone_head (len := (xs.length : Int)) rfl (fun q hq => ?_)
  cases q with
  | true =>
    have h0 : xs = [] := List.eq_nil_of_length_eq_zero (by have := hq rfl; omega)
    subst h0
    refine .cond true rfl (.seq (.start ?_))
    refine .op (v := .one (.nil sz)) (σ' := lowS [.row e0 sz kc []]) rfl rfl (.fin ?_)
    refine .weak (Weak.mkown (t := 2) (ty := e) hp rfl) (.ret ?_)
    exact ⟨[_], [_], _, rfl, .inl rfl, .inr ⟨[0, 1], rfl, by simp, by simp [lowS], rfl, rfl⟩⟩
  | false =>
    refine .cond false rfl (.skip (.seq (.start ?_)))
    refine .op (v := .one (.own 1 sz 0 0)) (σ' := [.row e0 sz kc (upP xs), .row e sz 0 []]) rfl rfl ?_
    refine .op (v := .one (.own 0 sz 0 xs.length)) (σ' := [.row e0 sz kc (upP xs), .row e sz 0 []]) rfl rfl ?_
    refine .op (v := .one (.own 2 sz 0 xs.length)) (σ' := [.row e0 sz kc (upP xs), .none, .row e sz xs.length (upP xs)]) rfl ?_ ?_
    · simp [stepv, ev, getE, setE, elemsOf, appV, hr, upP, List.take_of_length_le]
    · refine .op (v := .one (.own 2 sz 0 xs.length)) (σ' := [.row e0 sz kc (upP xs), .none, .row e sz xs.length (upP xs)]) rfl rfl (.fin (.ret ?_))
      exact ⟨[_], [_], _, rfl, .inl rfl, .inr ⟨[0, 2], rfl, by simp, by simp, rfl, by simp [gcS, Ob.gc, gc_up, lowS, So.low]⟩⟩
end Go.Proofs.Dl
namespace Go.Proofs.Dl
theorem cloneP {P : Program} {f : Nat} {fn : Func} {e sz bytes : Nat} (hf : P.funcs[f]? = some fn) (hm : mFn P (cloneD e sz bytes) fn = true) (hp : 0 < sz) {α : Type} (g : α → List Pd) {l : List α} (hr : l.length * bytes ≤ room) :
    Ok P f [.one (.p (.sl sz (l.map g)))] (lowS []) (.one (.own 0 sz 0 l.length)) (lowS [.row e sz l.length (l.map g)]) := by
  have := clone_pure hf hm hp (xs := l.map g) (by simpa using hr)
  simpa using this
theorem cloneO {P : Program} {f : Nat} {fn : Func} {e sz bytes : Nat} (hf : P.funcs[f]? = some fn) (hm : mFn P (cloneD e sz bytes) fn = true) (hp : 0 < sz) {α : Type} (g : α → List Pd) {l : List α} {e0 kc n : Nat} (hn : l.length = n) (hr : l.length * bytes ≤ room) :
    Ok P f [.one (.own 0 sz 0 n)] (lowS [.row e0 sz kc (l.map g)]) (.one (.own 1 sz 0 l.length)) (lowS [.row e0 sz kc (l.map g), .row e sz l.length (l.map g)]) := by
  subst hn
  have := clone_own hf hm hp (e0 := e0) (kc := kc) (xs := l.map g) (by simpa using hr)
  simpa using this
end Go.Proofs.Dl
namespace Go.Proofs.Dl
theorem cloneN {P : Program} {f : Nat} {fn : Func} {e sz bytes : Nat} (hf : P.funcs[f]? = some fn) (hm : mFn P (cloneD e sz bytes) fn = true) (hp : 0 < sz) {α : Type} (g : α → List Pd) :
    Ok P f [.one (.nil sz)] (lowS []) (.one (.own 0 sz 0 0)) (lowS [.row e sz 0 (([] : List α).map g)]) := by
  refine okS_of_run (σ := []) (σ' := [.row e sz 0 []]) hf hm ?_
  refine clone_head (len := (0 : Int)) rfl (fun q hq => ?_)
  cases q with
  | true =>
    refine .cond true rfl (.seq (.start ?_))
    refine .op (v := .one (.nil sz)) (σ' := lowS []) rfl rfl (.fin ?_)
    refine .weak (Weak.mkown (t := 2) (ty := e) hp rfl) (.ret ?_)
    exact ⟨[_], [_], _, rfl, .inl rfl, .inr ⟨[0], rfl, by simp, by simp [lowS], rfl, rfl⟩⟩
  | false =>
    refine .cond false rfl (.skip (.seq (.start ?_)))
    refine .op (v := .one (.own 0 sz 0 0)) (σ' := [.row e sz 0 []]) rfl rfl ?_
    refine .op (v := .one (.nil sz)) (σ' := [.row e sz 0 []]) rfl rfl ?_
    refine .op (v := .one (.own 1 sz 0 0)) (σ' := [.none, .row e sz 0 []]) rfl ?_ ?_
    · simp [stepv, ev, getE, setE, elemsOf, appV]
    · refine .op (v := .one (.own 1 sz 0 0)) (σ' := [.none, .row e sz 0 []]) rfl rfl (.fin (.ret ?_))
      exact ⟨[_], [_], _, rfl, .inl rfl, .inr ⟨[1], rfl, by simp, by simp, rfl, by simp [gcS, Ob.gc, lowS, So.low, upP]⟩⟩
end Go.Proofs.Dl

/- A logic of plain data over the model, proved sound: part O; conditions stand in each theorem. -/
import Derived.Test.YtajaolmagnldaaaDlM
set_option linter.unusedVariables false
/-! Evaluation by simp. -/
namespace Go.Proofs.Dl
variable {P : Program} {n : Nat} {Q : Env → Store → Prop}

/-- One of two, told by a Bool. -/
def selV (q : Bool) (a b : Vv) : Vv := match q with | true => a | false => b
def selS (q : Bool) (a b : Store) : Store := match q with | true => a | false => b
@[simp] theorem selV_true (a b : Vv) : selV true a b = a := rfl
@[simp] theorem selV_false (a b : Vv) : selV false a b = b := rfl
@[simp] theorem selV_same (q : Bool) (a : Vv) : selV q a a = a := by cases q <;> rfl
@[simp] theorem selV_left (q : Bool) (a b c : Vv) : selV q (selV q a b) c = selV q a c := by cases q <;> rfl
@[simp] theorem selV_right (q : Bool) (a b c : Vv) : selV q a (selV q b c) = selV q a c := by cases q <;> rfl
@[simp] theorem selV_not (q : Bool) (a b : Vv) : selV (!q) a b = selV q b a := by cases q <;> rfl
@[simp] theorem selV_bool (q x y : Bool) : selV q (.one (.p (.bool x))) (.one (.p (.bool y))) = .one (.p (.bool (bif q then x else y))) := by cases q <;> rfl
@[simp] theorem selV_int (q : Bool) (k : IntKind) (x y : Int) : selV q (.one (.p (.int k x))) (.one (.p (.int k y))) = .one (.p (.int k (bif q then x else y))) := by cases q <;> rfl
@[simp] theorem selS_true (a b : Store) : selS true a b = a := rfl
@[simp] theorem selS_false (a b : Store) : selS false a b = b := rfl
@[simp] theorem selS_same (q : Bool) (a : Store) : selS q a a = a := by cases q <;> rfl
@[simp] theorem ite_selV {p : Prop} [Decidable p] (a b : Vv) : (if p then a else b) = selV (decide p) a b := by
  by_cases h : p <;> simp [h, selV]

/-- The instructions up to the first that is a call; it stops where a guard or an instruction is not told. -/
def evO : List Opx → List Nat → Ko → Env → Store → (Ko → Env → Store → Prop) → Prop
  | [], live, k, e, σ, K => K k (keepE live e) σ
  | o :: r, live, k, e, σ, K => match wantE o.guard e with
    | some true => (match stepv o.op (ev e) σ with
      | some (v, σ', []) => evO r live k (setE e o.dst v) σ' K
      | _ => K (.ops (o :: r) live k) e σ)
    | some false => evO r live k (setE e o.dst (.tup [])) σ K
    | Option.none => False
def aO (x : Option (Vv × Store × List Nat)) (o : Opx) (r : List Opx) (live : List Nat) (k : Ko) (e : Env) (σ : Store) (K : Ko → Env → Store → Prop) : Prop := match x with
  | some (v, σ', []) => evO r live k (setE e o.dst v) σ' K
  | _ => K (.ops (o :: r) live k) e σ
def gO (q : Option Bool) (o : Opx) (r : List Opx) (live : List Nat) (k : Ko) (e : Env) (σ : Store) (K : Ko → Env → Store → Prop) : Prop := match q with
  | some true => aO (stepv o.op (ev e) σ) o r live k e σ K
  | some false => evO r live k (setE e o.dst (.tup [])) σ K
  | Option.none => False
section
variable (o : Opx) (r : List Opx) (live : List Nat) (k : Ko) (e : Env) (σ : Store) (K : Ko → Env → Store → Prop)
@[simp] theorem evO_nil : evO [] live k e σ K = K k (keepE live e) σ := rfl
@[simp] theorem evO_cons : evO (o :: r) live k e σ K = gO (wantE o.guard e) o r live k e σ K := by
  rw [evO]; unfold gO aO; rfl
@[simp] theorem gO_true : gO (some true) o r live k e σ K = aO (stepv o.op (ev e) σ) o r live k e σ K := rfl
@[simp] theorem gO_false : gO (some false) o r live k e σ K = evO r live k (setE e o.dst (.tup [])) σ K := rfl
@[simp] theorem aO_some (v : Vv) (σ' : Store) : aO (some (v, σ', [])) o r live k e σ K = evO r live k (setE e o.dst v) σ' K := rfl
@[simp] theorem aO_none : aO Option.none o r live k e σ K = K (.ops (o :: r) live k) e σ := rfl
end
theorem gO_split {q : Bool} {o : Opx} {r : List Opx} {live : List Nat} {k : Ko} {e : Env} {σ : Store} {K : Ko → Env → Store → Prop} (h1 : q = true → gO (some true) o r live k e σ K) (h2 : q = false → gO (some false) o r live k e σ K) : gO (some q) o r live k e σ K := by
  cases q with
  | true => exact h1 rfl
  | false => exact h2 rfl
theorem evO_run {l : List Opx} {live : List Nat} {k : Ko} : ∀ {e : Env} {σ : Store}, evO l live k e σ (Run P n Q) → Run P n Q (.ops l live k) e σ := by
  induction l with
  | nil => intro e σ h; exact .fin h
  | cons o r ih =>
    intro e σ h
    unfold evO at h
    split at h
    · rename_i hw
      split at h
      · rename_i v σ' hs
        exact .op hw hs (ih h)
      · exact h
    · rename_i hw
      exact .no hw (ih h)
    · exact h.elim
theorem run_cond {c : Oo} {a b : Sx} {k : Ko} {e : Env} {σ : Store} {q : Bool} (h : ev e c = .one (.p (.bool q))) (h1 : q = true → Run P n Q (.st a k) e σ) (h2 : q = false → Run P n Q (.st b k) e σ) : Run P n Q (.st (.cond c a b) k) e σ := by
  refine .cond q h ?_
  cases q with
  | true => exact h1 rfl
  | false => exact h2 rfl
theorem Ends.of {n : Nat} {rs : List Rv} {vs : List Vv} {res : Vv} {e : Env} {σ : Store} (h : resV e σ rs = some vs) (hr : (packV vs).gc (List.range n) = res) (hn : n ≤ σ.length) {σ' : Store} (hs : gcS (List.range n) σ = σ') : Ends n rs res σ' e σ :=
  ⟨vs, vs, σ, h, .inl rfl, .inr ⟨List.range n, by simp [List.take_of_length_le], List.nodup_range, fun l hl => Nat.lt_of_lt_of_le (List.mem_range.1 hl) hn, hr, hs⟩⟩
end Go.Proofs.Dl

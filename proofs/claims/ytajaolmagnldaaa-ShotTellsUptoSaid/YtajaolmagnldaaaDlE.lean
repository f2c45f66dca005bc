/- A logic of plain data over the model, proved sound: part E; conditions stand in each theorem. -/
import Derived.Test.YtajaolmagnldaaaDlD
import Derived.Laws.CopyRow
import Derived.Laws.NewBlocks
set_option linter.unusedVariables false
/-! The model's program, as far as instructions look at it; reading and writing cells. -/
namespace Go.Proofs.Dl
variable {F : Nat → Prop}

/-! ## types -/
def fieldOf (P : Program) (s : TypeId) (f : Nat) : Option (Nat × TypeId) := match P.underlying s with
  | some (.struct fs) => (fs[f]?).map fun x => (x.offset, x.type)
  | _ => Option.none
def sliceOf (P : Program) (t : TypeId) : Option TypeId := match P.underlying t with | some (.slice e) => some e | _ => Option.none
def arrOf (P : Program) (t : TypeId) : Option (Nat × TypeId) := match P.underlying t with | some (.array n e) => some (n, e) | _ => Option.none
def mapOf (P : Program) (t : TypeId) : Option (TypeId × TypeId) := match P.underlying t with | some (.map k e) => some (k, e) | _ => Option.none
def aggOf (P : Program) (t : TypeId) : Option Bool := match P.underlying t with | some (.struct _) | some (.array _ _) => some true | some _ => some false | Option.none => Option.none
def intOf' (P : Program) (t : TypeId) : Option IntKind := match P.underlying t with | some (.int k) => some k | _ => Option.none
def isStr (P : Program) (t : TypeId) : Bool := match P.underlying t with | some .string => true | _ => false
def isBool (P : Program) (t : TypeId) : Bool := match P.underlying t with | some .bool => true | _ => false
def isPtr (P : Program) (t : TypeId) : Bool := match P.underlying t with | some (.pointer _) => true | _ => false
def isMap (P : Program) (t : TypeId) : Bool := match P.underlying t with | some (.map _ _) => true | _ => false
def szOf (P : Program) (t : TypeId) : Option Nat := (P.info? t).map (·.size)
def byOf (P : Program) (t : TypeId) : Option Nat := (P.info? t).map (·.bytes)
def zeroOf (P : Program) (t : TypeId) : Option (List Value) := ((P.info? t).bind (·.zero)).map (·.cells.toList)

section
variable {P : Program} {t : TypeId}
theorem fieldOf_spec {f off : Nat} {ft : TypeId} (h : fieldOf P t f = some (off, ft)) : ∃ fs x, P.underlying t = some (.struct fs) ∧ fs[f]? = some x ∧ x.offset = off ∧ x.type = ft := by
  unfold fieldOf at h
  split at h
  · rename_i fs hu
    cases hx : fs[f]? with
    | none => simp [hx] at h
    | some x => simp [hx] at h; exact ⟨fs, x, hu, hx, h.1, h.2⟩
  · cases h
theorem sliceOf_spec {e : TypeId} (h : sliceOf P t = some e) : P.underlying t = some (.slice e) := by
  unfold sliceOf at h; split at h
  · rename_i hu; cases h; exact hu
  · cases h
theorem arrOf_spec {n : Nat} {e : TypeId} (h : arrOf P t = some (n, e)) : P.underlying t = some (.array n e) := by
  unfold arrOf at h; split at h
  · rename_i hu; cases h; exact hu
  · cases h
theorem mapOf_spec {k e : TypeId} (h : mapOf P t = some (k, e)) : P.underlying t = some (.map k e) := by
  unfold mapOf at h; split at h
  · rename_i hu; cases h; exact hu
  · cases h
theorem intOf_spec {k : IntKind} (h : intOf' P t = some k) : P.underlying t = some (.int k) := by
  unfold intOf' at h; split at h
  · rename_i hu; cases h; exact hu
  · cases h
theorem isStr_spec (h : isStr P t = true) : P.underlying t = some .string := by unfold isStr at h; split at h <;> first | assumption | cases h
theorem isBool_spec (h : isBool P t = true) : P.underlying t = some .bool := by unfold isBool at h; split at h <;> first | assumption | cases h
theorem isPtr_spec (h : isPtr P t = true) : ∃ e, P.underlying t = some (.pointer e) := by unfold isPtr at h; split at h <;> first | exact ⟨_, ‹_›⟩ | cases h
theorem isMap_spec (h : isMap P t = true) : ∃ k e, P.underlying t = some (.map k e) := by unfold isMap at h; split at h <;> first | exact ⟨_, _, ‹_›⟩ | cases h
theorem szOf_spec {n : Nat} (h : szOf P t = some n) : ∃ i, P.info? t = some i ∧ i.size = n := by
  unfold szOf at h
  cases hi : P.info? t with
  | none => simp [hi] at h
  | some i => simp [hi] at h; exact ⟨i, rfl, h⟩
theorem zeroOf_spec {z : List Value} (h : zeroOf P t = some z) : ∃ i v, P.info? t = some i ∧ i.zero = some v ∧ v.cells.toList = z := by
  unfold zeroOf at h
  cases hi : P.info? t with
  | none => simp [hi] at h
  | some i =>
    cases hz : i.zero with
    | none => simp [hi, hz] at h
    | some v => simp [hi, hz] at h; exact ⟨i, v, rfl, hz, h⟩
theorem aggOf_run {b : Bool} (h : aggOf P t = some b) (w : World) : (isAgg t).run P w = .ok b w := by
  unfold aggOf at h
  unfold isAgg
  split at h
  · rename_i hu; cases h; rw [Sem.run_bind, run_underlying hu w]; rfl
  · rename_i hu; cases h; rw [Sem.run_bind, run_underlying hu w]; rfl
  · rename_i d hu h1 h2
    cases h
    rw [Sem.run_bind, run_underlying h2 w]
    cases d with
    | struct fs => exact absurd h2 (by simpa using hu fs)
    | array n e => exact absurd h2 (by simpa using h1 n e)
    | _ => rfl
  · cases h
theorem szOf_run {n : Nat} (h : szOf P t = some n) (w : World) : (sizeOf t).run P w = .ok n w := by
  obtain ⟨i, hi, rfl⟩ := szOf_spec h
  simp [sizeOf, typeInfo, hi]
theorem zeroOf_run {z : List Value} (h : zeroOf P t = some z) (w : World) : ∃ v, (zeroValue t).run P w = .ok v w ∧ v.cells.toList = z := by
  obtain ⟨i, v, hi, hz, he⟩ := zeroOf_spec h
  exact ⟨v, by simp [zeroValue, typeInfo, hi, hz], he⟩
end

/-! ## constants and operands -/
def mD : Dd → Value → Bool
  | .p (.bool b), .bool b' => b == b'
  | .p (.int k n), .int k' n' => k == k' && n == n'
  | .p (.str s), .string bs => s == bs.data.toList
  | .nil _, .slice Option.none 0 0 => true
  | .null, .pointer Option.none => true
  | .nullm, .map Option.none => true
  | .nullf, .nilFunc => true
  | _, _ => false
def mDs : List Dd → List Value → Bool
  | [], [] => true
  | d :: r, v :: s => mD d v && mDs r s
  | _, _ => false
def mV : Vv → Value → Bool
  | .one d, v => mD d v
  | .agg ds, .agg cs => mDs ds cs.toList
  | .tup [], .tuple cs => cs.size == 0
  | _, _ => false
def mO : Oo → Operand → Bool
  | .t n, .tmp m => n == m
  | .c v, .const x => mV v x
  | .c (.one (.fn f [])), .func g => f == g
  | _, _ => false

theorem mD_sound {φ : List G} {ok : Nat → Prop} {w : World} : ∀ {d : Dd} {v : Value}, mD d v = true → DR φ ok w d v := by
  intro d v h
  unfold mD at h
  split at h
  · have := eq_of_beq h; subst this; exact .p _ _ (.bool _)
  · simp only [Bool.and_eq_true, beq_iff_eq] at h; obtain ⟨rfl, rfl⟩ := h; exact .p _ _ (.int _ _)
  · rename_i s bs
    have := eq_of_beq h
    subst this
    have : bs = ⟨bs.data.toList.toArray⟩ := by simp
    rw [this]
    exact .p _ _ (.str _)
  · exact .nil _ _
  · exact .nullp
  · exact .nullm
  · exact .nullf
  · cases h
theorem mDs_sound {φ : List G} {ok : Nat → Prop} {w : World} : ∀ {ds : List Dd} {vs : List Value}, mDs ds vs = true → CR φ ok w ds vs
  | [], [], _ => CR.nil ..
  | d :: r, v :: s, h => by
    simp only [mDs, Bool.and_eq_true] at h
    exact CR.cons (mD_sound h.1) (mDs_sound h.2)
  | [], _ :: _, h => by simp [mDs] at h
  | _ :: _, [], h => by simp [mDs] at h
theorem mV_sound {φ : List G} {ok : Nat → Prop} {w : World} {x : Vv} {v : Value} (h : mV x v = true) : VR φ ok w x v := by
  unfold mV at h
  split at h
  · exact .one _ _ (mD_sound h)
  · exact .agg _ _ (mDs_sound h)
  · rename_i cs
    exact .tup [] cs (fun _ => .bool true) (by simpa using h) (fun i hi => by simp at hi) (fun i v hv => by simp at hv)
  · cases h

/-- The frame's slots. -/
def ER (φ : List G) (ok : Nat → Prop) (w : World) (e : Env) (tmps : Array Value) : Prop := ∀ n, VR φ ok w (getE e n) (tmps.getD n undef)
theorem mO_sound {φ : List G} {ok : Nat → Prop} {w : World} {e : Env} {a : Act} (E : ER φ ok w e a.tmps) {x : Oo} {o : Operand} (h : mO x o = true) : VR φ ok w (ev e x) (a.eval o) := by
  unfold mO at h
  split at h
  · have := eq_of_beq h; subst this; exact E _
  · exact mV_sound h
  · rename_i f g
    have := eq_of_beq h
    subst this
    exact .one _ _ (.fn f [] #[] (fun _ => .bool true) rfl (fun i hi => by simp at hi) (fun i d hi => by simp at hi))
  · cases h

/-! ## values -/
section
variable {φ : List G} {ok : Nat → Prop} {w : World}
theorem VR.int {k : IntKind} {n : Int} {v : Value} (h : VR φ ok w (.one (.p (.int k n))) v) : v = .int k n := by
  cases h with | one d v h => cases h with | p x v h => cases h; rfl
theorem VR.bool {b : Bool} {v : Value} (h : VR φ ok w (.one (.p (.bool b))) v) : v = .bool b := by
  cases h with | one d v h => cases h with | p x v h => cases h; rfl
theorem VR.str {s : List UInt8} {v : Value} (h : VR φ ok w (.one (.p (.str s))) v) : v = .string ⟨s.toArray⟩ := by
  cases h with | one d v h => cases h with | p x v h => cases h; rfl
theorem VR.cells {x : Vv} {ds : List Dd} {v : Value} (h : VR φ ok w x v) (hc : x.cells = some ds) : CR φ ok w ds v.cells.toList := by
  cases h with
  | top v => simp [Vv.cells] at hc
  | one d v h =>
    simp only [Vv.cells, Option.some.injEq] at hc; subst hc
    have := h.one
    have e : v.cells = #[v] := by cases v <;> first | rfl | (simp [Value.oneCell'] at this)
    rw [e]
    exact CR.cons h (CR.nil ..)
  | agg ds cs h => simp only [Vv.cells, Option.some.injEq] at hc; subst hc; exact h
  | tup _ _ _ _ _ _ => simp [Vv.cells] at hc
theorem asI_spec {x : Vv} {n : Int} {v : Value} (h : VR φ ok w x v) (hc : asI x = some n) : ∃ k, v = .int k n := by
  unfold asI at hc
  split at hc
  · cases hc; exact ⟨_, h.int⟩
  · cases hc
theorem VR.mk {ag : Bool} {ds : List Dd} {x : Vv} {cs : List Value} (h : CR φ ok w ds cs) (hx : Vv.mk ag ds = some x) :
    if ag then VR φ ok w x (.agg cs.toArray) else ∃ v, cs = [v] ∧ VR φ ok w x v := by
  unfold Vv.mk at hx
  cases ag with
  | true => simp only [if_true, Option.some.injEq] at hx ⊢; subst hx; exact .agg _ _ (by simpa using h)
  | false =>
    simp only [Bool.false_eq_true, if_false] at hx ⊢
    split at hx
    · cases hx
      obtain ⟨v, r, rfl, hd, hr⟩ := h.uncons
      have : r = [] := List.eq_nil_of_length_eq_zero hr.1
      subst this
      exact ⟨v, rfl, .one _ _ hd⟩
    · cases hx
end

/-! ## reading cells -/
theorem CR.pure {φ : List G} {ok : Nat → Prop} {w : World} {cs : List Pd} {us : List Value} (hl : us.length = cs.length) (h : ∀ (i : Nat) (c : Pd) (v : Value), cs[i]? = some c → us[i]? = some v → PR ok w c v) : CR φ ok w (cs.map .p) us := by
  refine ⟨by simp [hl], fun i d v hd hv => ?_⟩
  rw [List.getElem?_map] at hd
  cases hx : cs[i]? with
  | none => rw [hx] at hd; cases hd
  | some c => rw [hx] at hd; cases hd; exact .p _ _ (h i c v hx hv)

theorem cellsAt_sound {φ : List G} {σ : Store} {w : World} (R : Rel F φ σ w) {n : Nat} {a : Vv} {x : Value} (h : VR φ (Okb F φ σ w) w a x) {ds : List Dd} (hc : cellsAt σ n a = some ds) :
    ∃ b o cs, x = .pointer (some ⟨b, o, none⟩) ∧ w.rangeAt b o cs ∧ cs.length = n ∧ CR φ (Okb F φ σ w) w ds cs := by
  have range : ∀ (b o : Nat) (c : Array Value) (e : TypeId) (fr : Nat × Nat), w.heap[b]? = some (.cells c e fr) → w.rangeAt b o ((c.toList.drop o).take n) := by
    intro b o c e fr hb j v hv
    rw [cell_of_cells hb]
    rw [List.getElem?_take] at hv
    split at hv
    · rw [List.getElem?_drop] at hv; simpa using hv
    · cases hv
  unfold cellsAt at hc
  split at hc
  · -- a box
    rename_i l o
    cases h with | one d v h => cases h with | ptr l o g hg =>
    split at hc
    · rename_i cs hs
      split at hc
      · rename_i hle
        cases hc
        obtain ⟨c, e, h1, h2⟩ := R.obj l _ g hs hg.1
        exact ⟨g.b, o, _, rfl, range _ _ c e _ h1, by simp [h2.1]; omega, (h2.drop o).take n⟩
      · cases hc
    · cases hc
  · -- told by value
    rename_i cs
    cases h with | one d v h => cases h with | cptr cs b o us hb hm hp =>
    split at hc
    · rename_i hle
      cases hc
      refine ⟨b, o, (List.range n).map us, rfl, fun j v hv => ?_, by simp, CR.pure (by simp; omega) (fun i c v hc hv => ?_)⟩
      · rw [List.getElem?_map] at hv
        have hj : j < n := by
          rcases Nat.lt_or_ge j n with h | h
          · exact h
          · rw [List.getElem?_eq_none (by simpa using h)] at hv; cases hv
        rw [List.getElem?_range hj] at hv; cases hv
        exact hm j (by omega)
      · rw [List.getElem?_take] at hc
        split at hc
        · rename_i hi
          rw [List.getElem?_map, List.getElem?_range hi] at hv; cases hv
          exact hp i c hc
        · cases hc
    · cases hc
  · -- an element
    rename_i l sz i j
    cases h with | one d v h => cases h with | eptr l sz i j g hg =>
    split at hc
    · rename_i e sz' kc xs hs
      split at hc
      · rename_i hsz
        subst hsz
        split at hc
        · rename_i es hi
          split at hc
          · rename_i hle
            cases hc
            obtain ⟨h0, h1, h2, h3, h4⟩ := R.obj l _ g hs hg.1
            have hix : i < xs.length := (List.getElem?_eq_some_iff.1 hi).1
            obtain ⟨c, h5, h6, h7⟩ := h4 (by omega)
            obtain ⟨r1, r2⟩ := h7 i es hi
            refine ⟨g.b, i * sz + j, _, rfl, range _ _ c e _ h5, ?_, ?_⟩
            · have : (i + 1) * sz ≤ g.cap * sz := Nat.mul_le_mul_right _ (by omega)
              rw [Nat.add_mul] at this
              simp; omega
            · have := (r2.drop j).take n
              rw [List.drop_take, List.take_take, List.drop_drop] at this
              rwa [Nat.min_eq_left (by omega)] at this
          · cases hc
        · cases hc
      · cases hc
    · rename_i sz' xs hs
      split at hc
      · rename_i hsz
        subst hsz
        split at hc
        · rename_i es hi
          split at hc
          · rename_i hle
            cases hc
            obtain ⟨h1, h2, us, h3, h4, h5⟩ := R.obj l _ g hs hg.1
            have hix : i < xs.length := (List.getElem?_eq_some_iff.1 hi).1
            have hes := h3 i es hi
            refine ⟨g.b, i * sz + j, (List.range n).map fun k => us i (j + k), rfl, fun k v hv => ?_, by simp, CR.pure (by simp; omega) (fun k c v hc hv => ?_)⟩
            · rw [List.getElem?_map] at hv
              have hk : k < n := by
                rcases Nat.lt_or_ge k n with h | h
                · exact h
                · rw [List.getElem?_eq_none (by simpa using h)] at hv; cases hv
              rw [List.getElem?_range hk] at hv; cases hv
              have := h4 i (j + k) hix (by omega)
              rwa [Nat.add_assoc]
            · rw [List.getElem?_take] at hc
              split at hc
              · rename_i hk
                rw [List.getElem?_map, List.getElem?_range hk] at hv; cases hv
                rw [List.getElem?_drop] at hc
                exact h5 i es (j + k) c hi hc
              · cases hc
          · cases hc
        · cases hc
      · cases hc
    · cases hc
  · cases hc

end Go.Proofs.Dl

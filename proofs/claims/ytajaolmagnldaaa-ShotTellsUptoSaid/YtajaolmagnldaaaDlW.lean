/- A logic of plain data over the model, proved sound: part W; conditions stand in each theorem. -/
import Derived.Test.YtajaolmagnldaaaDlT
import Derived.ProofKit
import Derived.JoinedCond
import Derived.Deep.Slices
set_option linter.unusedVariables false
/-! From a statement's laid arguments to pure data. -/
namespace Go.Proofs.Dl
open Go.ChangeShapes Go.WideShapes Go.RowKit

section
variable {H : Type} {enc : TypeId × Value → H} {P : Program} {W : World}

/-- The cells cs read as the pure cells ps. -/
def CP (W : World) (ps : List Pd) (cs : List Value) : Prop := cs.length = ps.length ∧ ∀ (i : Nat) (p : Pd), ps[i]? = some p → ∃ v, cs[i]? = some v ∧ PR (fun b => b < W.heap.size) W p v

theorem CP.nil : CP W [] [] := ⟨rfl, fun i p h => by simp at h⟩
theorem CP.one {p : Pd} {v : Value} (h : PR (fun b => b < W.heap.size) W p v) : CP W [p] [v] := by
  refine ⟨rfl, fun i q hq => ?_⟩
  cases i with
  | zero => simp at hq; subst hq; exact ⟨v, rfl, h⟩
  | succ i => simp at hq
theorem CP.append {ps qs : List Pd} {cs ds : List Value} (h : CP W ps cs) (k : CP W qs ds) : CP W (ps ++ qs) (cs ++ ds) := by
  refine ⟨by simp [h.1, k.1], fun i p hp => ?_⟩
  rcases Nat.lt_or_ge i ps.length with hi | hi
  · rw [List.getElem?_append_left hi] at hp
    rw [List.getElem?_append_left (by rw [h.1]; exact hi)]
    exact h.2 i p hp
  · rw [List.getElem?_append_right hi] at hp
    rw [List.getElem?_append_right (by rw [h.1]; exact hi), h.1]
    exact k.2 _ p hp

/-- What reads of type t is a pure a, told by en; Q ties it to what was read. -/
def Opens (enc : TypeId × Value → H) (P : Program) (W : World) (t : TypeId) {α : Type} (en : α → List Pd) (Q : α → DataW H → Prop) : Prop :=
  ∀ (fuel : Nat) (cs : List Value) (x : DataW H × List MemPlace), DataW.trod enc P W 0 (fun _ => true) true fuel t cs = some x → ∃ a, Q a x.1 ∧ CP W (en a) cs

def QInt (k : IntKind) (n : Int) (d : DataW H) : Prop := d = .lit (.int k n) ∧ (Lit.int k n).wf = true
def QBool (b : Bool) (d : DataW H) : Prop := d = .lit (.bool b)
def QStr (s : List UInt8) (d : DataW H) : Prop := d = .lit (.string s) ∧ s.length ≤ maxLen
def QAll {α : Type} (Q : α → DataW H → Prop) : List α → List (DataW H) → Prop
  | [], [] => True
  | a :: l, d :: r => Q a d ∧ QAll Q l r
  | _, _ => False
def QSl {α : Type} (Q : α → DataW H → Prop) (l : List α) (d : DataW H) : Prop := (l = [] ∧ d = .nil) ∨ ∃ elems spare, d = .slice elems spare ∧ QAll Q l elems
def QAgg {α : Type} (Q : α → List (DataW H) → Prop) (a : α) (d : DataW H) : Prop := ∃ ds, d = .agg ds ∧ Q a ds

theorem QAll.length {α : Type} {Q : α → DataW H → Prop} : ∀ {l : List α} {r : List (DataW H)}, QAll Q l r → l.length = r.length
  | [], [], _ => rfl
  | _ :: l, _ :: r, h => by simp [QAll.length h.2]
  | [], _ :: _, h => h.elim
  | _ :: _, [], h => h.elim

theorem opens_int {t : TypeId} {k : IntKind} (ht : P.underlying t = some (.int k)) : Opens enc P W t (en_int k) (QInt k) := by
  intro fuel cs x h
  obtain ⟨n, rfl, rfl, hw⟩ := DataW.trod_int ht h
  exact ⟨n, ⟨rfl, hw⟩, .one (.int k n)⟩
theorem opens_bool {t : TypeId} (ht : P.underlying t = some .bool) : Opens enc P W t en_bool QBool := by
  intro fuel cs x h
  obtain ⟨b, rfl, rfl⟩ := DataW.trod_bool ht h
  exact ⟨b, rfl, .one (.bool b)⟩
theorem opens_str {t : TypeId} (ht : P.underlying t = some .string) : Opens enc P W t en_str QStr := by
  intro fuel cs x h
  obtain ⟨s, rfl, rfl, hl⟩ := DataW.trod_string ht h
  refine ⟨s.data.toList, ⟨rfl, by simpa using hl⟩, .one ?_⟩
  have := PR.str (ok := fun b => b < W.heap.size) (w := W) s.data.toList
  simpa using this
theorem Opens.map {t : TypeId} {α β : Type} {en : α → List Pd} {Q : α → DataW H → Prop} (h : Opens enc P W t en Q) {en' : β → List Pd} {Q' : β → DataW H → Prop} (g : α → β) (he : ∀ a, en' (g a) = en a) (hq : ∀ a d, Q a d → Q' (g a) d) : Opens enc P W t en' Q' := by
  intro fuel cs x hx
  obtain ⟨a, ha, hc⟩ := h fuel cs x hx
  exact ⟨g a, hq a _ ha, by rw [he]; exact hc⟩

/-- The fields fs of a struct of n cells, from cell off on. -/
def OpensF (enc : TypeId × Value → H) (P : Program) (W : World) (n : Nat) (fs : List (TypeId × Nat)) (off : Nat) {α : Type} (en : α → List Pd) (Q : α → List (DataW H) → Prop) : Prop :=
  ∀ (fuel : Nat) (cs : List Value) (xs : List (DataW H × List MemPlace)), cs.length = n → (fs.mapM fun f => DataW.trod enc P W 0 (fun _ => true) true fuel f.1 ((cs.drop f.2).take (P.cellsOf f.1))) = some xs →
    ∃ a, Q a (xs.map (·.1)) ∧ CP W (en a) (cs.drop off)

def QNil (_ : Unit) (ds : List (DataW H)) : Prop := ds = []
def QCons {α β : Type} (Q : α → DataW H → Prop) (R : β → List (DataW H) → Prop) (p : α × β) (ds : List (DataW H)) : Prop := ∃ d r, ds = d :: r ∧ Q p.1 d ∧ R p.2 r
theorem opensF_nil {n : Nat} : OpensF enc P W n [] n (fun _ : Unit => []) QNil := by
  intro fuel cs xs hn h
  simp at h
  subst h
  exact ⟨(), rfl, by rw [List.drop_of_length_le (by omega)]; exact .nil⟩
theorem opensF_cons {n off m : Nat} {t : TypeId} {fs : List (TypeId × Nat)} {α β : Type} {en : α → List Pd} {Q : α → DataW H → Prop} {en' : β → List Pd} {R : β → List (DataW H) → Prop}
    (hc : P.cellsOf t = m) (h : Opens enc P W t en Q) (k : OpensF enc P W n fs (off + m) en' R) : OpensF enc P W n ((t, off) :: fs) off (fun p : α × β => en p.1 ++ en' p.2) (QCons Q R) := by
  intro fuel cs xs hn hx
  subst hc
  rw [List.mapM_cons] at hx
  simp only [Option.pure_def, Option.bind_eq_bind, Option.bind_eq_some_iff, Option.some.injEq] at hx
  obtain ⟨y, hy, ys, hys, rfl⟩ := hx
  obtain ⟨a, ha, hca⟩ := h fuel _ y hy
  obtain ⟨b, hb, hcb⟩ := k fuel cs ys hn hys
  refine ⟨(a, b), ⟨y.1, ys.map (·.1), rfl, ha, hb⟩, ?_⟩
  have : cs.drop off = (cs.drop off).take (P.cellsOf t) ++ cs.drop (off + P.cellsOf t) := by
    rw [← List.drop_drop, List.take_append_drop]
  rw [this]
  exact hca.append hcb
def structOf (P : Program) (t : TypeId) : Option (List (TypeId × Nat)) := match P.underlying t with
  | some (.struct fs) => some (fs.toList.map fun f => (f.type, f.offset))
  | _ => none
theorem opens_struct {t : TypeId} {fs : List (TypeId × Nat)} {n : Nat} {α : Type} {en : α → List Pd} {Q : α → List (DataW H) → Prop} (ht : structOf P t = some fs) (hn : P.cellsOf t = n)
    (h : OpensF enc P W n fs 0 en Q) : Opens enc P W t en (QAgg Q) := by
  intro fuel cs x hx
  unfold structOf at ht
  split at ht
  case h_2 => cases ht
  rename_i fs0 heq
  obtain rfl := Option.some.inj ht
  cases fuel with
  | zero => simp [DataW.trod] at hx
  | succ fuel =>
    unfold DataW.trod at hx
    rw [heq] at hx
    simp only at hx
    split at hx
    · rename_i hl
      simp only [Option.map_eq_some_iff] at hx
      obtain ⟨xs, hxs, rfl⟩ := hx
      obtain ⟨a, ha, hc⟩ := h fuel cs xs (hl.trans hn) (by rw [List.mapM_map]; exact hxs)
      exact ⟨a, ⟨_, rfl, ha⟩, by simpa using hc⟩
    · cases hx
theorem qall_of {α : Type} {Q : α → DataW H → Prop} : ∀ (n : Nat) (A : Nat → α) (D : Nat → DataW H), (∀ i, i < n → Q (A i) (D i)) → QAll Q ((List.range n).map A) ((List.range n).map D) := by
  intro n
  induction n with
  | zero => intro A D h; trivial
  | succ n ih =>
    intro A D h
    rw [List.range_succ_eq_map]
    simp only [List.map_cons, List.map_map]
    exact ⟨h 0 (by omega), ih (A ∘ Nat.succ) (D ∘ Nat.succ) (fun i hi => h (i + 1) (by omega))⟩
theorem opens_slice {t e : TypeId} {sz : Nat} {α : Type} [Inhabited α] {en : α → List Pd} {Q : α → DataW H → Prop} (ht : P.underlying t = some (.slice e)) (hc : P.cellsOf e = sz) (hsz : 0 < sz) (hen : ∀ a, (en a).length = sz)
    (h : Opens enc P W e en Q) : Opens enc P W t (fun l : List α => [.sl sz (l.map en)]) (QSl Q) := by
  intro fuel cs x hx
  rcases Go.Deep.open_slice ht hx with ⟨rfl, rfl⟩ | ⟨a, len, cap, m, n, D, Pl, rfl, _, hlc, hcm, hm, rfl, hel⟩
  · refine ⟨[], .inl ⟨rfl, rfl⟩, .one ?_⟩
    exact .sl sz [] none 0 0 0 (fun _ _ => default) 0 rfl (by simp) (by simp) (by simp) (by simp) (by simp)
  · simp only [if_true] at hm
    subst hm
    rw [hc] at hel
    obtain ⟨A, hA⟩ := Go.Deep.choose_lt (α := α × List Value) (p := fun i p => W.cells? 0 (a.add (i * sz)) sz = some p.2 ∧ Q p.1 (D i) ∧ CP W (en p.1) p.2) (n := m) (fun i hi => by
      obtain ⟨cs', h1, h2⟩ := hel i hi
      obtain ⟨b, hb, hcb⟩ := h _ _ _ h2
      exact ⟨(b, cs'), h1, hb, hcb⟩)
    refine ⟨(List.range len).map fun i => (A i).1, .inr ⟨_, _, rfl, qall_of len _ D (fun i hi => (hA i (by omega)).2.1)⟩, .one ?_⟩
    have hlen : ((List.range len).map fun i => (A i).1).length = len := by simp
    have cell : ∀ i j, i < len → j < sz → W.cell? ⟨a.block, a.off + i * sz + j, none⟩ = (A i).2[j]? := by
      intro i j hi hj
      obtain ⟨_, hl, hcell⟩ := World.cells?_some (hA i (by omega)).1
      have := hcell j hj
      rw [← this, Go.Deep.add_add]
      have hsp : (a.add (i * sz + j)).spot = none := by
        have h2 := this
        rw [Go.Deep.add_add, List.getElem?_eq_getElem (show j < (A i).2.length by omega)] at h2
        unfold World.cell? at h2
        split at h2
        · split at h2
          · cases h2
          · rename_i hs; simpa using hs
        · cases h2
      have e : a.add (i * sz + j) = ⟨a.block, a.off + i * sz + j, none⟩ := by
        revert hsp
        obtain ⟨ab, ao, as⟩ := a
        unfold Addr.add
        generalize i * sz = m0
        split
        · rename_i h0
          intro hs
          simp only at hs
          subst hs
          rw [show ao + m0 + j = ao by omega]
        · intro _
          simp only
          rw [Nat.add_assoc]
      rw [e]
    have us : ∀ i j, i < len → j < sz → ∃ v, (A i).2[j]? = some v := by
      intro i j hi hj
      obtain ⟨_, hl, _⟩ := World.cells?_some (hA i (by omega)).1
      exact ⟨_, List.getElem?_eq_getElem (by omega)⟩
    refine .sl sz _ (some a) m a.block a.off (fun i j => ((A i).2[j]?).getD default) len (by simp) (by simpa using hlc) (fun hx => ?_) (fun i es he => ?_) (fun i j hi hj => ?_) (fun i es j c he hj => ?_)
    · have h0 : 0 < len := by
        cases len with
        | zero => simp at hx
        | succ n => omega
      obtain ⟨v, hv⟩ := us 0 0 h0 hsz
      have hcc := cell 0 0 h0 hsz
      rw [hv] at hcc
      have hs : a.spot = none := by
        obtain ⟨_, hl, hcell⟩ := World.cells?_some (hA 0 (by omega)).1
        have h2 := hcell 0 hsz
        rw [hv] at h2
        simp only [Nat.zero_mul, Addr.add, if_true] at h2
        unfold World.cell? at h2
        split at h2
        · split at h2
          · cases h2
          · rename_i hs; simpa using hs
        · cases h2
      refine ⟨by cases a; simp_all, ?_⟩
      exact World.block_lt_of_cell? W ⟨a.block, a.off + 0 * sz + 0, none⟩ hcc
    · rw [List.getElem?_map] at he
      cases hq : ((List.range len).map fun i => (A i).1)[i]? with
      | none => rw [hq] at he; cases he
      | some b => rw [hq] at he; cases he; exact hen b
    · simp only [List.length_map, List.length_range] at hi
      obtain ⟨v, hv⟩ := us i j hi hj
      rw [cell i j hi hj, hv]
      rfl
    · have hi : i < len := by
        have := (List.getElem?_eq_some_iff.1 he).1
        simpa using this
      have he' : es = en (A i).1 := by
        simp [List.getElem?_map, List.getElem?_range hi] at he
        exact he.symm
      subst he'
      obtain ⟨v, hv, hp⟩ := (hA i (by omega)).2.2.2 j c hj
      rw [hv]
      exact hp
end

/-! ## the end of a law -/
theorem rel_nil (W : World) : Rel (fun _ => False) [] [] W :=
  ⟨rfl, fun l o g h => by simp at h, fun l l' o o' g g' b h => by simp at h, fun b ⟨l, o, g, h, _⟩ => by simp at h, fun b h => h.elim⟩
theorem okb_nil {W : World} {b : Nat} (h : b < W.heap.size) : Okb (fun _ => False) [] [] W b := ⟨h, fun ⟨l, o, g, h, _⟩ => by simp at h, fun h => h⟩
theorem vr_pure {W : World} {p : Pd} {v : Value} (h : PR (fun b => b < W.heap.size) W p v) : VR [] (Okb (fun _ => False) [] [] W) W (.one (.p p)) v :=
  .one _ _ (.p _ _ (h.mono fun b hb => ⟨okb_nil hb, rfl⟩))
theorem vrs_nil {W : World} : VRs [] (Okb (fun _ => False) [] [] W) W [] [] := ⟨rfl, fun i x v h => by simp at h⟩
theorem vrs_cons {W : World} {x : Vv} {v : Value} {xs : List Vv} {vs : List Value} (h : VR [] (Okb (fun _ => False) [] [] W) W x v) (k : VRs [] (Okb (fun _ => False) [] [] W) W xs vs) : VRs [] (Okb (fun _ => False) [] [] W) W (x :: xs) (v :: vs) := by
  refine ⟨by simp [k.1], fun i y u hy hu => ?_⟩
  cases i with
  | zero => simp at hy hu; subst hy hu; exact h
  | succ i => exact k.2 i y u (by simpa using hy) (by simpa using hu)

section
variable {H : Type} {enc : TypeId × Value → H} {P : Program}
theorem trodAll_stays (hl : laidOutB P = true) {W W' : World} {sp : Nat → Bool} : ∀ {ts : List TypeId} {vs : List Value} {ds : List (DataW H)} {ps : List MemPlace}, (∀ t ∈ ts, P.readableRec t = true ∧ t < P.types.size) →
    DataW.TrodAll enc P W 0 (fun _ => true) true ts vs ds ps → (∀ p ∈ ps, W.sameAt W' p) → (∀ p ∈ ps, sp p.block = true) → DataW.TrodAll enc P W' 0 sp true ts vs ds ps
  | [], _, _, _, _, h, _, _ => by
    obtain ⟨rfl, rfl, rfl⟩ := trodAll_nil h
    exact trodAll_mk0
  | t :: ts, _, _, _, hr, h, hs, hp => by
    obtain ⟨v, vs1, d, ds1, a, b, rfl, rfl, rfl, h1, h2⟩ := trodAll_cons h
    have hr0 := hr t (List.mem_cons_self ..)
    exact ⟨a, b, Go.WideElems.Trod_stays hl hr0.1 hr0.2 h1 (fun p hq => hs p (List.mem_append_left _ hq)) (fun p hq => hp p (List.mem_append_left _ hq)),
      trodAll_stays hl (fun t ht => hr t (List.mem_cons_of_mem _ ht)) h2 (fun p hq => hs p (List.mem_append_right _ hq)) (fun p hq => hp p (List.mem_append_right _ hq)), rfl⟩

/-- A law that answers true, and leaves what it was given as it was. -/
theorem law_calls {f : FuncId} {fn : Func} {s : ChangeSpec} {apart fresh handsOn again : Bool} {W : World} {args : Array Value} {ds gs : List (DataW H)} {before : List MemPlace} {tb : TypeId} {As : List Vv}
    (hl : laidOutB P = true) (hrd : ∀ t ∈ fn.params.toList, P.readableRec t = true ∧ t < P.types.size) (hv : s.vars = []) (hrt : fn.resultTypes = #[tb]) (htb : P.underlying tb = some .bool)
    (hW : DataW.Whole enc P fn.params.toList s.vars apart W args.toList ds gs before)
    (hs : (s.fn H (ds ++ gs)).results = [.lit (.bool true)] ∧ (s.fn H (ds ++ gs)).args = ds ∧ (s.fn H (ds ++ gs)).vars = [])
    (hok : Ok P f As [] (.one (.p (.bool true))) []) (hargs : VRs [] (Okb (fun _ => False) [] [] W) W As args.toList) :
    Calls P f args W fun e W' => ∃ v, e = .returned v ∧ s.post enc P fn apart fresh handsOn again W args v W' := by
  refine (hok.2 (fun _ => False) [] W args (rel_nil W) hargs).mono ?_
  rintro e W' ⟨v, φ', rfl, hvr, hR, hA⟩
  refine ⟨v, rfl, ?_⟩
  obtain rfl : v = .bool true := by
    cases hvr with
    | one d v h => cases h with
      | p x v h => cases h; rfl
  have hB : Below W.heap.size W W' := ⟨hA.kept.os, hA.kept.tape, hA.kept.output, hA.kept.size, fun b hb => hA.kept.block b hb (fun ⟨l, o, g, h, _⟩ => by simp at h)⟩
  have hlt := hW.lt
  obtain ⟨p, q, hT, hV, rfl, hz, hn⟩ := hW
  have hV0 : gs = [] ∧ q = [] := by rw [hv] at hV; exact trodVars_none hV
  obtain ⟨rfl, rfl⟩ := hV0
  have hsame : ∀ x ∈ p, W.sameAt W' x := fun x hx => hB.same (hlt x (List.mem_append_left _ hx))
  have hT1 := trodAll_stays (W' := W') (sp := fun b => decide (b < W.heap.size)) hl hrd hT hsame (fun x hx => by simpa using hlt x (List.mem_append_left _ hx))
  have hT2 := trodAll_stays (W' := W') (sp := fun _ => true) hl hrd hT hsame (fun x hx => rfl)
  have res : ∀ (b : Nat) (sp : Nat → Bool) (hd : Bool), DataW.TrodAll enc P W' b sp hd fn.resultTypes.toList ((Value.bool true).resultList fn.resultTypes.size) [.lit (.bool true)] [] := by
    intro b sp hd
    rw [hrt]
    exact trodAll_mk1 (shut_bool htb true)
  refine ⟨ds, [], p ++ [], [], p, [], ⟨p, [], hT, hV, rfl, hz, hn⟩, by rw [hs.1]; exact res _ _ _, by rw [hs.2.1]; exact hT1, by rw [hs.2.2, hv]; rfl, hB.frame _, fun _ => ?_⟩
  refine ⟨ok_one hrt rfl (okWide_bool_mk htb true), .lit (.bool true) :: ds, [], p, ⟨p, [], ?_, by rw [hv]; rfl, by simp, ?_, ?_⟩, fun x hx _ => by simpa using hx⟩
  · exact trodAll_append hT2 (res _ _ _)
  · intro b off hx
    rw [hB.frozen (hlt _ (List.mem_append_left _ hx))]
    exact hz b off (List.mem_append_left _ hx)
  · intro h
    simpa using hn h
end
end Go.Proofs.Dl
namespace Go.Proofs.Dl
open Go.ChangeShapes Go.WideShapes Go.RowKit
section
variable {H : Type} {enc : TypeId × Value → H} {P : Program} {W : World}
theorem one_slice {b0 : Nat} {t e : TypeId} {v : Value} (ht : P.underlying t = some (.slice e)) (hv : Value.okWide P W .any b0 t v) : v.cells.toList = [v] := by
  cases v <;> simp [Value.okWide, ht, Cell.okWide, Cell.ok] at hv <;> rfl
theorem one_int {b0 : Nat} {t : TypeId} {k : IntKind} {v : Value} (ht : P.underlying t = some (.int k)) (hv : Value.okWide P W .any b0 t v) : v.cells.toList = [v] := by
  cases v <;> simp [Value.okWide, ht, Cell.okWide, Cell.ok] at hv <;> rfl
theorem one_bool {b0 : Nat} {t : TypeId} {v : Value} (ht : P.underlying t = some .bool) (hv : Value.okWide P W .any b0 t v) : v.cells.toList = [v] := by
  cases v <;> simp [Value.okWide, ht, Cell.okWide, Cell.ok] at hv <;> rfl
theorem one_string {b0 : Nat} {t : TypeId} {v : Value} (ht : P.underlying t = some .string) (hv : Value.okWide P W .any b0 t v) : v.cells.toList = [v] := by
  cases v <;> simp [Value.okWide, ht, Cell.okWide, Cell.ok] at hv <;> rfl
theorem arg_one {p : Pd} {v : Value} (h : CP W [p] [v]) : VR [] (Okb (fun _ => False) [] [] W) W (.one (.p p)) v := by
  obtain ⟨u, hu, hp⟩ := h.2 0 p rfl
  obtain rfl : v = u := by simpa using hu
  exact vr_pure hp
/-- An argument of one cell: what it reads as, and how it stands to the data. -/
theorem arg_open {t : TypeId} {α : Type} {en : α → Pd} {Q : α → DataW H → Prop} {v : Value} {d : DataW H} {ps : List MemPlace} (h : DataW.Trod enc P W 0 (fun _ => true) true t v d ps) (hv : v.cells.toList = [v])
    (ho : Opens enc P W t (fun a => [en a]) Q) : ∃ a, Q a d ∧ VR [] (Okb (fun _ => False) [] [] W) W (.one (.p (en a))) v := by
  obtain ⟨fuel, h⟩ := h
  rw [hv] at h
  obtain ⟨a, hq, hc⟩ := ho fuel _ _ h
  exact ⟨a, hq, arg_one hc⟩
end
end Go.Proofs.Dl

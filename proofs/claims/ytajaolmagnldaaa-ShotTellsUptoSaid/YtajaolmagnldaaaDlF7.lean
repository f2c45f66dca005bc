/- A logic of plain data over the model, proved sound: part F7; conditions stand in each theorem. -/
import Derived.Test.YtajaolmagnldaaaDlF6
set_option linter.unusedVariables false
namespace Go.Proofs.Dl
variable {F : Nat → Prop}

/-! ## build: parts into cells -/
theorem fold_set (off : Nat) : ∀ (vs : List Value) (n : Nat) (cells : Array Value), off + n + vs.length ≤ cells.size →
    ((vs.zipIdx n).foldl (fun cs (x : Value × Nat) => cs.setIfInBounds (off + x.2) x.1) cells).toList = cells.toList.take (off + n) ++ vs ++ cells.toList.drop (off + n + vs.length)
  | [], n, cells, _ => by simp
  | v :: r, n, cells, h => by
    simp only [List.length_cons] at h
    simp only [List.zipIdx_cons, List.foldl_cons]
    rw [fold_set off r (n + 1) _ (by simp; omega)]
    have e := list_seg_step cells.toList (off + n) v r (by simp; omega)
    rw [Array.toList_setIfInBounds]
    have a1 : off + (n + 1) = off + n + 1 := by omega
    have a2 : off + n + (r.length + 1) = off + n + 1 + r.length := by omega
    rw [a1, List.length_cons, a2]
    rw [show off + n + (r.length + 1) = off + n + 1 + r.length from a2] at e
    exact e
theorem fill_one (place : Nat → Option (Nat × Nat)) (cells : Array Value) (i off n : Nat) (v : Value) (rest : List (Nat × Value)) (hp : place i = some (off, n)) (hs : v.cells.size = n) (hle : off + n ≤ cells.size) :
    ∃ cells' : Array Value, Instr.fill place cells ((i, v) :: rest) = Instr.fill place cells' rest ∧ cells'.toList = cells.toList.take off ++ v.cells.toList ++ cells.toList.drop (off + n) := by
  refine ⟨v.cells.zipIdx.foldl (fun cs (x : Value × Nat) => cs.setIfInBounds (off + x.2) x.1) cells, ?_, ?_⟩
  · have h1 : ¬ (off + v.cells.size > cells.size) := by omega
    simp only [Instr.fill, hp, hs, ne_eq, not_true_eq_false]
    rw [if_neg (by simp; omega)]
  · rw [← Array.foldl_toList, Array.toList_zipIdx]
    have := fold_set off v.cells.toList 0 cells (by simp; omega)
    simp only [Nat.add_zero, Array.length_toList, hs] at this
    exact this

section
variable {P : Program} {φ : List G} {ok : Nat → Prop} {w : World}

theorem build_sound {ρ : Oo → Vv} {a : Act} {t : TypeId} (hv : ∀ x o, mO x o = true → VR φ ok w (ρ x) (a.eval o)) (place : Nat → Option (Nat × Nat))
    (hpl : ∀ f off ft n, fieldOf P t f = some (off, ft) → szOf P ft = some n → place f = some (off, n)) :
    ∀ (parts : List (Nat × Nat × Oo)) (ps : List (Nat × Operand)) (zs ds : List Dd) (cells : Array Value), mParts P t parts ps = true → buildV ρ zs parts = some ds → CR φ ok w zs cells.toList →
      ∃ cells', Instr.fill place cells (ps.map fun (i, x) => (i, a.eval x)) = some cells' ∧ CR φ ok w ds cells'.toList
  | [], [], zs, ds, cells, _, h, hc => by
    simp only [buildV, Option.some.injEq] at h; subst h
    exact ⟨cells, rfl, hc⟩
  | [], _ :: _, zs, ds, cells, hm, _, _ => by simp [mParts] at hm
  | _ :: _, [], zs, ds, cells, hm, _, _ => by simp [mParts] at hm
  | (off, n, x) :: r, (f, o) :: s, zs, ds, cells, hm, h, hc => by
    simp only [mParts, Bool.and_eq_true] at hm
    obtain ⟨⟨h1, h2⟩, h3⟩ := hm
    split at h1
    · rename_i off' ft hf
      simp only [Bool.and_eq_true, beq_iff_eq] at h1
      obtain ⟨rfl, hsz⟩ := h1
      simp only [buildV] at h
      split at h
      · rename_i vs hvs
        split at h
        · rename_i hh
          obtain ⟨e1, e2⟩ := hh
          have hcr := (hv x o h2).cells hvs
          have hvl : (a.eval o).cells.size = n := by have := hcr.1; simp at this; omega
          have hcl := hc.1
          simp at hcl
          obtain ⟨cells1, k1, k2⟩ := fill_one place cells f off n (a.eval o) (s.map fun (i, x) => (i, a.eval x)) (hpl f off ft n hf hsz) hvl (by omega)
          simp only [List.map_cons]
          rw [k1]
          refine build_sound hv place hpl r s _ ds cells1 h3 h ?_
          rw [k2]
          have := hc.put hcr off (by omega)
          simp only [Array.length_toList, hvl] at this
          exact this
        · cases h
      · cases h
    · cases h1

theorem run_build {ρ : Oo → Vv} {a : Act} {t : TypeId} (hv : ∀ x o, mO x o = true → VR φ ok w (ρ x) (a.eval o)) {zs ds : List Dd} {parts : List (Nat × Nat × Oo)} {ps : Array (Nat × Operand)} (hb : buildV ρ zs parts = some ds)
    {z : List Value} (hz : zeroOf P t = some z) (hzs : mDs zs z = true) (hm : mParts P t parts ps.toList = true) {fs : Array Field} (hu : P.underlying t = some (.struct fs)) (hall : ∀ f ∈ fs, (szOf P f.type).isSome = true) :
    ∃ r, (Instr.build t (ps.map fun (i, x) => (i, a.eval x))).run P w = .ok r w ∧ VR φ ok w (.agg ds) r := by
  obtain ⟨ti, zv, hz0, hz1, hz2⟩ := zeroOf_spec hz
  have hplaces : ∀ fl : List Field, (∀ f ∈ fl, (szOf P f.type).isSome = true) → fl.mapM (fun f => (P.info? f.type).map fun i => (f.offset, i.size)) = some (fl.map fun f => (f.offset, (szOf P f.type).getD 0)) := by
    intro fl
    induction fl with
    | nil => intro _; rfl
    | cons f r ih =>
      intro h
      obtain ⟨n, hn⟩ := Option.isSome_iff_exists.1 (h f (by simp))
      obtain ⟨i, hi, rfl⟩ := szOf_spec hn
      have := ih (fun g hg => h g (by simp [hg]))
      rw [List.mapM_cons, this]
      simp [hi, hn]
  have hpl := hplaces fs.toList (fun f hf => hall f (by simpa using hf))
  obtain ⟨cells', h1, h2⟩ := build_sound (P := P) (t := t) (φ := φ) (ok := ok) (w := w) hv (fun i => ((fs.toList.map fun f => (f.offset, (szOf P f.type).getD 0)).toArray)[i]?) (fun f off ft n hf hn => by
    obtain ⟨fs', fd, u1, u2, u3, u4⟩ := fieldOf_spec hf
    rw [hu] at u1; cases u1
    simp [u2, u3, u4, hn]) parts ps.toList zs ds zv.cells hm hb (by rw [hz2]; exact mDs_sound hzs)
  refine ⟨.agg cells', ?_, .agg _ _ h2⟩
  have h1' : Instr.fill (fun x => ((fs.toList.map fun f => (f.offset, (szOf P f.type).getD 0)).toArray)[x]?) zv.cells (ps.map fun (i, x) => (i, a.eval x)).toList = some cells' := by
    rw [Array.toList_map]; exact h1
  simp only [List.getElem?_toArray] at h1'
  simp [Instr.build, run_underlying hu, typeInfo, zeroValue, hz0, hz1, Array.mapM_eq_mapM_toList, run_places w _ _ hpl]
  simp at h1'
  rw [h1']
  rfl
end
end Go.Proofs.Dl

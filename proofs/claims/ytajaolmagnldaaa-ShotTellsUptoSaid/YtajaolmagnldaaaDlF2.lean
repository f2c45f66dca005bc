/- A logic of plain data over the model, proved sound: part F2; conditions stand in each theorem. -/
import Derived.Test.YtajaolmagnldaaaDlF
set_option linter.unusedVariables false
namespace Go.Proofs.Dl
variable {F : Nat → Prop}

/-! ## writing cells -/
theorem put_get {α : Type} (c vs : List α) (p : Nat) (h : p + vs.length ≤ c.length) (k : Nat) :
    (c.take p ++ vs ++ c.drop (p + vs.length))[k]? = if p ≤ k ∧ k < p + vs.length then vs[k - p]? else c[k]? := by
  by_cases h1 : k < p
  · rw [List.append_assoc, List.getElem?_append_left (by simp; omega), List.getElem?_take, if_pos h1, if_neg (by omega)]
  · by_cases h2 : k < p + vs.length
    · rw [if_pos ⟨by omega, h2⟩, List.append_assoc, List.getElem?_append_right (by simp; omega), List.getElem?_append_left (by simp; omega)]
      congr 1
      simp; omega
    · rw [if_neg (by omega), List.getElem?_append_right (by simp; omega), List.getElem?_drop]
      congr 1
      simp; omega
theorem put_length {α : Type} (c vs : List α) (p : Nat) (h : p + vs.length ≤ c.length) : (c.take p ++ vs ++ c.drop (p + vs.length)).length = c.length := by
  simp; omega

theorem CR.put {φ : List G} {ok : Nat → Prop} {w : World} {cs ds : List Dd} {c vs : List Value} (h : CR φ ok w cs c) (k : CR φ ok w ds vs) (o : Nat) (hle : o + ds.length ≤ cs.length) :
    CR φ ok w (putCells cs o ds) (c.take o ++ vs ++ c.drop (o + vs.length)) := by
  have hl := h.1
  have kl := k.1
  refine ⟨?_, fun i d v hd hv => ?_⟩
  · rw [put_length _ _ _ (by omega)]; unfold putCells; rw [put_length _ _ _ hle]; exact hl
  · unfold putCells at hd
    rw [put_get _ _ _ hle] at hd
    rw [put_get _ _ _ (by omega)] at hv
    rw [kl] at hv
    split at hd
    · rename_i hh; rw [if_pos hh] at hv; exact k.2 _ d v hd hv
    · rename_i hh; rw [if_neg hh] at hv; exact h.2 _ d v hd hv

section
variable {P : Program} {o : Oper} {a : Act} {φ : List G} {σ : Store} {w : World} {en : Env}

theorem kept_setRow (w : World) (b : Nat) (c : Array Value) : Kept (fun x => x = b) w (w.setRow b c) :=
  ⟨rfl, rfl, rfl, by simp, fun x hx hn => setRow_other w b x c hn⟩

theorem run_storeVar_at {t : TypeId} {b off : Nat} {v : Value} {cs : List Value} {c : Array Value} {e : TypeId} (hs : szOf P t = some cs.length) (hv : v.cells.toList = cs) (hg : w.heap[b]? = some (.cells c e (0, 0)))
    (hle : off + cs.length ≤ c.size) (h1 : ∀ u ∈ cs, u.oneCell' = true) :
    (storeVar t ⟨b, off, none⟩ v).run P w = .ok () (w.setRow b (c.toList.take off ++ cs ++ c.toList.drop (off + cs.length)).toArray) := by
  have hst := run_storeCells_at P b off e cs 0 c w hg (by simpa using hle) h1
  simp only [Nat.add_zero] at hst
  have hsz : v.cells.size = cs.length := by rw [← hv]; simp
  simp only [storeVar, Sem.run_bind, szOf_run hs w, Result.andThen_ok, hsz, ne_eq, not_true_eq_false, if_false, hv]
  exact hst

theorem RowIn.put {ok : Nat → Prop} {sz : Nat} {xs : List (List Dd)} {c vs : List Value} (h : RowIn φ ok w sz xs c) {i j : Nat} {es ds : List Dd} (hi : xs[i]? = some es) (k : CR φ ok w ds vs) (hj : j + ds.length ≤ es.length)
    (hlen : (i + 1) * sz ≤ c.length) : RowIn φ ok w sz (xs.set i (putCells es j ds)) (c.take (i * sz + j) ++ vs ++ c.drop (i * sz + j + vs.length)) := by
  obtain ⟨e1, e2⟩ := h i es hi
  have kl := k.1
  have hm : (i + 1) * sz = i * sz + sz := by rw [Nat.add_mul]; omega
  have hlt : i < xs.length := (List.getElem?_eq_some_iff.1 hi).1
  intro i' es' hi'
  by_cases e : i' = i
  · subst e
    rw [List.getElem?_set_self hlt] at hi'
    cases hi'
    refine ⟨by unfold putCells; rw [put_length _ _ _ hj]; exact e1, ?_⟩
    have := e2.put k j hj
    refine ⟨by rw [← this.1]; simp; omega, fun q d v hd hv => this.2 q d v hd ?_⟩
    rw [List.getElem?_take] at hv
    split at hv
    · rename_i hq
      rw [List.getElem?_drop, put_get _ _ _ (by omega)] at hv
      rw [put_get _ _ _ (by simp; omega), List.getElem?_take, if_pos hq, List.getElem?_drop]
      by_cases hh : j ≤ q ∧ q < j + vs.length
      · rw [if_pos (by omega)] at hv
        rw [if_pos hh, ← hv]
        congr 1; omega
      · rw [if_neg (by omega)] at hv
        rw [if_neg hh]; exact hv
    · cases hv
  · rw [List.getElem?_set_ne (Ne.symm e)] at hi'
    obtain ⟨f1, f2⟩ := h i' es' hi'
    refine ⟨f1, by rw [← f2.1]; simp; omega, fun q d v hd hv => f2.2 q d v hd ?_⟩
    rw [List.getElem?_take] at hv ⊢
    split at hv
    · rename_i hq
      rw [if_pos hq]
      rw [List.getElem?_drop, put_get _ _ _ (by omega)] at hv
      rw [List.getElem?_drop]
      rw [if_neg] at hv
      · exact hv
      · rintro ⟨g1, g2⟩
        rcases Nat.lt_or_gt_of_ne e with h' | h'
        · have : (i' + 1) * sz ≤ i * sz := Nat.mul_le_mul_right _ (by omega)
          rw [Nat.add_mul] at this; omega
        · have : (i + 1) * sz ≤ i' * sz := Nat.mul_le_mul_right _ (by omega)
          omega
    · cases hv

theorem set_self {α : Type} {l : List α} {i : Nat} {x : α} (h : l[i]? = some x) : l.set i x = l := by
  apply List.ext_getElem?
  intro j
  by_cases e : j = i
  · subst e; rw [List.getElem?_set_self (List.getElem?_eq_some_iff.1 h).1, h]
  · rw [List.getElem?_set_ne (Ne.symm e)]

theorem storeV_sound (R : Rel F φ σ w) {n : Nat} {x v : Vv} {σ' : Store} (h : storeV σ n x v = some σ') {vx vv : Value} (hx : VR φ (Okb F φ σ w) w x vx) (hv : VR φ (Okb F φ σ w) w v vv)
    {t : TypeId} (hs : szOf P t = some n) : ∃ w', (Instr.storeAt t vx vv).run P w = .ok () w' ∧ Rel F φ σ' w' ∧ Adv [] φ σ w φ σ' w' := by
  unfold storeV at h
  split at h
  · rename_i ds hds
    have hc := hv.cells hds
    split at h
    · rename_i hn
      subst hn
      split at h
      · -- a box
        rename_i l off
        cases hx with | one d v' hd => cases hd with | ptr l off g hgA =>
        have hg := hgA.1
        split at h
        · rename_i cs hsl
          split at h
          · rename_i hle
            cases h
            obtain ⟨c, e, h1, h2⟩ := R.obj l _ g hsl hg
            have hcl : vv.cells.toList.length = ds.length := hc.1
            have hrun := run_storeVar_at (P := P) (t := t) (v := vv) (cs := vv.cells.toList) (w := w) (off := off) (by rw [hcl]; exact hs) rfl h1 (by have := h2.1; simp at this; omega) hc.one
            refine ⟨_, by simp only [Instr.storeAt, Instr.sureAddr, Sem.run_bind, Sem.run_pure, Result.andThen_ok]; exact hrun, ?_⟩
            have := R.upd (w' := w.setRow g.b (c.toList.take off ++ vv.cells.toList ++ c.toList.drop (off + vv.cells.toList.length)).toArray) [] l (.box cs) (.box (putCells cs off ds)) g g hsl hg (.inr (.inl rfl)) (by simp)
              (by
                have k := kept_setRow w g.b (c.toList.take off ++ vv.cells.toList ++ c.toList.drop (off + vv.cells.toList.length)).toArray
                exact ⟨k.os, k.tape, k.output, k.size, fun b hb hn => k.block b hb (fun q => hn q.symm)⟩)
              (fun b hb => .inl hb) (fun M => by
                rw [obkill_nil]
                refine ⟨_, e, setRow_heap w g.b c _ e _ h1, ?_⟩
                have := (h2.still M).put (hc.still M) off hle
                simpa using this)
            rw [set_self hg, killS_nil] at this
            exact this
          · cases h
        · cases h
      · -- an element of a row
        rename_i l sz i j
        cases hx with | one d v' hd => cases hd with | eptr l sz i j g hgA =>
        have hg := hgA.1
        split at h
        · rename_i e sz' kc xs hsl
          split at h
          · rename_i hsz; subst hsz
            split at h
            · rename_i es hi
              split at h
              · rename_i hle
                split at h
                · rename_i ds' σ1 hset
                  obtain ⟨R1, C1, A1⟩ := settle_sound ds R hc hset
                  split at h
                  · rename_i e1 sz1 kc1 xs1 hsl1
                    cases h
                    obtain ⟨h0, h1, h2, h3, h4⟩ := R1.obj l _ g hsl1 hg
                    -- the row is as it was
                    have same : Ob.row e1 sz1 kc1 xs1 = Ob.row e sz kc xs := by
                      have := settle_row l ds hset hsl1
                      rw [hsl] at this; cases this; rfl
                    cases same
                    have hix : i < xs.length := (List.getElem?_eq_some_iff.1 hi).1
                    obtain ⟨c, h5, h6, h7⟩ := h4 (by omega)
                    have hcl : vv.cells.toList.length = ds'.length := C1.1
                    have hdl : ds'.length = ds.length := by rw [← hcl]; exact hc.1
                    have hes := (h7 i es hi).1
                    have hm : (i + 1) * sz ≤ g.cap * sz := Nat.mul_le_mul_right _ (by omega)
                    have hm2 : (i + 1) * sz = i * sz + sz := by rw [Nat.add_mul]; omega
                    have hrun := run_storeVar_at (P := P) (t := t) (v := vv) (cs := vv.cells.toList) (w := w) (off := i * sz + j) (by rw [hcl, hdl]; exact hs) rfl h5 (by omega) C1.one
                    refine ⟨_, by simp only [Instr.storeAt, Instr.sureAddr, Sem.run_bind, Sem.run_pure, Result.andThen_ok]; exact hrun, ?_⟩
                    have := R1.upd (w' := w.setRow g.b (c.toList.take (i * sz + j) ++ vv.cells.toList ++ c.toList.drop (i * sz + j + vv.cells.toList.length)).toArray) [] l _ (.row e sz kc (xs.set i (putCells es j ds'))) g g hsl1 hg (.inr (.inl rfl)) (by simp)
                      (by
                        have k := kept_setRow w g.b (c.toList.take (i * sz + j) ++ vv.cells.toList ++ c.toList.drop (i * sz + j + vv.cells.toList.length)).toArray
                        exact ⟨k.os, k.tape, k.output, k.size, fun b hb hn => k.block b hb (fun q => hn ⟨by omega, q.symm⟩)⟩)
                      (fun b hb => .inl hb) (fun M => by
                        rw [obkill_nil]
                        rw [set_self hg] at M ⊢
                        have hcl2 : vv.cells.size = ds'.length := by simpa using hcl
                        refine ⟨h0, h1, by simpa using h2, h3, fun _ => ⟨_, setRow_heap w g.b c _ _ _ h5, ?_, ?_⟩⟩
                        · simp only [List.size_toArray]
                          rw [put_length _ _ _ (by simp; omega)]; simpa using h6
                        · have h7' : RowIn φ _ _ sz xs c.toList := fun q es' hq => ⟨(h7 q es' hq).1, (h7 q es' hq).2.still M⟩
                          have := h7'.put (ds := ds') (j := j) hi (C1.still M) (by omega) (by simp; omega)
                          simpa using this)
                    rw [set_self hg, killS_nil] at this
                    exact ⟨this.1, by simpa using A1.trans this.2⟩
                  · cases h
                · cases h
              · cases h
            · cases h
          · cases h
        · cases h
      · cases h
    · cases h
  · cases h
end
end Go.Proofs.Dl

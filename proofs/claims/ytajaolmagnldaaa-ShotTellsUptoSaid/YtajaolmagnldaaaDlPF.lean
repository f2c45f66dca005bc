/- A logic of plain data over the model, proved sound: part PF; conditions stand in each theorem. -/
import Derived.Test.YtajaolmagnldaaaDlPE
set_option maxRecDepth 100000
set_option linter.unusedVariables false
set_option linter.unusedSimpArgs false
/-! A node is put in, and told its words. -/
namespace Go.Proofs.Ga
open Go.Proofs.Dl
namespace PA
open Fo
theorem set' {n v : arena_Node} {m : M} (h : asc m n.Id = some v) (hn : okN n) (hv : okN v) :
    ∃ w, okN w ∧ w.Id = v.Id ∧ w.Parent = n.Parent ∧ w.Kids = n.Kids ∧ w.Kind = v.Kind ∧ Ev (fun k => arena_Arena_Set.f k n m) (0, aput m n.Id w) := by
  obtain ⟨r, hr, er⟩ := set h hn
  exact ⟨⟨v.Id, v.Owner, r.Parent, v.Kind, v.Tag, v.Key, v.Slot, r.Attrs, r.Hooks, r.Kids, r.Text⟩, ⟨hv.tag, hr.1.text, hr.1.attrs, hr.1.hooks, hr.1.kids⟩, rfl, hr.2.2.2.1, hr.2.2.2.2.2.2.2.2.1, rfl, er⟩
theorem insL_end (l : List Int) (c : Int) : insL l (l.length : Int) [c] = l ++ [c] := by
  unfold insL
  simp
/-- into a node of the forest, at its end -/
theorem insert (m : M) (P : List Int) (hP : up m P) (hl : P.length < 1000) (hno : asc m (-1) = none) {a c : Int} (ha : a ∈ P) (hc : c ∉ P) (hc0 : 0 < c) {n nc : arena_Node} (h1 : asc m a = some n) (hkn : n.Kids.length < 1000) (h2 : asc m c = some nc) (oc : okN nc) (pc : nc.Parent = -1) (kc : nc.Kids = []) (ic : nc.Id = c)
    {g : arena_Node} (hg : like n g) (eg : Ev (fun k => arena_Arena_Get.f k a m) (g, true)) :
    (Ev (fun k => dom_Insert.f k a (g.Kids.length : Int) c m) (12, m)) ∨
    ∃ m' n' c', Ev (fun k => dom_Insert.f k a (g.Kids.length : Int) c m) (0, m') ∧ asc m' a = some n' ∧ okN n' ∧ n'.Kids = n.Kids ++ [c] ∧ n'.Id = a ∧ n'.Parent = n.Parent ∧
      asc m' c = some c' ∧ okN c' ∧ c'.Kids = [] ∧ c'.Id = c ∧ c'.Parent = a ∧ ∀ j, j ≠ a → j ≠ c → asc m' j = asc m j := by
  obtain ⟨q, hq1, hq2, hq3, hq4⟩ := hP a ha
  obtain rfl : q = n := Option.some.inj (hq1.symm.trans h1)
  obtain ⟨gc, hgc, egc⟩ := get h2 oc
  have hac : a ≠ c := fun e => hc (e ▸ ha)
  have hkids : g.Kids = q.Kids := hg.2.2.2.2.2.2.2.2.1
  by_cases hk : g.Kind = 2
  · refine .inl ?_
    unfold dom_Insert.f
    refine Ev.bind eg (Ev.bind egc ?_)
    exact Ev.neg (by simp) (Ev.neg (by simp) (Ev.pos hk (Ev.pure _)))
  · refine .inr ?_
    -- the parent is set
    have og : okN ⟨g.Id, g.Owner, g.Parent, g.Kind, g.Tag, g.Key, g.Slot, g.Attrs, g.Hooks, g.Kids ++ [c], g.Text⟩ :=
      ⟨hg.1.tag, hg.1.text, hg.1.attrs, hg.1.hooks, by rw [room_eq]; simp [hkids]; omega⟩
    have hid : g.Id = a := hg.2.1.trans hq3
    obtain ⟨w, ow, iw, pw, kw, _, ew⟩ := set' (n := ⟨g.Id, g.Owner, g.Parent, g.Kind, g.Tag, g.Key, g.Slot, g.Attrs, g.Hooks, g.Kids ++ [c], g.Text⟩) (m := m) (v := q) (by rw [hid]; exact h1) og hq2
    have hcid : gc.Id = c := hgc.2.1.trans ic
    have h2' : asc (aput m a w) c = some nc := by rw [asc_put, if_neg hac]; exact h2
    have ogc : okN ⟨gc.Id, gc.Owner, a, gc.Kind, gc.Tag, gc.Key, gc.Slot, gc.Attrs, gc.Hooks, gc.Kids, gc.Text⟩ := ⟨hgc.1.tag, hgc.1.text, hgc.1.attrs, hgc.1.hooks, hgc.1.kids⟩
    obtain ⟨z, oz, iz, pz, kz, _, ez⟩ := set' (n := ⟨gc.Id, gc.Owner, a, gc.Kind, gc.Tag, gc.Key, gc.Slot, gc.Attrs, gc.Hooks, gc.Kids, gc.Text⟩) (m := aput m a w) (v := nc) (by rw [hcid]; exact h2') ogc oc
    refine ⟨aput (aput m a w) c z, w, z, ?_, ?_, ow, by rw [kw]; simp [hkids], by rw [iw, hq3], by rw [pw]; exact hg.2.2.2.1, ?_, oz, by rw [kz]; exact hgc.2.2.2.2.2.2.2.2.1.trans kc, by rw [iz, ic], pz, ?_⟩
    · unfold dom_Insert.f
      refine Ev.bind eg (Ev.bind egc ?_)
      refine Ev.neg (by simp) (Ev.neg (by simp) (Ev.neg hk (Ev.neg ?_ (Ev.neg (by omega) ?_))))
      · rw [hgc.2.2.2.1, pc]; decide
      refine Ev.bind (inside_no m P hP hno c hc (by omega) a ha) ?_
      refine Ev.neg (by simp) (Ev.neg (by omega) (Ev.neg (by dsimp only; omega) (Ev.pos ⟨by omega, by dsimp only; omega, by rw [room_eq]; simp [hkids]; omega⟩ ?_)))
      simp only [insL_end]
      refine Ev.bind ew ?_
      simp only [hid]
      refine Ev.bind ez ?_
      simp only [hcid]
      exact Ev.pure _
    · rw [asc_put, if_neg (Ne.symm hac), asc_put, if_pos rfl]
    · rw [asc_put, if_pos rfl]
    · intro j hja hjc
      rw [asc_put, if_neg (Ne.symm hjc), asc_put, if_neg (Ne.symm hja)]
theorem setText (m : M) {c : Int} {n : arena_Node} (h : asc m c = some n) (on : okN n) (ic : n.Id = c) (s : api_Str) (hs : okS s) :
    ∃ e m' w, Ev (fun k => dom_SetText.f k c s m) (e, m') ∧ asc m' c = some w ∧ okN w ∧ w.Id = c ∧ w.Parent = n.Parent ∧ w.Kids = n.Kids ∧ ∀ j, j ≠ c → asc m' j = asc m j := by
  obtain ⟨g, hg, eg⟩ := get h on
  have hid : g.Id = c := hg.2.1.trans ic
  by_cases hk : g.Kind = 2
  · obtain ⟨t, ht, ot, et⟩ := fix s hs
    have og : okN ⟨g.Id, g.Owner, g.Parent, g.Kind, g.Tag, g.Key, g.Slot, g.Attrs, g.Hooks, g.Kids, t⟩ := ⟨hg.1.tag, ot, hg.1.attrs, hg.1.hooks, hg.1.kids⟩
    obtain ⟨w, ow, iw, pw, kw, _, ew⟩ := set' (n := ⟨g.Id, g.Owner, g.Parent, g.Kind, g.Tag, g.Key, g.Slot, g.Attrs, g.Hooks, g.Kids, t⟩) (m := m) (v := n) (by rw [hid]; exact h) og on
    refine ⟨0, aput m c w, w, ?_, by rw [asc_put, if_pos rfl], ow, by rw [iw, ic], by rw [pw]; exact hg.2.2.2.1, by rw [kw]; exact hg.2.2.2.2.2.2.2.2.1, fun j hj => by rw [asc_put, if_neg (Ne.symm hj)]⟩
    unfold dom_SetText.f
    have eo : Ev (fun k => dom_of.f k c 2 m) (g, 0) := by
      unfold dom_of.f
      exact Ev.bind eg (Ev.neg (by simp) (Ev.neg (by simp [hk]) (Ev.pure _)))
    refine Ev.bind eo (Ev.neg (by simp) (Ev.bind et (Ev.bind ew ?_)))
    simp only [hid]
    exact Ev.pure _
  · refine ⟨12, m, n, ?_, h, on, ic, rfl, rfl, fun _ _ => rfl⟩
    unfold dom_SetText.f
    have eo : Ev (fun k => dom_of.f k c 2 m) (zeroN, 12) := by
      unfold dom_of.f
      exact Ev.bind eg (Ev.neg (by simp) (Ev.pos hk (Ev.pure _)))
    exact Ev.bind eo (Ev.pos (by simp) (Ev.pure _))
end PA
end Go.Proofs.Ga

/- A logic of plain data over the model, proved sound: part PC; conditions stand in each theorem. -/
import Derived.Test.YtajaolmagnldaaaDlPB
set_option maxRecDepth 100000
set_option linter.unusedVariables false
set_option linter.unusedSimpArgs false
/-! What is held against itself is alike; the first slot of a number. -/
namespace Go.Proofs.Ga
open Go.Proofs.Dl
namespace PA
open Fo
theorem of_run (s : api_Str) (hs : okS s) (i : Nat) (hi : i < s.Runs.length) : ∀ (n : Nat) (q : Nat) (out : List ref01_C), out.length + n = s.Text.length → q + n ≤ B →
    ∃ out', out'.length ≤ s.Text.length ∧ Ev (fun k => ref01_Of_l3 k (i : Int) s (q : Int) out) out' := by
  intro n
  have h0 := hs.1
  have hB : B = 8796093022208 := rfl
  induction n with
  | zero =>
    intro q out hn hq
    refine ⟨out, by omega, Ev.succ ?_⟩
    simp only [ref01_Of_l3, idx_at _ _ hi, Option.bind_some]
    by_cases hc : (q : Int) < s.Runs[i].Len
    · exact Ev.pos hc (Ev.neg (by omega) (Ev.pure _))
    · exact Ev.neg hc (Ev.pure _)
  | succ n ih =>
    intro q out hn hq
    by_cases hc : (q : Int) < s.Runs[i].Len
    · obtain ⟨out', a, b⟩ := ih (q + 1) (out ++ [ref01_C.mk ((s.Text[out.length]'(by omega)).toNat : Int) (mn (mx s.Runs[i].Origin 0) 65536)]) (by simp; omega) (by omega)
      refine ⟨out', a, Ev.succ ?_⟩
      simp only [ref01_Of_l3, idx_at _ _ hi, Option.bind_some]
      refine Ev.pos hc (Ev.pos (by omega) ?_)
      simp only [idx_at _ _ (show out.length < s.Text.length by omega), Option.bind_some, ref01_near.f]
      refine Ev.pos (by rw [room_eq]; simp; omega) ?_
      rw [wrapN _ (by omega) (by omega)]
      exact b
    · refine ⟨out, by omega, Ev.succ ?_⟩
      simp only [ref01_Of_l3, idx_at _ _ hi, Option.bind_some]
      exact Ev.neg hc (Ev.pure _)
theorem of_runs (s : api_Str) (hs : okS s) : ∀ (n i : Nat) (out : List ref01_C), i + n = s.Runs.length → out.length ≤ s.Text.length →
    ∃ out', out'.length ≤ s.Text.length ∧ Ev (fun k => ref01_Of_l4 k s (i : Int) out) out' := by
  intro n
  have h0 := hs.1
  have h1 := hs.2
  have hB : B = 8796093022208 := rfl
  induction n with
  | zero =>
    intro i out hn ho
    refine ⟨out, ho, Ev.succ ?_⟩
    simp only [ref01_Of_l4]
    exact Ev.neg (by omega) (Ev.pure _)
  | succ n ih =>
    intro i out hn ho
    obtain ⟨o1, a1, b1⟩ := of_run s hs i (by omega) (s.Text.length - out.length) 0 out (by omega) (by omega)
    obtain ⟨o2, a2, b2⟩ := ih (i + 1) o1 (by omega) a1
    refine ⟨o2, a2, Ev.succ ?_⟩
    simp only [ref01_Of_l4]
    refine Ev.pos (by omega) (Ev.bind b1 ?_)
    rw [wrapN _ (by omega) (by omega)]
    exact b2
theorem of_rest (s : api_Str) (hs : okS s) : ∀ (n : Nat) (out : List ref01_C), out.length + n = s.Text.length →
    ∃ out', out'.length = s.Text.length ∧ Ev (fun k => ref01_Of_l5 k s out) out' := by
  intro n
  have h0 := hs.1
  have hB : B = 8796093022208 := rfl
  induction n with
  | zero =>
    intro out hn
    refine ⟨out, by omega, Ev.succ ?_⟩
    simp only [ref01_Of_l5]
    exact Ev.neg (by omega) (Ev.pure _)
  | succ n ih =>
    intro out hn
    obtain ⟨o1, a1, b1⟩ := ih (out ++ [ref01_C.mk ((s.Text[out.length]'(by omega)).toNat : Int) 65536]) (by simp; omega)
    refine ⟨o1, a1, Ev.succ ?_⟩
    simp only [ref01_Of_l5]
    refine Ev.pos (by omega) ?_
    simp only [idx_at _ _ (show out.length < s.Text.length by omega), Option.bind_some]
    exact Ev.pos (by rw [room_eq]; simp; omega) b1
theorem of_str (s : api_Str) (hs : okS s) : ∃ l, l.length = s.Text.length ∧ Ev (fun k => ref01_Of.f k s) l := by
  obtain ⟨o1, a1, b1⟩ := of_runs s hs s.Runs.length 0 [] (by omega) (by simp)
  obtain ⟨o2, a2, b2⟩ := of_rest s hs (s.Text.length - o1.length) o1 (by omega)
  refine ⟨o2, a2, ?_⟩
  unfold ref01_Of.f
  exact Ev.bind b1 (Ev.bind b2 (Ev.pure _))
theorem same_loop (l : List ref01_C) (hl : l.length < 4611686018427387904) : ∀ n i : Nat, i + n = l.length → Ev (fun k => ref01_Same_l1 k l l (i : Int)) (.inr ()) := by
  intro n
  induction n with
  | zero =>
    intro i hi
    refine Ev.succ ?_
    simp only [ref01_Same_l1]
    exact Ev.neg (by omega) (Ev.pure _)
  | succ n ih =>
    intro i hi
    refine Ev.succ ?_
    simp only [ref01_Same_l1]
    refine Ev.pos (by omega) ?_
    simp only [idx_at _ _ (show i < l.length by omega), Option.bind_some]
    refine Ev.neg (by simp) ?_
    rw [wrapN _ (by omega) (by omega)]
    exact ih (i + 1) (by omega)
theorem str_refl (s : api_Str) (hs : okS s) : Ev (fun k => glazierplain_Str.f k s s) true := by
  obtain ⟨l, hl, e⟩ := of_str s hs
  have h0 := hs.1
  have hB : B = 8796093022208 := rfl
  unfold glazierplain_Str.f
  refine Ev.bind e (Ev.bind e (Ev.bind (x := true) ?_ (Ev.pure _)))
  unfold ref01_Same.f
  refine Ev.neg (by simp) (Ev.bind (same_loop l (by omega) l.length 0 (by omega)) ?_)
  exact Ev.pure _
theorem attrs_nil : Ev (fun k => glazierplain_Attrs.f k [] []) true := by
  unfold glazierplain_Attrs.f
  refine Ev.neg (by simp) (Ev.bind (x := .inr ()) ?_ ?_)
  rotate_left
  · exact Ev.pure _
  refine Ev.succ ?_
  simp only [glazierplain_Attrs_l1]
  exact Ev.neg (by simp) (Ev.pure _)
theorem ints_loop (l : List Int) (hl : l.length < 4611686018427387904) : ∀ n i : Nat, i + n = l.length → Ev (fun k => glazierplain_Ints_l1 k l l (i : Int)) (.inr ()) := by
  intro n
  induction n with
  | zero =>
    intro i hi
    refine Ev.succ ?_
    simp only [glazierplain_Ints_l1]
    exact Ev.neg (by omega) (Ev.pure _)
  | succ n ih =>
    intro i hi
    refine Ev.succ ?_
    simp only [glazierplain_Ints_l1]
    refine Ev.pos (by omega) ?_
    simp only [idx_at _ _ (show i < l.length by omega), Option.bind_some]
    refine Ev.neg (by simp) ?_
    rw [wrapN _ (by omega) (by omega)]
    exact ih (i + 1) (by omega)
theorem ints_refl (l : List Int) (hl : l.length < 4611686018427387904) : Ev (fun k => glazierplain_Ints.f k l l) true := by
  unfold glazierplain_Ints.f
  exact Ev.neg (by simp) (Ev.bind (ints_loop l hl l.length 0 (by omega)) (Ev.pure _))
theorem ok_no : okS noS := ⟨Nat.zero_le _, by decide⟩
theorem ok_div : okS divS := ⟨by decide, by decide⟩
theorem trn_ok {n : arena_Node} (hn : okN n) (ks : List api_Tree) : okS (trn n ks).Tag ∧ okS (trn n ks).Text ∧ (trn n ks).Attrs = [] ∧ ((trn n ks).Kids = ks ∨ (trn n ks).Kids = []) := by
  unfold trn
  split
  · exact ⟨ok_no, hn.text, rfl, .inr rfl⟩
  · split
    · exact ⟨ok_div, ok_no, rfl, .inl rfl⟩
    · exact ⟨hn.tag, ok_no, hn.attrs, .inl rfl⟩
theorem trees_loop (m : M) : ∀ (F : Fo), Rep m F → (ids F).length < 1000000 → ∀ (L : List api_Tree) (p : Nat), L.drop p = tre m F → L.length < 4611686018427387904 → Ev (fun k => glazierplain_Trees_l1 k L L (p : Int)) (.inr ()) := by
  intro F
  induction F with
  | nil =>
    intro _ _ L p hd hL
    have := drop_nil hd
    refine Ev.succ ?_
    simp only [glazierplain_Trees_l1]
    exact Ev.neg (by omega) (Ev.pure _)
  | cons i kd r ih1 ih2 =>
    intro hR hI L p hd hL
    obtain ⟨⟨n, hn, ok, hk, hi⟩, hRk, hRr⟩ := hR
    obtain ⟨hp, hx, hd'⟩ := drop_cons hd
    simp only [ids, List.length_cons, List.length_append] at hI
    obtain ⟨hg, eg⟩ := gv hn ok
    obtain ⟨ht, hu, ha, hk'⟩ := trn_ok hg.1 (tre m kd)
    have hl := tre_len m kd
    have hl2 := tops_le kd
    have ek : Ev (fun k => glazierplain_Trees.f k (trn (Gv m i) (tre m kd)).Kids (trn (Gv m i) (tre m kd)).Kids) true := by
      refine Ev.succ ?_
      simp only [glazierplain_Trees.f]
      refine Ev.neg (by simp) ?_
      rcases hk' with h | h
      · rw [h]
        exact Ev.bind (ih1 hRk (by omega) (tre m kd) 0 rfl (by omega)) (Ev.pure _)
      · rw [h]
        refine Ev.bind (x := .inr ()) ?_ ?_
        rotate_left
        · exact Ev.pure _
        refine Ev.succ ?_
        simp only [glazierplain_Trees_l1]
        exact Ev.neg (by simp) (Ev.pure _)
    have e2 := ih2 hRr (by omega) L (p + 1) hd' hL
    refine Ev.succ ?_
    simp only [glazierplain_Trees_l1]
    refine Ev.pos (by omega) ?_
    simp only [idx_at _ _ hp, hx, Option.bind_some]
    refine Ev.bind (str_refl _ ht) (Ev.neg (by simp) (Ev.bind (str_refl _ hu) (Ev.neg (by simp) ?_)))
    rw [ha]
    refine Ev.bind attrs_nil (Ev.neg (by simp) (Ev.bind ek (Ev.neg (by simp) ?_)))
    rw [wrapN _ (by omega) (by omega)]
    exact e2
theorem trees_refl (m : M) (F : Fo) (hR : Rep m F) (hI : (ids F).length < 1000000) : Ev (fun k => glazierplain_Trees.f k (tre m F) (tre m F)) true := by
  have hl := tre_len m F
  have hl2 := tops_le F
  refine Ev.succ ?_
  simp only [glazierplain_Trees.f]
  exact Ev.neg (by simp) (Ev.bind (trees_loop m F hR hI (tre m F) 0 rfl (by omega)) (Ev.pure _))
/-! ### the first slot of a number -/
theorem gv_all (m : M) : ∀ (F : Fo), Rep m F → ∀ i ∈ ids F, Ev (fun k => arena_Arena_Get.f k i m) (Gv m i, true) := by
  intro F
  induction F with
  | nil => intro _ i hi; cases hi
  | cons j kd r ih1 ih2 =>
    intro hR i hi
    obtain ⟨⟨n, hn, ok, hk, he⟩, hRk, hRr⟩ := hR
    simp only [ids, List.mem_cons, List.mem_append] at hi
    rcases hi with rfl | hi | hi
    · exact (gv hn ok).2
    · exact ih1 hRk i hi
    · exact ih2 hRr i hi
noncomputable def isM (m : M) (slot i : Int) : Bool := decide ((Gv m i).Kind = 3) && decide ((Gv m i).Slot = slot)
noncomputable def fst (m : M) (slot : Int) (l : List Int) (d : Int) : Int := ((l.find? (isM m slot)).getD d)
theorem mount_loop (m : M) (slot : Int) (l : List Int) (hl : l.length < 1000000) (hg : ∀ i ∈ l, Ev (fun k => arena_Arena_Get.f k i m) (Gv m i, true)) : ∀ (n : Nat) (d : Int), n ≤ l.length →
    Ev (fun k => law21_ShotTells_l1 k slot l m d ((n : Int) - 1)) (fst m slot (l.take n) d) := by
  intro n
  induction n with
  | zero =>
    intro d hn
    refine Ev.succ ?_
    simp only [law21_ShotTells_l1]
    exact Ev.neg (by omega) (Ev.pure _)
  | succ n ih =>
    intro d hn
    have hlt : n < l.length := by omega
    have e : (((n + 1 : Nat) : Int) - 1) = (n : Int) := by omega
    refine Ev.succ ?_
    rw [e]
    simp only [law21_ShotTells_l1]
    refine Ev.pos (by omega) ?_
    simp only [idx_at _ _ hlt, Option.bind_some]
    refine Ev.bind (hg _ (List.getElem_mem hlt)) ?_
    rw [wrapN _ (by omega) (by omega)]
    have ht : l.take (n + 1) = l.take n ++ [l[n]] := by rw [List.take_add_one]; simp [hlt]
    have hf : fst m slot (l.take (n + 1)) d = fst m slot (l.take n) (if isM m slot l[n] = true then l[n] else d) := by
      unfold fst
      rw [ht, List.find?_append]
      cases (l.take n).find? (isM m slot) with
      | some x => rfl
      | none =>
        simp only [Option.none_or, List.find?_singleton, Option.getD_none]
        split <;> rfl
    rw [hf]
    unfold isM
    by_cases h3 : (Gv m l[n]).Kind = 3
    · refine Ev.pos h3 ?_
      by_cases hs : (Gv m l[n]).Slot = slot
      · refine Ev.pos hs ?_
        rw [if_pos (by simp [h3, hs])]
        exact ih _ (by omega)
      · refine Ev.neg hs ?_
        rw [if_neg (by simp [hs])]
        exact ih _ (by omega)
    · refine Ev.neg h3 ?_
      rw [if_neg (by simp [h3])]
      exact ih _ (by omega)
theorem index_loop2 (m : M) (slot : Int) (l : List Int) (hl : l.length < 1000000) (hg : ∀ i ∈ l, Ev (fun k => arena_Arena_Get.f k i m) (Gv m i, true)) : ∀ (n i : Nat), i + n = l.length →
    ∃ r : Int ⊕ Unit, Ev (fun k => slices_IndexFunc_int_int_l1 k l (l.length : Int) slot m (i : Int)) r ∧
      ((∃ (j : Nat) (hj : j < l.length), r = .inl (j : Int) ∧ (l.drop i).find? (isM m slot) = some l[j]) ∨ (r = .inr () ∧ (l.drop i).find? (isM m slot) = none)) := by
  intro n
  induction n with
  | zero =>
    intro i hi
    refine ⟨.inr (), Ev.succ ?_, .inr ⟨rfl, by rw [List.drop_of_length_le (by omega)]; rfl⟩⟩
    simp only [slices_IndexFunc_int_int_l1]
    exact Ev.neg (by omega) (Ev.pure _)
  | succ n ih =>
    intro i hi
    have hlt : i < l.length := by omega
    have hd : l.drop i = l[i] :: l.drop (i + 1) := List.drop_eq_getElem_cons hlt
    have em : Ev (fun k => shot_Mount_1.f k l[i] slot m) (isM m slot l[i]) := by
      unfold shot_Mount_1.f
      refine Ev.bind (hg _ (List.getElem_mem hlt)) ?_
      unfold isM
      by_cases h3 : (Gv m l[i]).Kind = 3
      · refine Ev.pos h3 ?_
        rw [show ((Gv m l[i]).Slot == slot) = (decide ((Gv m l[i]).Kind = 3) && decide ((Gv m l[i]).Slot = slot)) by simp [h3, BEq.beq]]
        exact Ev.pure _
      · refine Ev.neg h3 ?_
        rw [show (decide ((Gv m l[i]).Kind = 3) && decide ((Gv m l[i]).Slot = slot)) = false by simp [h3]]
        exact Ev.pure _
    by_cases hm : isM m slot l[i] = true
    · refine ⟨.inl (i : Int), Ev.succ ?_, .inl ⟨i, hlt, rfl, by rw [hd, List.find?_cons_of_pos hm]⟩⟩
      simp only [slices_IndexFunc_int_int_l1]
      refine Ev.pos (by omega) ?_
      simp only [idx_at _ _ hlt, Option.bind_some]
      exact Ev.bind em (Ev.pos hm (Ev.pure _))
    · obtain ⟨r, a, b⟩ := ih (i + 1) (by omega)
      refine ⟨r, Ev.succ ?_, by rw [hd, List.find?_cons_of_neg hm]; exact b⟩
      simp only [slices_IndexFunc_int_int_l1]
      refine Ev.pos (by omega) ?_
      simp only [idx_at _ _ hlt, Option.bind_some]
      refine Ev.bind em (Ev.neg hm ?_)
      rw [wrapN _ (by omega) (by omega)]
      exact a
theorem mount_of (m : M) (slot : Int) {kd : Fo} (hR : Rep m (.cons 0 kd .nil)) (hI : (ids kd).length < 900000) : Ev (fun k => shot_Mount.f k slot m) (fst m slot (0 :: ids kd) 0) := by
  have hg : ∀ i ∈ (0 :: ids kd), Ev (fun k => arena_Arena_Get.f k i m) (Gv m i, true) := by
    have := gv_all m _ hR
    simpa [ids] using this
  obtain ⟨r, a, b⟩ := index_loop2 m slot (0 :: ids kd) (by simp; omega) hg (0 :: ids kd).length 0 (by omega)
  unfold shot_Mount.f
  refine Ev.bind (ids_of m hR (by omega)) ?_
  have ei : Ev (fun k => slices_IndexFunc_int_int.f k (0 :: ids kd) slot m) (Sum.elim id (fun _ => -1) r) := by
    unfold slices_IndexFunc_int_int.f
    refine Ev.bind a ?_
    cases r <;> exact Ev.pure _
  refine Ev.bind ei ?_
  rcases b with ⟨j, hj, rfl, hf⟩ | ⟨rfl, hf⟩
  · refine Ev.neg (by simp) ?_
    simp only [Sum.elim_inl, id_eq, idx_at _ _ hj, Option.bind_some]
    unfold fst
    rw [List.drop_zero] at hf
    rw [hf]
    exact Ev.pure _
  · refine Ev.pos (by simp) ?_
    unfold fst
    rw [List.drop_zero] at hf
    rw [hf]
    exact Ev.pure _
end PA
end Go.Proofs.Ga

/- A logic of plain data over the model, proved sound: part PA; conditions stand in each theorem. -/
import Derived.Test.YtajaolmagnldaaaG7
set_option maxRecDepth 100000
set_option linter.unusedVariables false
set_option linter.unusedSimpArgs false
/-! Arenas, over plain data. -/
namespace Go.Proofs.Ga
open Go.Proofs.Dl
namespace PA
theorem wrapN (n : Int) (h : -9223372036854775808 ≤ n) (h' : n < 9223372036854775808) : w64 n = n := by
  unfold w64 IntKind.wrap
  simp [IntKind.signed, IntKind.bits]
  omega
theorem idx_at {α : Type} (l : List α) (i : Nat) (h : i < l.length) : idx l (i : Int) = some l[i] := by
  unfold idx
  rw [if_pos (by omega)]
  simp [h]
def B : Nat := 8796093022208
theorem Ev.pure {α : Type} (r : α) : Ev (fun _ : Nat => some r) r := Ev.of fun _ => rfl
theorem Ev.all {α : Type} {g : Nat → Option α} {r : α} (h : ∀ k, g k = some r) : Ev g r := Ev.of h
theorem Ev.fun {α : Type} {g : Nat → Option α} {r s : α} (h : Ev g r) (k : Ev g s) : r = s := by
  obtain ⟨K, h⟩ := h
  obtain ⟨L, k⟩ := k
  have a := h (max K L) (by omega)
  have b := k (max K L) (by omega)
  exact Option.some.inj (a.symm.trans b)
/-- fuel: from n on -/
theorem Ev.from {α : Type} {g : Nat → Option α} {r : α} (n : Nat) (h : ∀ k, g (k + n) = some r) : Ev g r := ⟨n, fun k hk => by rw [show k = (k - n) + n by omega]; exact h _⟩

/-! ### marks -/
def sumR (l : List api_Run) : Int := (l.map (·.Len)).sum
def goodR (l : List api_Run) : Prop := ∀ r ∈ l, 1 ≤ r.Len
theorem len_le : ∀ {l : List api_Run}, goodR l → (l.length : Int) ≤ sumR l
  | [], _ => by simp [sumR]
  | r :: l, h => by
    have h1 := h r (List.mem_cons_self ..)
    have h2 := len_le (l := l) (fun x hx => h x (List.mem_cons_of_mem _ hx))
    simp only [sumR, List.map_cons, List.sum_cons, List.length_cons] at h2 ⊢
    omega
theorem sumR_app (a b : List api_Run) : sumR (a ++ b) = sumR a + sumR b := by simp [sumR, List.sum_append]
theorem put (n o : Int) (l : List api_Run) (hn : 0 ≤ n) (hg : goodR l) (hs : sumR l + n ≤ B) : ∃ l', mark_put_v1.f n o l = some l' ∧ goodR l' ∧ sumR l' = sumR l + n := by
  unfold mark_put_v1.f
  by_cases h1 : n < 1
  · rw [if_pos h1]
    exact ⟨l, rfl, hg, by omega⟩
  · rw [if_neg h1]
    have hlen := len_le hg
    have hB : (B : Int) = 8796093022208 := rfl
    have hroom : ∀ r : api_Run, (l ++ [r]).length * 16 ≤ room := by
      intro r
      simp only [List.length_append, List.length_cons, List.length_nil]
      unfold room
      omega
    have app : ∃ l', (if (l ++ ([api_Run.mk n o] : List api_Run)).length * 16 ≤ room then some (l ++ ([api_Run.mk n o] : List api_Run)) else none) = some l' ∧ goodR l' ∧ sumR l' = sumR l + n := by
      rw [if_pos (hroom _)]
      refine ⟨_, rfl, ?_, ?_⟩
      · intro r hr
        rcases List.mem_append.1 hr with hr | hr
        · exact hg r hr
        · simp at hr; subst hr; show 1 ≤ n; omega
      · rw [sumR_app]; simp [sumR]
    rcases List.eq_nil_or_concat l with rfl | ⟨i, x, rfl⟩
    · rw [if_neg (by rw [wrapN _ (by simp) (by simp)]; simp)]
      exact app
    · rw [List.concat_eq_append] at *
      have e : w64 (((i ++ [x]).length : Int) - 1) = ((i.length : Nat) : Int) := by
        rw [wrapN _ (by simp) (by simp at hlen ⊢; omega)]; simp
      rw [e, if_pos (by omega), idx_at _ _ (by simp)]
      simp only [Option.bind_some, List.getElem_concat_length]
      split
      · have hx : 1 ≤ x.Len := hg x (by simp)
        have hsx : sumR (i ++ [x]) = sumR i + x.Len := by rw [sumR_app]; simp [sumR]
        have hi : goodR i := fun r hr => hg r (List.mem_append_left _ hr)
        have hi' := len_le hi
        refine ⟨_, rfl, ?_, ?_⟩
        · intro r hr
          simp only [Int.toNat_natCast, List.set_append_right _ _ (Nat.le_refl _), Nat.sub_self, List.set_cons_zero, List.mem_append, List.mem_singleton] at hr
          rcases hr with hr | rfl
          · exact hi r hr
          · show 1 ≤ w64 (x.Len + n)
            rw [wrapN _ (by omega) (by omega)]
            omega
        · simp only [Int.toNat_natCast, List.set_append_right _ _ (Nat.le_refl _), Nat.sub_self, List.set_cons_zero]
          rw [sumR_app, sumR_app, wrapN _ (by omega) (by omega)]
          simp [sumR]
          omega
      · exact app
theorem fix_loop (l : List api_Run) (hl : l.length < 4611686018427387904) : ∀ (n i : Nat) (left : Int) (out : List api_Run), i + n = l.length → 0 ≤ left → goodR out → sumR out + left ≤ B →
    ∃ left' out', 0 ≤ left' ∧ goodR out' ∧ sumR out' + left' = sumR out + left ∧ ∀ k, mark_Fix_l1 (k + (n + 1)) l (l.length : Int) left (i : Int) out = some (left', out') := by
  intro n
  induction n with
  | zero =>
    intro i left out hi hl0 hg hs
    refine ⟨left, out, hl0, hg, rfl, fun k => ?_⟩
    show mark_Fix_l1 (k + 1) _ _ _ _ _ = _
    rw [mark_Fix_l1, if_neg (by omega)]
  | succ n ih =>
    intro i left out hi hl0 hg hs
    have hlen := len_le hg
    have hB : (B : Int) = 8796093022208 := rfl
    have hm : 0 ≤ mn (mx (l[i]'(by omega)).Len 0) left ∧ mn (mx (l[i]'(by omega)).Len 0) left ≤ left := by
      unfold mn mx
      split <;> split <;> omega
    generalize hq : mn (mx (l[i]'(by omega)).Len 0) left = q at hm
    obtain ⟨out1, h1, hg1, hs1⟩ := put q (mn (mx (l[i]'(by omega)).Origin 0) 65536) out hm.1 hg (by omega)
    obtain ⟨left', out', a, b, c, d⟩ := ih (i + 1) (left - q) out1 (by omega) (by omega) hg1 (by omega)
    refine ⟨left', out', a, b, by omega, fun k => ?_⟩
    show mark_Fix_l1 ((k + (n + 1)) + 1) _ _ _ _ _ = _
    rw [mark_Fix_l1, if_pos (by omega), idx_at _ _ (by omega)]
    simp only [Option.bind_some, mark_near.f, hq, h1]
    rw [wrapN (left - q) (by omega) (by omega), wrapN _ (by omega) (by omega)]
    exact d k
/-- a text whose bytes fit -/
def okS (s : api_Str) : Prop := s.Text.length ≤ B ∧ s.Runs.length < 4611686018427387904
theorem fix (s : api_Str) (h : okS s) : ∃ r : api_Str, r.Text = s.Text ∧ okS r ∧ Ev (fun k => mark_Fix.f k s) r := by
  have hB : (B : Int) = 8796093022208 := rfl
  have h0 := h.1
  obtain ⟨left', out', a, b, c, d⟩ := fix_loop s.Runs h.2 s.Runs.length 0 (s.Text.length : Int) [] (by omega) (by omega) (fun r hr => by cases hr) (by simp [sumR]; omega)
  have hl := len_le b
  have e0 : sumR [] = 0 := rfl
  have d0 : ∀ k, mark_Fix_l1 (k + (s.Runs.length + 1)) s.Runs (s.Runs.length : Int) (s.Text.length : Int) 0 [] = some (left', out') := d
  obtain ⟨out1, h1, hg1, hs1⟩ := put left' 65536 out' a b (by omega)
  have hl1 := len_le hg1
  refine ⟨⟨s.Text, out1⟩, rfl, ⟨h.1, by show out1.length < _; omega⟩, Ev.from (s.Runs.length + 1) fun k => ?_⟩
  show mark_Fix.f _ _ = _
  unfold mark_Fix.f
  rw [d0 k]
  simp only [Option.bind_some, h1]

/-! ### nodes -/
theorem asc_put {α : Type} (m : List (Int × α)) (i : Int) (v : α) (j : Int) : asc (aput m i v) j = if i = j then some v else asc m j := by
  induction m with
  | nil =>
    simp only [aput, asc]
  | cons p r ih =>
    obtain ⟨n, u⟩ := p
    simp only [aput]
    by_cases h : n = i
    · rw [if_pos h]
      simp only [asc]
      by_cases hj : n = j
      · rw [if_pos hj, if_pos (by omega)]
      · rw [if_neg hj, if_neg (by omega), if_neg hj]
    · rw [if_neg h]
      simp only [asc]
      by_cases hj : n = j
      · rw [if_pos hj, if_neg (by omega), if_pos hj]
      · rw [if_neg hj, ih, if_neg hj]
structure okN (n : arena_Node) : Prop where
  tag : okS n.Tag
  text : okS n.Text
  attrs : n.Attrs = []
  hooks : n.Hooks.length * 24 ≤ room
  kids : n.Kids.length * 8 ≤ room
/-- What is told of a node: the same, but for the labels. -/
def like (n r : arena_Node) : Prop := okN r ∧ r.Id = n.Id ∧ r.Owner = n.Owner ∧ r.Parent = n.Parent ∧ r.Kind = n.Kind ∧ r.Key = n.Key ∧ r.Slot = n.Slot ∧ r.Hooks = n.Hooks ∧ r.Kids = n.Kids ∧ r.Tag.Text = n.Tag.Text ∧ r.Text.Text = n.Text.Text
theorem own (n : arena_Node) (h : okN n) : ∃ r, like n r ∧ Ev (fun k => arena_own.f k n) r := by
  obtain ⟨t, ht, ot, et⟩ := fix n.Tag h.tag
  obtain ⟨x, hx, ox, ex⟩ := fix n.Text h.text
  refine ⟨⟨n.Id, n.Owner, n.Parent, n.Kind, t, n.Key, n.Slot, [], n.Hooks, n.Kids, x⟩, ⟨⟨ot, ox, rfl, h.hooks, h.kids⟩, rfl, rfl, rfl, rfl, rfl, rfl, rfl, rfl, ht, hx⟩, ?_⟩
  unfold arena_own.f
  refine Ev.bind et (Ev.bind ex ?_)
  simp only [if_pos h.hooks, if_pos h.kids, h.attrs]
  refine Ev.from 1 fun k => ?_
  simp only [arena_own_l1, List.length_nil]
  rfl
def zeroN : arena_Node := ⟨0, 0, 0, 0, ⟨[], []⟩, [], 0, [], [], [], ⟨[], []⟩⟩
theorem has (i : Int) (m : List (Int × arena_Node)) : arena_Arena_Has.f i m = some (asc m i).isSome := by
  unfold arena_Arena_Has.f
  rw [show arena_Arena_is.f = some () from rfl]
  simp only [Option.bind_some]
  cases asc m i <;> rfl
theorem get_none {i : Int} {m : List (Int × arena_Node)} (h : asc m i = none) (k : Nat) : arena_Arena_Get.f k i m = some (zeroN, false) := by
  unfold arena_Arena_Get.f
  rw [has, h]
  rfl
theorem get {i : Int} {m : List (Int × arena_Node)} {n : arena_Node} (h : asc m i = some n) (hn : okN n) : ∃ r, like n r ∧ Ev (fun k => arena_Arena_Get.f k i m) (r, true) := by
  obtain ⟨r, hr, er⟩ := own n hn
  refine ⟨r, hr, ?_⟩
  unfold arena_Arena_Get.f
  rw [has, h]
  simp only [Option.bind_some, Option.isSome_some, Bool.not_true, Bool.false_eq_true, if_false, oel]
  exact Ev.bind er (Ev.pure _)
theorem set_none {n : arena_Node} {m : List (Int × arena_Node)} (h : asc m n.Id = none) (k : Nat) : arena_Arena_Set.f k n m = some (14, m) := by
  unfold arena_Arena_Set.f
  rw [show arena_Arena_is.f = some () from rfl, h]
  rfl
theorem set {n v : arena_Node} {m : List (Int × arena_Node)} (h : asc m n.Id = some v) (hn : okN n) :
    ∃ r, like n r ∧ Ev (fun k => arena_Arena_Set.f k n m) (0, aput m n.Id ⟨v.Id, v.Owner, r.Parent, v.Kind, v.Tag, v.Key, v.Slot, r.Attrs, r.Hooks, r.Kids, r.Text⟩) := by
  obtain ⟨r, hr, er⟩ := own n hn
  refine ⟨r, hr, ?_⟩
  unfold arena_Arena_Set.f
  rw [show arena_Arena_is.f = some () from rfl, h]
  simp only [Option.bind_some, oel]
  refine Ev.bind er ?_
  rw [hr.2.1]
  exact Ev.pure _
/-! ### a list has it -/
theorem index_loop (v : Int) (l : List Int) (hl : l.length < 4611686018427387904) : ∀ n i : Nat, i + n = l.length → ∃ r : Int ⊕ Unit, (∀ k, slices_Index_int_int_v1_l1 (k + (n + 1)) v (l.length : Int) l (i : Int) = some r) ∧
    ((∃ j : Nat, r = .inl (j : Int)) ∧ v ∈ l.drop i ∨ r = .inr () ∧ v ∉ l.drop i) := by
  intro n
  induction n with
  | zero =>
    intro i hi
    refine ⟨.inr (), fun k => ?_, .inr ⟨rfl, by rw [List.drop_of_length_le (by omega)]; simp⟩⟩
    show slices_Index_int_int_v1_l1 (k + 1) _ _ _ _ = _
    rw [slices_Index_int_int_v1_l1, if_neg (by omega)]
  | succ n ih =>
    intro i hi
    have hd : l.drop i = l[i]'(by omega) :: l.drop (i + 1) := List.drop_eq_getElem_cons (by omega)
    by_cases hv : v = l[i]'(by omega)
    · refine ⟨.inl (i : Int), fun k => ?_, .inl ⟨⟨i, rfl⟩, by rw [hd, hv]; exact List.mem_cons_self ..⟩⟩
      show slices_Index_int_int_v1_l1 ((k + (n + 1)) + 1) _ _ _ _ = _
      rw [slices_Index_int_int_v1_l1, if_pos (by omega), idx_at _ _ (by omega)]
      simp only [Option.bind_some]
      rw [if_pos hv]
    · obtain ⟨r, h1, h2⟩ := ih (i + 1) (by omega)
      refine ⟨r, fun k => ?_, ?_⟩
      · show slices_Index_int_int_v1_l1 ((k + (n + 1)) + 1) _ _ _ _ = _
        rw [slices_Index_int_int_v1_l1, if_pos (by omega), idx_at _ _ (by omega)]
        simp only [Option.bind_some]
        rw [if_neg hv, wrapN _ (by omega) (by omega)]
        exact h1 k
      · rw [hd]
        rcases h2 with ⟨a, b⟩ | ⟨a, b⟩
        · exact .inl ⟨a, List.mem_cons_of_mem _ b⟩
        · exact .inr ⟨a, fun h => (List.mem_cons.1 h).elim hv b⟩
theorem contains (v : Int) (l : List Int) (hl : l.length < 4611686018427387904) : Ev (fun k => slices_Contains_int_int_v1.f k v l) (decide (v ∈ l)) := by
  obtain ⟨r, h1, h2⟩ := index_loop v l hl l.length 0 (by omega)
  refine Ev.from (l.length + 1) fun k => ?_
  have h1' : slices_Index_int_int_v1_l1 (k + (l.length + 1)) v (l.length : Int) l 0 = some r := h1 k
  unfold slices_Contains_int_int_v1.f slices_Index_int_int_v1.f
  rw [h1']
  simp only [Option.bind_some, List.drop_zero] at h2 ⊢
  rcases h2 with ⟨⟨j, rfl⟩, h⟩ | ⟨rfl, h⟩
  · simp [h]
  · simp [h]
end PA
end Go.Proofs.Ga

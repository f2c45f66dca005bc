/- A logic of plain data over the model, proved sound: part PB; conditions stand in each theorem. -/
import Derived.Test.YtajaolmagnldaaaDlPA
set_option maxRecDepth 100000
set_option linter.unusedVariables false
set_option linter.unusedSimpArgs false
/-! What stands in an arena as a forest; what reads it. -/
namespace Go.Proofs.Ga
open Go.Proofs.Dl
namespace PA
abbrev M := List (Int × arena_Node)
inductive Fo where
  | nil
  | cons (i : Int) (kids rest : Fo)
namespace Fo
def ids : Fo → List Int
  | nil => []
  | cons i k r => i :: (ids k ++ ids r)
def tops : Fo → List Int
  | nil => []
  | cons i _ r => i :: tops r
/-- m holds the forest -/
def Rep (m : M) : Fo → Prop
  | nil => True
  | cons i k r => (∃ n, asc m i = some n ∧ okN n ∧ n.Kids = tops k ∧ n.Id = i) ∧ Rep m k ∧ Rep m r
theorem tops_le : ∀ F : Fo, (tops F).length ≤ (ids F).length
  | nil => Nat.le_refl _
  | cons i k r => by have := tops_le r; simp [tops, ids]; omega
end Fo
open Fo
theorem Ev.pos {α : Type} {c : Prop} [Decidable c] {a b : Nat → Option α} {r : α} (hc : c) (h : Ev a r) : Ev (fun k => if c then a k else b k) r := h.congr fun k => if_pos hc
theorem Ev.neg {α : Type} {c : Prop} [Decidable c] {a b : Nat → Option α} {r : α} (hc : ¬ c) (h : Ev b r) : Ev (fun k => if c then a k else b k) r := h.congr fun k => if_neg hc
theorem room_eq : room = 140737488355328 := rfl
theorem drop_cons {α : Type} {l : List α} {p : Nat} {x : α} {r : List α} (h : l.drop p = x :: r) : ∃ hp : p < l.length, l[p] = x ∧ l.drop (p + 1) = r := by
  have hp : p < l.length := by
    rcases Nat.lt_or_ge p l.length with h1 | h1
    · exact h1
    · rw [List.drop_of_length_le h1] at h; cases h
  rw [List.drop_eq_getElem_cons hp] at h
  injection h with h1 h2
  exact ⟨hp, h1, h2⟩
theorem drop_nil {α : Type} {l : List α} {p : Nat} (h : l.drop p = []) : l.length ≤ p := by
  have := congrArg List.length h
  simp at this; omega
theorem ids_loop (m : M) : ∀ (F : Fo) (L : List Int) (p : Nat) (acc : List Int), Rep m F → L.drop p = tops F → L.length < 4611686018427387904 → (acc.length + (ids F).length) * 8 ≤ room → (ids F).length < 4611686018427387904 →
    Ev (fun k => shot_Ids_l1 k (L.length : Int) m L (p : Int) acc) (acc ++ ids F) := by
  intro F
  induction F with
  | nil =>
    intro L p acc _ hd hL hr _
    have := drop_nil hd
    refine Ev.from 1 fun k => ?_
    rw [shot_Ids_l1, if_neg (by omega)]
    simp [ids]
  | cons i kd r ih1 ih2 =>
    intro L p acc hR hd hL hr hB
    obtain ⟨⟨n, hn, ok, hk, hi⟩, hRk, hRr⟩ := hR
    obtain ⟨hp, hx, hd'⟩ := drop_cons hd
    obtain ⟨g, hg, eg⟩ := get hn ok
    have hkk : g.Kids = tops kd := hg.2.2.2.2.2.2.2.2.1.trans hk
    simp only [ids, List.length_cons, List.length_append] at hr hB
    have ht := tops_le kd
    have e1 : Ev (fun k => shot_Ids.f k i m) (i :: ids kd) := by
      refine Ev.step (g' := fun k => (arena_Arena_Get.f k i m).bind fun t => if (!t.2) = true then some ([] : List Int) else Option.bind (shot_Ids_l1 k (t.1.Kids.length : Int) m t.1.Kids 0 ([i] : List Int)) fun v => some v) ?_ (fun k => by rw [shot_Ids.f])
      refine Ev.bind eg ?_
      simp only [Bool.not_true, Bool.false_eq_true, if_false]
      rw [hkk]
      refine Ev.bind (x := i :: ids kd) (h := fun k v => some v) ?_ (Ev.pure _)
      exact ih1 (tops kd) 0 [i] hRk rfl (by omega) (by simp; omega) (by omega)
    have e2 := ih2 L (p + 1) (acc ++ (i :: ids kd)) hRr hd' hL (by simp only [List.length_append, List.length_cons]; omega) (by omega)
    refine Ev.step (g' := fun k => (shot_Ids.f k i m).bind fun t => if (acc ++ t).length * 8 ≤ room then shot_Ids_l1 k (L.length : Int) m L ((p + 1 : Nat) : Int) (acc ++ t) else none) ?_ (fun k => by
      rw [shot_Ids_l1, if_pos (by omega), idx_at _ _ hp, hx]
      simp only [Option.bind_some]
      rw [wrapN _ (by omega) (by omega)]
      rfl)
    refine Ev.bind e1 ?_
    refine Ev.pos (by simp only [List.length_append, List.length_cons]; omega) ?_
    rw [show acc ++ ids (cons i kd r) = acc ++ (i :: ids kd) ++ ids r by simp [ids]]
    exact e2
theorem ids_of (m : M) {i : Int} {kd : Fo} (hR : Rep m (.cons i kd .nil)) (hr : (ids kd).length < 1000000) : Ev (fun k => shot_Ids.f k i m) (i :: ids kd) := by
  obtain ⟨⟨n, hn, ok, hk, hi⟩, hRk, _⟩ := hR
  obtain ⟨g, hg, eg⟩ := get hn ok
  have hkk : g.Kids = tops kd := hg.2.2.2.2.2.2.2.2.1.trans hk
  have ht := tops_le kd
  refine Ev.step (g' := fun k => (arena_Arena_Get.f k i m).bind fun t => if (!t.2) = true then some ([] : List Int) else Option.bind (shot_Ids_l1 k (t.1.Kids.length : Int) m t.1.Kids 0 ([i] : List Int)) fun v => some v) ?_ (fun k => by rw [shot_Ids.f])
  refine Ev.bind eg ?_
  simp only [Bool.not_true, Bool.false_eq_true, if_false]
  rw [hkk]
  refine Ev.bind (x := i :: ids kd) (h := fun k v => some v) ?_ (Ev.pure _)
  exact ids_loop m kd (tops kd) 0 [i] hRk rfl (by omega) (by rw [room_eq]; simp; omega) (by omega)
theorem Ev.succ {α : Type} {g : Nat → Option α} {r : α} (h : Ev (fun k => g (k + 1)) r) : Ev g r := Ev.step (g' := fun k => g (k + 1)) h fun _ => rfl
theorem Ev.oke {α β : Type} {c : α} {h : Nat → α → Option β} {r : β} (k : Ev (fun k => h k c) r) : Ev (fun k => (some c : Option α).bind (h k)) r := k
theorem Ev.pur {α β : Type} {g : Nat → Option α} {r : α} (h : Ev g r) {f : α → β} : Ev (fun k => (g k).bind fun v => some (f v)) (f r) := Ev.bind h (Ev.pure _)
open Classical in
/-- What Get tells of i. -/
noncomputable def Gv (m : M) (i : Int) : arena_Node := if h : ∃ r, Ev (fun k => arena_Arena_Get.f k i m) (r, true) then Classical.choose h else zeroN
theorem gv {m : M} {i : Int} {n : arena_Node} (h : asc m i = some n) (hn : okN n) : like n (Gv m i) ∧ Ev (fun k => arena_Arena_Get.f k i m) (Gv m i, true) := by
  obtain ⟨r, hr, er⟩ := get h hn
  have hex : ∃ r, Ev (fun k => arena_Arena_Get.f k i m) (r, true) := ⟨r, er⟩
  have hc : Ev (fun k => arena_Arena_Get.f k i m) (Gv m i, true) := by
    unfold Gv
    rw [dif_pos hex]
    exact Classical.choose_spec hex
  have : Gv m i = r := congrArg Prod.fst (Ev.fun hc er)
  rw [this] at hc ⊢
  exact ⟨hr, hc⟩
theorem lids_loop (m : M) : ∀ (F : Fo) (L : List Int) (p : Nat) (acc : List Int), Rep m F → L.drop p = tops F → L.length < 4611686018427387904 → (acc.length + (ids F).length) * 8 ≤ room → (ids F).length < 4611686018427387904 →
    Ev (fun k => law21_ids_l1 k m L (p : Int) acc) (acc ++ ids F) := by
  intro F
  induction F with
  | nil =>
    intro L p acc _ hd hL hr _
    have := drop_nil hd
    refine Ev.from 1 fun k => ?_
    rw [law21_ids_l1, if_neg (by omega)]
    simp [ids]
  | cons i kd r ih1 ih2 =>
    intro L p acc hR hd hL hr hB
    obtain ⟨⟨n, hn, ok, hk, hi⟩, hRk, hRr⟩ := hR
    obtain ⟨hp, hx, hd'⟩ := drop_cons hd
    obtain ⟨g, hg, eg⟩ := get hn ok
    have hkk : g.Kids = tops kd := hg.2.2.2.2.2.2.2.2.1.trans hk
    simp only [ids, List.length_cons, List.length_append] at hr hB
    have ht := tops_le kd
    have e1 : Ev (fun k => law21_ids.f k i m) (i :: ids kd) := by
      refine Ev.succ ?_
      simp only [law21_ids.f]
      refine Ev.bind eg ?_
      simp only [hkk]
      exact Ev.bind (ih1 (tops kd) 0 [i] hRk rfl (by omega) (by simp; omega) (by omega)) (Ev.pure _)
    have e2 := ih2 L (p + 1) (acc ++ (i :: ids kd)) hRr hd' hL (by simp only [List.length_append, List.length_cons]; omega) (by omega)
    refine Ev.succ ?_
    simp only [law21_ids_l1]
    refine Ev.pos (by omega) ?_
    simp only [idx_at _ _ hp, hx, Option.bind_some]
    refine Ev.bind e1 (Ev.pos (by simp only [List.length_append, List.length_cons]; omega) ?_)
    rw [wrapN _ (by omega) (by omega), show acc ++ ids (cons i kd r) = acc ++ (i :: ids kd) ++ ids r by simp [ids]]
    exact e2
theorem lids_of (m : M) {i : Int} {kd : Fo} (hR : Rep m (.cons i kd .nil)) (hr : (ids kd).length < 1000000) : Ev (fun k => law21_ids.f k i m) (i :: ids kd) := by
  obtain ⟨⟨n, hn, ok, hk, hi⟩, hRk, _⟩ := hR
  obtain ⟨g, hg, eg⟩ := get hn ok
  have hkk : g.Kids = tops kd := hg.2.2.2.2.2.2.2.2.1.trans hk
  have ht := tops_le kd
  refine Ev.succ ?_
  simp only [law21_ids.f]
  refine Ev.bind eg ?_
  simp only [hkk]
  exact Ev.bind (lids_loop m kd (tops kd) 0 [i] hRk rfl (by omega) (by rw [room_eq]; simp; omega) (by omega)) (Ev.pure _)
def divS : api_Str := ⟨[100, 105, 118], [⟨3, 0⟩]⟩
def noS : api_Str := ⟨[], []⟩
def trn (n : arena_Node) (ks : List api_Tree) : api_Tree := if n.Kind = 2 then ⟨noS, [], [], n.Text⟩ else if n.Kind = 3 then ⟨divS, [], ks, noS⟩ else ⟨n.Tag, n.Attrs, ks, noS⟩
noncomputable def tre (m : M) : Fo → List api_Tree
  | .nil => []
  | .cons i k r => trn (Gv m i) (tre m k) :: tre m r
theorem tre_len (m : M) : ∀ F : Fo, (tre m F).length = (tops F).length
  | .nil => rfl
  | .cons i k r => by simp [tre, tops, tre_len m r]
theorem ofdiv : mark_Of.f [100, 105, 118] 0 = some divS := rfl
theorem tree_of {m : M} {i : Int} {kd : Fo} {n : arena_Node} (hn : asc m i = some n) (ok : okN n) (hk : n.Kids = tops kd)
    (ih : ∀ (L : List Int) (p : Nat) (acc : List api_Tree), L.drop p = tops kd → L.length < 4611686018427387904 → (acc.length + (tops kd).length) * 128 ≤ room → Ev (fun k => shot_kids_v1_l1 k (L.length : Int) m L (p : Int) acc) (acc ++ tre m kd))
    (hl : (tops kd).length * 128 ≤ room) : Ev (fun k => shot_Tree.f k i m) [trn (Gv m i) (tre m kd)] := by
  obtain ⟨hg, eg⟩ := gv hn ok
  have hkk : (Gv m i).Kids = tops kd := hg.2.2.2.2.2.2.2.2.1.trans hk
  have ek : Ev (fun k => shot_kids_v1.f k (Gv m i) m) (tre m kd) := by
    refine Ev.succ ?_
    simp only [shot_kids_v1.f, hkk]
    have := ih (tops kd) 0 [] rfl (by rw [room_eq] at hl; omega) (by simpa using hl)
    exact Ev.bind this (Ev.pure _)
  refine Ev.succ ?_
  simp only [shot_Tree.f]
  refine Ev.bind eg ?_
  simp only [Bool.not_true, Bool.false_eq_true, if_false]
  unfold trn
  by_cases h2 : (Gv m i).Kind = 2
  · simp only [if_pos h2]; exact Ev.pure _
  · simp only [if_neg h2]
    by_cases h3 : (Gv m i).Kind = 3
    · simp only [if_pos h3, ofdiv, Option.bind_some]
      exact Ev.bind ek (Ev.pure _)
    · simp only [if_neg h3]
      exact Ev.bind ek (Ev.pure _)
theorem tree_loop (m : M) : ∀ (F : Fo), Rep m F → (ids F).length < 1000000 → ∀ (L : List Int) (p : Nat) (acc : List api_Tree), L.drop p = tops F → L.length < 4611686018427387904 → (acc.length + (tops F).length) * 128 ≤ room →
    Ev (fun k => shot_kids_v1_l1 k (L.length : Int) m L (p : Int) acc) (acc ++ tre m F) := by
  intro F
  induction F with
  | nil =>
    intro _ _ L p acc hd hL hr
    have := drop_nil hd
    refine Ev.from 1 fun k => ?_
    rw [shot_kids_v1_l1, if_neg (by omega)]
    simp [tre]
  | cons i kd r ih1 ih2 =>
    intro hR hI L p acc hd hL hr
    obtain ⟨⟨n, hn, ok, hk, hi⟩, hRk, hRr⟩ := hR
    obtain ⟨hp, hx, hd'⟩ := drop_cons hd
    simp only [ids, List.length_cons, List.length_append] at hI
    simp only [tops, List.length_cons] at hr
    have ht := tops_le kd
    have e1 := tree_of hn ok hk (ih1 hRk (by omega)) (by rw [room_eq]; omega)
    have e2 := ih2 hRr (by omega) L (p + 1) (acc ++ [trn (Gv m i) (tre m kd)]) hd' hL (by simp only [List.length_append, List.length_cons, List.length_nil]; omega)
    refine Ev.succ ?_
    simp only [shot_kids_v1_l1]
    refine Ev.pos (by omega) ?_
    simp only [idx_at _ _ hp, hx, Option.bind_some]
    refine Ev.bind e1 (Ev.pos (by simp only [List.length_append, List.length_cons, List.length_nil]; omega) ?_)
    rw [wrapN _ (by omega) (by omega), show acc ++ tre m (cons i kd r) = acc ++ [trn (Gv m i) (tre m kd)] ++ tre m r by simp [tre]]
    exact e2
/-- the other copy of the loop, at the root -/
theorem kids_loop (m : M) : ∀ (F : Fo), Rep m F → (ids F).length < 1000000 → ∀ (L : List Int) (p : Nat) (acc : List api_Tree), L.drop p = tops F → L.length < 4611686018427387904 → (acc.length + (tops F).length) * 128 ≤ room →
    Ev (fun k => shot_kids_l1 k L (L.length : Int) m (p : Int) acc) (acc ++ tre m F) := by
  intro F
  induction F with
  | nil =>
    intro _ _ L p acc hd hL hr
    have := drop_nil hd
    refine Ev.from 1 fun k => ?_
    rw [shot_kids_l1, if_neg (by omega)]
    simp [tre]
  | cons i kd r ih1 ih2 =>
    intro hR hI L p acc hd hL hr
    obtain ⟨⟨n, hn, ok, hk, hi⟩, hRk, hRr⟩ := hR
    obtain ⟨hp, hx, hd'⟩ := drop_cons hd
    simp only [ids, List.length_cons, List.length_append] at hI
    simp only [tops, List.length_cons] at hr
    have ht := tops_le kd
    have e1 := tree_of hn ok hk (tree_loop m kd hRk (by omega)) (by rw [room_eq]; omega)
    have e2 := ih2 hRr (by omega) L (p + 1) (acc ++ [trn (Gv m i) (tre m kd)]) hd' hL (by simp only [List.length_append, List.length_cons, List.length_nil]; omega)
    refine Ev.succ ?_
    simp only [shot_kids_l1]
    refine Ev.pos (by omega) ?_
    simp only [idx_at _ _ hp, hx, Option.bind_some]
    refine Ev.bind e1 (Ev.pos (by simp only [List.length_append, List.length_cons, List.length_nil]; omega) ?_)
    rw [wrapN _ (by omega) (by omega), show acc ++ tre m (cons i kd r) = acc ++ [trn (Gv m i) (tre m kd)] ++ tre m r by simp [tre]]
    exact e2
theorem trees_of (m : M) {kd : Fo} (hR : Rep m (.cons 0 kd .nil)) (hI : (ids kd).length < 1000000) : Ev (fun k => shot_Trees.f k m) (tre m kd) := by
  obtain ⟨⟨n, hn, ok, hk, hi⟩, hRk, _⟩ := hR
  obtain ⟨hg, eg⟩ := gv hn ok
  have hkk : (Gv m 0).Kids = tops kd := hg.2.2.2.2.2.2.2.2.1.trans hk
  have ht := tops_le kd
  unfold shot_Trees.f
  refine Ev.bind eg ?_
  refine Ev.bind (x := tre m kd) ?_ (Ev.pure _)
  unfold shot_kids.f
  simp only [hkk]
  exact Ev.bind (kids_loop m kd hRk hI (tops kd) 0 [] rfl (by omega) (by rw [room_eq]; simp; omega)) (Ev.pure _)
theorem ltrees_loop (m : M) : ∀ (F : Fo), Rep m F → (ids F).length < 1000000 → ∀ (L : List Int) (p : Nat) (acc : List api_Tree), L.drop p = tops F → L.length < 4611686018427387904 → (acc.length + (tops F).length) * 128 ≤ room →
    Ev (fun k => law21_trees_l1 k m L (p : Int) acc) (acc ++ tre m F) := by
  intro F
  induction F with
  | nil =>
    intro _ _ L p acc hd hL hr
    have := drop_nil hd
    refine Ev.from 1 fun k => ?_
    rw [law21_trees_l1, if_neg (by omega)]
    simp [tre]
  | cons i kd r ih1 ih2 =>
    intro hR hI L p acc hd hL hr
    obtain ⟨⟨n, hn, ok, hk, hi⟩, hRk, hRr⟩ := hR
    obtain ⟨hp, hx, hd'⟩ := drop_cons hd
    simp only [ids, List.length_cons, List.length_append] at hI
    simp only [tops, List.length_cons] at hr
    have ht := tops_le kd
    obtain ⟨hg, eg⟩ := gv hn ok
    have hkk : (Gv m i).Kids = tops kd := hg.2.2.2.2.2.2.2.2.1.trans hk
    have e1 : Ev (fun k => law21_trees.f k i m) (tre m kd) := by
      refine Ev.succ ?_
      simp only [law21_trees.f]
      refine Ev.bind eg ?_
      simp only [hkk]
      exact Ev.bind (ih1 hRk (by omega) (tops kd) 0 [] rfl (by omega) (by rw [room_eq]; simp; omega)) (Ev.pure _)
    have e2 := ih2 hRr (by omega) L (p + 1) (acc ++ [trn (Gv m i) (tre m kd)]) hd' hL (by simp only [List.length_append, List.length_cons, List.length_nil]; omega)
    have el : (acc ++ [trn (Gv m i) (tre m kd)]).length * 128 ≤ room := by simp only [List.length_append, List.length_cons, List.length_nil]; omega
    refine Ev.succ ?_
    simp only [law21_trees_l1]
    refine Ev.pos (by omega) ?_
    simp only [idx_at _ _ hp, hx, Option.bind_some]
    refine Ev.bind eg (Ev.bind e1 ?_)
    rw [wrapN _ (by omega) (by omega), show acc ++ tre m (cons i kd r) = acc ++ [trn (Gv m i) (tre m kd)] ++ tre m r by simp [tre]]
    unfold trn at e2 el ⊢
    by_cases h2 : (Gv m i).Kind = 2
    · simp only [if_pos h2] at e2 el ⊢
      exact Ev.pos el e2
    · simp only [if_neg h2] at e2 el ⊢
      by_cases h3 : (Gv m i).Kind = 3
      · simp only [if_pos h3, ofdiv, Option.bind_some] at e2 el ⊢
        exact Ev.pos el e2
      · simp only [if_neg h3] at e2 el ⊢
        exact Ev.pos el e2
theorem ltrees_of (m : M) {i : Int} {kd : Fo} (hR : Rep m (.cons i kd .nil)) (hI : (ids kd).length < 1000000) : Ev (fun k => law21_trees.f k i m) (tre m kd) := by
  obtain ⟨⟨n, hn, ok, hk, hi⟩, hRk, _⟩ := hR
  obtain ⟨hg, eg⟩ := gv hn ok
  have hkk : (Gv m i).Kids = tops kd := hg.2.2.2.2.2.2.2.2.1.trans hk
  have ht := tops_le kd
  refine Ev.succ ?_
  simp only [law21_trees.f]
  refine Ev.bind eg ?_
  simp only [hkk]
  exact Ev.bind (ltrees_loop m kd hRk hI (tops kd) 0 [] rfl (by omega) (by rw [room_eq]; simp; omega)) (Ev.pure _)
end PA
end Go.Proofs.Ga

/- A logic of plain data over the model, proved sound: part PD; conditions stand in each theorem. -/
import Derived.Test.YtajaolmagnldaaaDlPC
set_option maxRecDepth 100000
set_option linter.unusedVariables false
set_option linter.unusedSimpArgs false
/-! A node is put into an arena. -/
namespace Go.Proofs.Ga
open Go.Proofs.Dl
namespace PA
namespace Fo
def snoc : Fo → Int → Fo
  | nil, c => cons c nil nil
  | cons i k r, c => cons i k (snoc r c)
def ins (a c : Int) : Fo → Fo
  | nil => nil
  | cons i k r => cons i (if i = a then snoc (ins a c k) c else ins a c k) (ins a c r)
theorem tops_snoc : ∀ (F : Fo) (c : Int), tops (snoc F c) = tops F ++ [c]
  | nil, c => rfl
  | cons i k r, c => by simp [snoc, tops, tops_snoc r c]
theorem ids_snoc : ∀ (F : Fo) (c : Int), ids (snoc F c) = ids F ++ [c]
  | nil, c => rfl
  | cons i k r, c => by simp [snoc, ids, ids_snoc r c]
theorem tops_ins (a c : Int) : ∀ F : Fo, tops (ins a c F) = tops F
  | nil => rfl
  | cons i k r => by simp [ins, tops, tops_ins a c r]
theorem ins_none (a c : Int) : ∀ F : Fo, a ∉ ids F → ins a c F = F
  | nil, _ => rfl
  | cons i k r, h => by
    simp only [ids, List.mem_cons, List.mem_append, not_or] at h
    rw [ins, ins_none a c k h.2.1, ins_none a c r h.2.2, if_neg (by omega)]
theorem ids_ins (a c : Int) : ∀ F : Fo, a ∈ ids F → (ids F).Nodup → (ids (ins a c F)).Perm (c :: ids F)
  | nil, h, _ => by cases h
  | cons i k r, h, hn => by
    simp only [ids, List.nodup_cons, List.mem_append, not_or] at hn
    obtain ⟨⟨hk, hr⟩, hn⟩ := hn
    rw [List.nodup_append] at hn
    obtain ⟨nk, nr, hd⟩ := hn
    simp only [ids, List.mem_cons, List.mem_append] at h
    simp only [ins, ids]
    by_cases hi : i = a
    · subst hi
      rw [if_pos rfl, ins_none i c k hk, ins_none i c r hr, ids_snoc, List.append_assoc, List.singleton_append]
      exact ((List.perm_middle).cons i).trans (List.Perm.swap c i _)
    · rw [if_neg hi]
      rcases h with h | h | h
      · exact absurd h.symm hi
      · have hr' : a ∉ ids r := fun h' => hd a h a h' rfl
        rw [ins_none a c r hr']
        have := ids_ins a c k h nk
        exact ((this.append_right (ids r)).cons i).trans (List.Perm.swap c i _)
      · have hk' : a ∉ ids k := fun h' => hd a h' a h rfl
        rw [ins_none a c k hk']
        have := ids_ins a c r h nr
        exact (((this.append_left (ids k)).trans List.perm_middle).cons i).trans (List.Perm.swap c i _)
theorem Rep.congr {m m' : M} : ∀ {F : Fo}, Rep m F → (∀ i ∈ ids F, asc m' i = asc m i) → Rep m' F
  | nil, _, _ => trivial
  | cons i k r, ⟨⟨n, h1, h2, h3, h4⟩, hk, hr⟩, h => by
    simp only [ids, List.mem_cons, List.mem_append] at h
    exact ⟨⟨n, by rw [h i (.inl rfl)]; exact h1, h2, h3, h4⟩, Rep.congr hk fun j hj => h j (.inr (.inl hj)), Rep.congr hr fun j hj => h j (.inr (.inr hj))⟩
theorem Rep.snoc {m : M} {c : Int} {nc : arena_Node} (hc : asc m c = some nc) (oc : okN nc) (kc : nc.Kids = []) (ic : nc.Id = c) : ∀ {F : Fo}, Rep m F → Rep m (snoc F c)
  | nil, _ => ⟨⟨nc, hc, oc, kc, ic⟩, trivial, trivial⟩
  | cons i k r, ⟨h1, hk, hr⟩ => ⟨h1, hk, Rep.snoc hc oc kc ic hr⟩
theorem Rep.ins {m m' : M} {a c : Int} {n n' nc : arena_Node} (ha : asc m a = some n) (ha' : asc m' a = some n') (on : okN n') (kn : n'.Kids = n.Kids ++ [c]) (ia : n'.Id = a)
    (hc : asc m' c = some nc) (oc : okN nc) (kc : nc.Kids = []) (ic : nc.Id = c) : ∀ {F : Fo}, Rep m F → (∀ i ∈ ids F, i ≠ a → asc m' i = asc m i) → Rep m' (ins a c F)
  | nil, _, _ => trivial
  | cons i k r, ⟨⟨q, h1, h2, h3, h4⟩, hk, hr⟩, h => by
    simp only [ids, List.mem_cons, List.mem_append] at h
    have rk := Rep.ins ha ha' on kn ia hc oc kc ic hk fun j hj => h j (.inr (.inl hj))
    have rr := Rep.ins ha ha' on kn ia hc oc kc ic hr fun j hj => h j (.inr (.inr hj))
    by_cases hi : i = a
    · subst hi
      have : q = n := Option.some.inj (h1.symm.trans ha)
      subst this
      rw [Fo.ins, if_pos rfl]
      exact ⟨⟨n', ha', on, by rw [kn, h3, tops_snoc, tops_ins], ia⟩, Rep.snoc hc oc kc ic rk, rr⟩
    · rw [Fo.ins, if_neg hi]
      exact ⟨⟨q, by rw [h i (.inl rfl) hi]; exact h1, h2, by rw [h3, tops_ins], h4⟩, rk, rr⟩
theorem Rep.at {m : M} : ∀ {F : Fo}, Rep m F → ∀ i ∈ ids F, ∃ n, asc m i = some n ∧ okN n ∧ n.Id = i
  | nil, _, i, h => by cases h
  | cons j k r, ⟨⟨n, h1, h2, h3, h4⟩, hk, hr⟩, i, h => by
    simp only [ids, List.mem_cons, List.mem_append] at h
    rcases h with rfl | h | h
    · exact ⟨n, h1, h2, h4⟩
    · exact Rep.at hk i h
    · exact Rep.at hr i h
theorem Rep.kids_le {m : M} : ∀ {F : Fo}, Rep m F → ∀ i ∈ ids F, ∀ n, asc m i = some n → n.Kids.length ≤ (ids F).length
  | nil, _, i, h, _, _ => by cases h
  | cons j k r, ⟨⟨n, h1, h2, h3, h4⟩, hk, hr⟩, i, h, q, hq => by
    simp only [ids, List.mem_cons, List.mem_append, List.length_cons, List.length_append] at h ⊢
    rcases h with rfl | h | h
    · obtain rfl := Option.some.inj (hq.symm.trans h1)
      have := tops_le k
      rw [h3]; omega
    · have := Rep.kids_le hk i h q hq; omega
    · have := Rep.kids_le hr i h q hq; omega
end Fo
open Fo
theorem sub_len : ∀ (l r : List Int), l.Nodup → (∀ x ∈ l, x ∈ r) → l.length ≤ r.length
  | [], _, _, _ => Nat.zero_le _
  | a :: l, r, hn, h => by
    rw [List.nodup_cons] at hn
    have ha := h a (List.mem_cons_self ..)
    have := sub_len l (r.erase a) hn.2 fun x hx => (List.mem_erase_of_ne (fun e : x = a => hn.1 (by rw [← e]; exact hx))).2 (h x (List.mem_cons_of_mem _ hx))
    rw [List.length_erase_of_mem ha] at this
    have hp : 0 < r.length := List.length_pos_of_mem ha
    simp only [List.length_cons]
    omega
/-- Each node of P has its parent in P, or none. -/
def up (m : M) (P : List Int) : Prop := ∀ i ∈ P, ∃ n, asc m i = some n ∧ okN n ∧ n.Id = i ∧ (n.Parent = -1 ∨ n.Parent ∈ P)
theorem inside_loop (m : M) (P : List Int) (hP : up m P) (hno : asc m (-1) = none) (top : Int) (ht : top ∉ P) (hl : P.length < 1000000) : ∀ (n : Nat) (met : List Int) (ok : Bool) (i p : Int), met.length + n = P.length → met.Nodup → (∀ x ∈ met, x ∈ P) →
    (ok = true → i ∈ P ∧ (p = -1 ∨ p ∈ P)) → Ev (fun k => dom_Inside_l1 k top m ok i p met) (.inr ()) := by
  intro n
  induction n with
  | zero =>
    intro met ok i p hn hd hs ho
    refine Ev.succ ?_
    simp only [dom_Inside_l1]
    cases ok with
    | false => exact Ev.neg (by simp) (Ev.pure _)
    | true =>
      have hi := (ho rfl).1
      have hmem : i ∈ met := Classical.byContradiction fun hne => by
        have := sub_len (i :: met) P (List.nodup_cons.2 ⟨hne, hd⟩) (fun x hx => by rcases List.mem_cons.1 hx with rfl | hx; exact hi; exact hs x hx)
        simp at this; omega
      refine Ev.pos rfl (Ev.bind (contains i met (by omega)) ?_)
      exact Ev.neg (by simp [hmem]) (Ev.pure _)
  | succ n ih =>
    intro met ok i p hn hd hs ho
    refine Ev.succ ?_
    simp only [dom_Inside_l1]
    cases ok with
    | false => exact Ev.neg (by simp) (Ev.pure _)
    | true =>
      obtain ⟨hi, hp⟩ := ho rfl
      refine Ev.pos rfl (Ev.bind (contains i met (by omega)) ?_)
      by_cases hmem : i ∈ met
      · exact Ev.neg (by simp [hmem]) (Ev.pure _)
      · refine Ev.pos (by simp [hmem]) (Ev.neg (fun e => ht (e ▸ hi)) (Ev.pos (by rw [room_eq]; simp; omega) ?_))
        have hd' : (met ++ [i]).Nodup := by
          rw [List.nodup_append]
          exact ⟨hd, by simp, fun x hx y hy => by simp at hy; subst hy; exact fun e => hmem (e ▸ hx)⟩
        have hs' : ∀ x ∈ met ++ [i], x ∈ P := fun x hx => by
          rcases List.mem_append.1 hx with h | h
          · exact hs x h
          · simp at h; subst h; exact hi
        rcases hp with rfl | hp
        · refine Ev.bind (x := (zeroN, false)) (Ev.of fun k => get_none hno k) ?_
          exact ih _ false _ _ (by simp; omega) hd' hs' (fun h => by cases h)
        · obtain ⟨q, h1, h2, h3, h4⟩ := hP p hp
          obtain ⟨g, hg, eg⟩ := get h1 h2
          refine Ev.bind eg ?_
          refine ih _ true _ _ (by simp; omega) hd' hs' (fun _ => ⟨?_, ?_⟩)
          · rw [hg.2.1, h3]; exact hp
          · rw [hg.2.2.2.1]; exact h4
theorem inside_no (m : M) (P : List Int) (hP : up m P) (hno : asc m (-1) = none) (top : Int) (ht : top ∉ P) (hl : P.length < 1000000) (i : Int) (hi : i ∈ P) : Ev (fun k => dom_Inside.f k i top m) false := by
  obtain ⟨q, h1, h2, h3, h4⟩ := hP i hi
  obtain ⟨g, hg, eg⟩ := get h1 h2
  unfold dom_Inside.f
  refine Ev.bind eg (Ev.bind (inside_loop m P hP hno top ht hl P.length [] true g.Id g.Parent (by simp) (by simp) (by simp) (fun _ => ⟨?_, ?_⟩)) ?_)
  · rw [hg.2.1, h3]; exact hi
  · rw [hg.2.2.2.1]; exact h4
  · exact Ev.pure _
end PA
end Go.Proofs.Ga

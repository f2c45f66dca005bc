/- A logic of plain data over the model, proved sound: part C; conditions stand in each theorem. -/
import Derived.Test.YtajaolmagnldaaaDlB
set_option linter.unusedVariables false
/-! Steps that leave the relation standing. -/
namespace Go.Proofs.Dl
variable {F : Nat → Prop}

mutual
theorem free_nil : ∀ d : Dd, d.free [] = true
  | .top => rfl | .p _ => rfl | .nil _ => rfl | .null => rfl | .nullm => rfl | .nullf => rfl | .ptr _ _ => rfl | .cptr _ => rfl
  | .eptr .. => rfl | .own .. => rfl | .cown .. => rfl | .mp _ => rfl
  | .fn _ cap => by simp only [Dd.free]; exact freeL_nil cap
theorem freeL_nil : ∀ l : List Dd, Dd.freeL [] l = true
  | [] => rfl
  | d :: r => by simp only [Dd.freeL, free_nil d, freeL_nil r, Bool.and_self]
end
@[simp] theorem kill_nil (d : Dd) : d.kill [] = d := by simp [Dd.kill, free_nil]
theorem map_kill_nil (l : List Dd) : l.map (Dd.kill []) = l := by
  induction l with
  | nil => rfl
  | cons d r ih => simp [ih]
@[simp] theorem obkill_nil (o : Ob) : o.kill [] = o := by
  cases o with
  | box cs => simp [Ob.kill, map_kill_nil]
  | row e sz kc xs =>
    have : xs.map (fun y => y.map (Dd.kill [])) = xs := by
      induction xs with
      | nil => rfl
      | cons d r ih => simp [map_kill_nil]
    simp [Ob.kill, this]
  | _ => rfl
mutual
theorem vkill_nil : ∀ v : Vv, v.kill [] = v
  | .top => rfl
  | .one d => by simp [Vv.kill, free_nil]
  | .agg ds => by simp [Vv.kill, map_kill_nil]
  | .tup vs => by simp only [Vv.kill, vkillL_nil vs]
theorem vkillL_nil : ∀ l : List Vv, Vv.killL [] l = l
  | [] => rfl
  | v :: r => by simp only [Vv.killL, vkill_nil v, vkillL_nil r]
end
@[simp] theorem killE_nil (e : Env) : killE [] e = e := by
  induction e with
  | nil => rfl
  | cons x r ih => obtain ⟨n, v⟩ := x; simp only [killE, List.map_cons, vkill_nil] at ih ⊢; rw [ih]
@[simp] theorem killS_nil (σ : Store) : killS [] σ = σ := by
  induction σ with
  | nil => rfl
  | cons x r ih => simp only [killS, List.map_cons, obkill_nil] at ih ⊢; rw [ih]
theorem killS_get (mv : List Nat) (σ : Store) (l : Nat) : (killS mv σ)[l]? = (σ[l]?).map (Ob.kill mv) := by simp [killS]
theorem killS_length (mv : List Nat) (σ : Store) : (killS mv σ).length = σ.length := by simp [killS]
theorem owns_kill {g : G} {o : Ob} {mv : List Nat} {b : Nat} : owns g (o.kill mv) b ↔ owns g o b := by cases o <;> rfl
theorem Own_kill {φ : List G} {σ : Store} {mv : List Nat} {b : Nat} : Own φ (killS mv σ) b ↔ Own φ σ b := by
  constructor
  · rintro ⟨l, o, g, hl, hg, ho⟩
    rw [killS_get] at hl
    cases h : σ[l]? with
    | none => rw [h] at hl; cases hl
    | some o0 => rw [h] at hl; cases hl; exact ⟨l, o0, g, h, hg, owns_kill.1 ho⟩
  · rintro ⟨l, o, g, hl, hg, ho⟩
    exact ⟨l, o.kill mv, g, by rw [killS_get, hl]; rfl, hg, owns_kill.2 ho⟩
theorem getE_kill (mv : List Nat) : ∀ (e : Env) (n : Nat), getE (killE mv e) n = (getE e n).kill mv
  | [], n => rfl
  | (m, v) :: e, n => by
    have := getE_kill mv e n
    simp only [killE, List.map_cons, getE] at this ⊢
    split
    · rfl
    · exact this

theorem OR.kill {mv : List Nat} {φ φ' : List G} {ok ok' : Nat → Prop} {w w' : World} (m : Mono mv φ ok w φ' ok' w') {g : G} {o : Ob}
    (hb : (∃ b, owns g o b) → w'.heap[g.b]? = w.heap[g.b]?) (h : OR φ ok w g o) : OR φ' ok' w' g (o.kill mv) := by
  cases o with
  | none => trivial
  | res => exact h
  | box cs =>
    obtain ⟨c, e, h1, h2⟩ := h
    exact ⟨c, e, (hb ⟨g.b, rfl⟩).trans h1, h2.kill m⟩
  | row e sz kc xs =>
    obtain ⟨h0, h1, h2, h3, h4⟩ := h
    refine ⟨h0, h1, by simpa using h2, h3, fun hg => ?_⟩
    obtain ⟨c, h5, h6, h7⟩ := h4 hg
    refine ⟨c, (hb ⟨g.b, hg, rfl⟩).trans h5, h6, fun i es hi => ?_⟩
    rw [List.getElem?_map] at hi
    cases hx : xs[i]? with
    | none => rw [hx] at hi; cases hi
    | some es0 => rw [hx] at hi; cases hi; obtain ⟨a, b⟩ := h7 i es0 hx; exact ⟨by simpa using a, b.kill m⟩
  | fro sz xs =>
    obtain ⟨h1, h2, us, h3, h4, h5⟩ := h
    refine ⟨h1, fun hx => (m.okb _ (h2 hx)).1, us, h3, fun i j hi hj => ?_, fun i es j c hi hj => (h5 i es j c hi hj).mono m.okb⟩
    have hx : xs ≠ [] := by intro e; subst e; simp at hi
    rw [World.cell?_of_block (w := w) (m.okb _ (h2 hx)).2]
    exact h4 i j hi hj
  | map es =>
    obtain ⟨en, cl, h1, h2, h3⟩ := h
    refine ⟨en, cl, (hb ⟨g.b, rfl⟩).trans h1, h2, fun i k v q hi hq => ?_⟩
    obtain ⟨a, b, cs, c, d⟩ := h3 i k v q hi hq
    refine ⟨a, b.mono m.okb, cs, c, d.1, fun j x y hx hy => ?_⟩
    have := d.2 j x y hx hy
    rw [List.getElem?_map] at hx
    cases hx' : v[j]? with
    | none => rw [hx'] at hx; cases hx
    | some z => rw [hx'] at hx; cases hx; exact this.mono m (by simp [Dd.free])

theorem Kept.refl (own : Nat → Prop) (w : World) : Kept own w w := ⟨rfl, rfl, rfl, Nat.le_refl _, fun _ _ _ => rfl⟩
theorem Adv.refl (φ : List G) (σ : Store) (w : World) : Adv [] φ σ w φ σ w := ⟨Kept.refl _ _, fun b h => .inl h, fun l g h _ => h⟩
theorem Kept.trans {o1 o2 : Nat → Prop} {a b c : World} (h : Kept o1 a b) (k : Kept o2 b c) (ho : ∀ x, x < a.heap.size → o2 x → o1 x) : Kept o1 a c :=
  ⟨k.os.trans h.os, k.tape.trans h.tape, k.output.trans h.output, Nat.le_trans h.size k.size, fun x hx hn => (k.block x (Nat.lt_of_lt_of_le hx h.size) (fun q => hn (ho x hx q))).trans (h.block x hx hn)⟩

/-- One object is turned; others stand. -/
theorem Rel.upd {φ : List G} {σ : Store} {w w' : World} (R : Rel F φ σ w) (mv : List Nat) (l0 : Nat) (ob ob' : Ob) (g g' : G) (hl : σ[l0]? = some ob) (hg : φ[l0]? = some g)
    (hmv : l0 ∈ mv ∨ g' = g ∨ g.on = false) (hmv' : ∀ l ∈ mv, l = l0)
    (hk : Kept (owns g ob) w w') (hown : ∀ b, owns g' ob' b → owns g ob b ∨ w.heap.size ≤ b)
    (hob : Mono mv φ (Okb F φ σ w) w (φ.set l0 g') (Okb F (φ.set l0 g') (σ.set l0 ob') w') w' → OR (φ.set l0 g') (Okb F (φ.set l0 g') (σ.set l0 ob') w') w' g' (ob'.kill mv)) :
    Rel F (φ.set l0 g') (killS mv (σ.set l0 ob')) w' ∧ Adv mv φ σ w (φ.set l0 g') (σ.set l0 ob') w' := by
  have hlt : l0 < φ.length := (List.getElem?_eq_some_iff.1 hg).1
  have hls : l0 < σ.length := (List.getElem?_eq_some_iff.1 hl).1
  have hobOwn : ∀ b, owns g ob b → Own φ σ b := fun b h => ⟨l0, ob, g, hl, hg, h⟩
  have hownW : ∀ b, Own (φ.set l0 g') (σ.set l0 ob') b → Own φ σ b ∨ w.heap.size ≤ b := by
    rintro b ⟨l, o, q, h1, h2, h3⟩
    by_cases e : l = l0
    · subst e
      rw [List.getElem?_set_self hls] at h1
      rw [List.getElem?_set_self hlt] at h2
      cases h1; cases h2
      exact (hown b h3).imp (hobOwn b) id
    · rw [List.getElem?_set_ne (Ne.symm e)] at h1 h2
      exact .inl ⟨l, o, q, h1, h2, h3⟩
  have A : Adv mv φ σ w (φ.set l0 g') (σ.set l0 ob') w' := by
    refine ⟨⟨hk.os, hk.tape, hk.output, hk.size, fun b hb hn => hk.block b hb (fun h => hn (hobOwn b h))⟩, hownW, fun l q hq hm => ?_⟩
    obtain ⟨hq1, hq2⟩ := hq
    by_cases e : l = l0
    · subst e
      rw [hg] at hq1; cases hq1
      rcases hmv with h | h | h
      · exact absurd h hm
      · exact ⟨by rw [List.getElem?_set_self hlt, h], hq2⟩
      · rw [hq2] at h; cases h
    · exact ⟨by rw [List.getElem?_set_ne (Ne.symm e)]; exact hq1, hq2⟩
  have M := A.mono (F := F)
  have hokk : ∀ b, Okb F (φ.set l0 g') (killS mv (σ.set l0 ob')) w' b ↔ Okb F (φ.set l0 g') (σ.set l0 ob') w' b := fun b => by unfold Okb; rw [Own_kill]
  have hokk' : Okb F (φ.set l0 g') (killS mv (σ.set l0 ob')) w' = Okb F (φ.set l0 g') (σ.set l0 ob') w' := funext fun b => propext (hokk b)
  refine ⟨⟨by simp [killS_length, R.len], fun l o q h1 h2 => ?_, fun l l' o o' q q' b h1 h1' h2 h2' h3 h3' => ?_, fun b hb hF => ?_, fun b hF => Nat.lt_of_lt_of_le (R.fb b hF) hk.size⟩, A⟩
  · rw [hokk']
    rw [killS_get] at h1
    by_cases e : l = l0
    · subst e
      rw [List.getElem?_set_self hls] at h1
      rw [List.getElem?_set_self hlt] at h2
      cases h1; cases h2
      exact hob M
    · rw [List.getElem?_set_ne (Ne.symm e)] at h1 h2
      cases hs : σ[l]? with
      | none => rw [hs] at h1; cases h1
      | some o0 =>
        rw [hs] at h1; cases h1
        refine OR.kill M ?_ (R.obj l o0 q hs h2)
        rintro ⟨b, hb⟩
        have hbg : q.b = b := by cases o0 <;> simp [owns] at hb <;> first | exact hb | exact hb.2
        subst hbg
        have hne : ¬ owns g ob q.b := fun h => e (R.inj l l0 o0 ob q g q.b hs hl h2 hg hb h)
        refine hk.block q.b ?_ hne
        have := R.obj l o0 q hs h2
        cases o0 with
        | box cs => obtain ⟨c, e', h5, _⟩ := this; exact (Array.getElem?_eq_some_iff.1 h5).1
        | map es => obtain ⟨c, e', h5, _⟩ := this; exact (Array.getElem?_eq_some_iff.1 h5).1
        | row e' sz kc xs => obtain ⟨_, _, _, _, h5⟩ := this; obtain ⟨c, h6, _⟩ := h5 hb.1; exact (Array.getElem?_eq_some_iff.1 h6).1
        | none => exact hb.elim
        | res => exact hb.elim
        | fro _ _ => exact hb.elim
  · rw [killS_get] at h1 h1'
    have key : ∀ (m : Nat) (o : Ob) (q : G), ((σ.set l0 ob')[m]?).map (Ob.kill mv) = some o → (φ.set l0 g')[m]? = some q → owns q o b →
        (m = l0 ∧ owns g' ob' b) ∨ (m ≠ l0 ∧ ∃ o0, σ[m]? = some o0 ∧ φ[m]? = some q ∧ owns q o0 b) := by
      intro m o q k1 k2 k3
      by_cases e : m = l0
      · subst e
        rw [List.getElem?_set_self hls] at k1
        rw [List.getElem?_set_self hlt] at k2
        cases k1; cases k2
        exact .inl ⟨rfl, owns_kill.1 k3⟩
      · rw [List.getElem?_set_ne (Ne.symm e)] at k1 k2
        cases hs : σ[m]? with
        | none => rw [hs] at k1; cases k1
        | some o0 => rw [hs] at k1; cases k1; exact .inr ⟨e, o0, rfl, k2, owns_kill.1 k3⟩
    have hsz : ∀ (m : Nat) (o0 : Ob) (q : G), σ[m]? = some o0 → φ[m]? = some q → owns q o0 b → b < w.heap.size := by
      intro m o0 q hs h2 hb
      have := R.obj m o0 q hs h2
      cases o0 with
      | box cs => cases hb; obtain ⟨c, e', h5, _⟩ := this; exact (Array.getElem?_eq_some_iff.1 h5).1
      | map es => cases hb; obtain ⟨c, e', h5, _⟩ := this; exact (Array.getElem?_eq_some_iff.1 h5).1
      | row e' sz kc xs => obtain ⟨hb1, rfl⟩ := hb; obtain ⟨_, _, _, _, h5⟩ := this; obtain ⟨c, h6, _⟩ := h5 hb1; exact (Array.getElem?_eq_some_iff.1 h6).1
      | none => exact hb.elim
      | res => exact hb.elim
      | fro _ _ => exact hb.elim
    rcases key l o q h1 h2 h3 with ⟨e1, k1⟩ | ⟨e1, o1, s1, p1, k1⟩ <;> rcases key l' o' q' h1' h2' h3' with ⟨e2, k2⟩ | ⟨e2, o2, s2, p2, k2⟩
    · rw [e1, e2]
    · exfalso
      rcases hown b k1 with h | h
      · exact e2 (R.inj l' l0 o2 ob q' g b s2 hl p2 hg k2 h)
      · exact absurd (hsz l' o2 q' s2 p2 k2) (by omega)
    · exfalso
      rcases hown b k2 with h | h
      · exact e1 (R.inj l l0 o1 ob q g b s1 hl p1 hg k1 h)
      · exact absurd (hsz l o1 q s1 p1 k1) (by omega)
    · exact R.inj l l' o1 o2 q q' b s1 s2 p1 p2 k1 k2
  · rcases hownW b (Own_kill.1 hb) with h | h
    · exact R.dis b h hF
    · exact absurd (R.fb b hF) (by omega)

/-- A new object. -/
theorem Rel.push {φ : List G} {σ : Store} {w w' : World} (R : Rel F φ σ w) (ob : Ob) (g : G)
    (hk : Kept (fun _ => False) w w') (hown : ∀ b, owns g ob b → w.heap.size ≤ b)
    (hob : Mono [] φ (Okb F φ σ w) w (φ ++ [g]) (Okb F (φ ++ [g]) (σ ++ [ob]) w') w' → OR (φ ++ [g]) (Okb F (φ ++ [g]) (σ ++ [ob]) w') w' g ob) :
    Rel F (φ ++ [g]) (σ ++ [ob]) w' ∧ Adv [] φ σ w (φ ++ [g]) (σ ++ [ob]) w' := by
  have hlen := R.len
  have split : ∀ (l : Nat) (o : Ob) (q : G), (σ ++ [ob])[l]? = some o → (φ ++ [g])[l]? = some q → (σ[l]? = some o ∧ φ[l]? = some q) ∨ (l = σ.length ∧ o = ob ∧ q = g) := by
    intro l o q h1 h2
    rcases Nat.lt_or_ge l σ.length with hl | hl
    · rw [List.getElem?_append_left hl] at h1
      rw [List.getElem?_append_left (by omega)] at h2
      exact .inl ⟨h1, h2⟩
    · rw [List.getElem?_append_right hl] at h1
      rw [List.getElem?_append_right (by omega)] at h2
      cases h : l - σ.length with
      | zero => rw [h] at h1; rw [hlen, h] at h2; simp at h1 h2; exact .inr ⟨by omega, h1.symm, h2.symm⟩
      | succ n => rw [h] at h1; simp at h1
  have A : Adv [] φ σ w (φ ++ [g]) (σ ++ [ob]) w' := by
    refine ⟨⟨hk.os, hk.tape, hk.output, hk.size, fun b hb _ => hk.block b hb id⟩, ?_, fun l q hq _ => ?_⟩
    · rintro b ⟨l, o, q, h1, h2, h3⟩
      rcases split l o q h1 h2 with ⟨a, c⟩ | ⟨_, rfl, rfl⟩
      · exact .inl ⟨l, o, q, a, c, h3⟩
      · exact .inr (hown b h3)
    · exact ⟨by rw [List.getElem?_append_left (List.getElem?_eq_some_iff.1 hq.1).1]; exact hq.1, hq.2⟩
  have M := A.mono (F := F)
  have hsz : ∀ (m : Nat) (o0 : Ob) (q : G) (b : Nat), σ[m]? = some o0 → φ[m]? = some q → owns q o0 b → b < w.heap.size ∧ q.b = b := by
    intro m o0 q b hs h2 hb
    have := R.obj m o0 q hs h2
    cases o0 with
    | box cs => cases hb; obtain ⟨c, e', h5, _⟩ := this; exact ⟨(Array.getElem?_eq_some_iff.1 h5).1, rfl⟩
    | map es => cases hb; obtain ⟨c, e', h5, _⟩ := this; exact ⟨(Array.getElem?_eq_some_iff.1 h5).1, rfl⟩
    | row e' sz kc xs => obtain ⟨hb1, rfl⟩ := hb; obtain ⟨_, _, _, _, h5⟩ := this; obtain ⟨c, h6, _⟩ := h5 hb1; exact ⟨(Array.getElem?_eq_some_iff.1 h6).1, rfl⟩
    | none => exact hb.elim
    | res => exact hb.elim
    | fro _ _ => exact hb.elim
  refine ⟨⟨by simp [hlen], fun l o q h1 h2 => ?_, fun l l' o o' q q' b h1 h1' h2 h2' h3 h3' => ?_, fun b hb hF => (A.own b hb).elim (fun h => R.dis b h hF) (fun h => absurd (R.fb b hF) (by omega)), fun b hF => Nat.lt_of_lt_of_le (R.fb b hF) hk.size⟩, A⟩
  · rcases split l o q h1 h2 with ⟨a, c⟩ | ⟨_, rfl, rfl⟩
    · have := OR.kill M (g := q) (o := o) (by rintro ⟨b, hb⟩; obtain ⟨k1, k2⟩ := hsz l o q b a c hb; rw [k2]; exact hk.block b k1 id) (R.obj l o q a c)
      simpa using this
    · exact hob M
  · rcases split l o q h1 h2 with ⟨a, c⟩ | ⟨e1, rfl, rfl⟩ <;> rcases split l' o' q' h1' h2' with ⟨a', c'⟩ | ⟨e2, e3, e4⟩
    · exact R.inj l l' o o' q q' b a a' c c' h3 h3'
    · subst e3 e4; exact absurd (hsz l o q b a c h3).1 (by have := hown b h3'; omega)
    · exact absurd (hsz l' o' q' b a' c' h3').1 (by have := hown b h3; omega)
    · omega

/-- An object is turned, and goes on under a new name. -/
theorem Rel.move {φ : List G} {σ : Store} {w w' : World} (R : Rel F φ σ w) (l0 : Nat) (ob ob' : Ob) (g g' : G) (hl : σ[l0]? = some ob) (hg : φ[l0]? = some g)
    (hk : Kept (owns g ob) w w') (hown : ∀ b, owns g' ob' b → owns g ob b ∨ w.heap.size ≤ b)
    (hob : Mono [] φ (Okb F φ σ w) w (φ ++ [g']) (Okb F (φ ++ [g']) (σ.set l0 .none ++ [ob']) w') w' → OR (φ ++ [g']) (Okb F (φ ++ [g']) (σ.set l0 .none ++ [ob']) w') w' g' ob') :
    Rel F (φ ++ [g']) (σ.set l0 .none ++ [ob']) w' ∧ Adv [] φ σ w (φ ++ [g']) (σ.set l0 .none ++ [ob']) w' := by
  have hlen := R.len
  have hls : l0 < σ.length := (List.getElem?_eq_some_iff.1 hl).1
  have hobOwn : ∀ b, owns g ob b → Own φ σ b := fun b h => ⟨l0, ob, g, hl, hg, h⟩
  have split : ∀ (l : Nat) (o : Ob) (q : G), (σ.set l0 .none ++ [ob'])[l]? = some o → (φ ++ [g'])[l]? = some q → (l ≠ l0 ∧ σ[l]? = some o ∧ φ[l]? = some q) ∨ (l = l0 ∧ o = .none) ∨ (l = σ.length ∧ o = ob' ∧ q = g') := by
    intro l o q h1 h2
    rcases Nat.lt_or_ge l σ.length with hlt | hge
    · rw [List.getElem?_append_left (by simpa using hlt)] at h1
      rw [List.getElem?_append_left (by omega)] at h2
      by_cases e : l = l0
      · subst e; rw [List.getElem?_set_self hlt] at h1; cases h1; exact .inr (.inl ⟨rfl, rfl⟩)
      · rw [List.getElem?_set_ne (Ne.symm e)] at h1; exact .inl ⟨e, h1, h2⟩
    · rw [List.getElem?_append_right (by simpa using hge)] at h1
      rw [List.getElem?_append_right (by omega)] at h2
      simp only [List.length_set] at h1
      cases h : l - σ.length with
      | zero => rw [h] at h1; rw [hlen, h] at h2; simp at h1 h2; exact .inr (.inr ⟨by omega, h1.symm, h2.symm⟩)
      | succ n => rw [h] at h1; simp at h1
  have hownW : ∀ b, Own (φ ++ [g']) (σ.set l0 .none ++ [ob']) b → Own φ σ b ∨ w.heap.size ≤ b := by
    rintro b ⟨l, o, q, h1, h2, h3⟩
    rcases split l o q h1 h2 with ⟨_, a, c⟩ | ⟨_, rfl⟩ | ⟨_, rfl, rfl⟩
    · exact .inl ⟨l, o, q, a, c, h3⟩
    · exact h3.elim
    · exact (hown b h3).imp (hobOwn b) id
  have A : Adv [] φ σ w (φ ++ [g']) (σ.set l0 .none ++ [ob']) w' :=
    ⟨⟨hk.os, hk.tape, hk.output, hk.size, fun b hb hn => hk.block b hb (fun h => hn (hobOwn b h))⟩, hownW, fun l q hq _ => ⟨by rw [List.getElem?_append_left (List.getElem?_eq_some_iff.1 hq.1).1]; exact hq.1, hq.2⟩⟩
  have M := A.mono (F := F)
  have hsz : ∀ (m : Nat) (o0 : Ob) (q : G) (b : Nat), σ[m]? = some o0 → φ[m]? = some q → owns q o0 b → b < w.heap.size ∧ q.b = b := by
    intro m o0 q b hs h2 hb
    have := R.obj m o0 q hs h2
    cases o0 with
    | box cs => cases hb; obtain ⟨c, e', h5, _⟩ := this; exact ⟨(Array.getElem?_eq_some_iff.1 h5).1, rfl⟩
    | map es => cases hb; obtain ⟨c, e', h5, _⟩ := this; exact ⟨(Array.getElem?_eq_some_iff.1 h5).1, rfl⟩
    | row e' sz kc xs => obtain ⟨hb1, rfl⟩ := hb; obtain ⟨_, _, _, _, h5⟩ := this; obtain ⟨c, h6, _⟩ := h5 hb1; exact ⟨(Array.getElem?_eq_some_iff.1 h6).1, rfl⟩
    | none => exact hb.elim
    | res => exact hb.elim
    | fro _ _ => exact hb.elim
  refine ⟨⟨by simp [hlen], fun l o q h1 h2 => ?_, fun l l' o o' q q' b h1 h1' h2 h2' h3 h3' => ?_, fun b hb hF => ?_, fun b hF => Nat.lt_of_lt_of_le (R.fb b hF) hk.size⟩, A⟩
  · rcases split l o q h1 h2 with ⟨e, a, c⟩ | ⟨_, rfl⟩ | ⟨_, rfl, rfl⟩
    · have := OR.kill M (g := q) (o := o) (by
        rintro ⟨b, hb⟩
        obtain ⟨k1, k2⟩ := hsz l o q b a c hb
        rw [k2]
        exact hk.block b k1 (fun h => e (R.inj l l0 o ob q g b a hl c hg hb h))) (R.obj l o q a c)
      simpa using this
    · trivial
    · exact hob M
  · rcases split l o q h1 h2 with ⟨e, a, c⟩ | ⟨_, rfl⟩ | ⟨e1, rfl, rfl⟩
    · rcases split l' o' q' h1' h2' with ⟨e', a', c'⟩ | ⟨_, rfl⟩ | ⟨e2, rfl, rfl⟩
      · exact R.inj l l' o o' q q' b a a' c c' h3 h3'
      · exact h3'.elim
      · rcases hown b h3' with h | h
        · exact absurd (R.inj l l0 o ob q g b a hl c hg h3 h) e
        · exact absurd (hsz l o q b a c h3).1 (by omega)
    · exact h3.elim
    · rcases split l' o' q' h1' h2' with ⟨e', a', c'⟩ | ⟨_, rfl⟩ | ⟨e2, _, _⟩
      · rcases hown b h3 with h | h
        · exact absurd (R.inj l' l0 o' ob q' g b a' hl c' hg h3' h) e'
        · exact absurd (hsz l' o' q' b a' c' h3').1 (by omega)
      · exact h3'.elim
      · omega
  · rcases hownW b hb with h | h
    · exact R.dis b h hF
    · exact absurd (R.fb b hF) (by omega)

end Go.Proofs.Dl

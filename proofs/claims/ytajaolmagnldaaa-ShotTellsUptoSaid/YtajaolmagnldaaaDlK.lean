/- A logic of plain data over the model, proved sound: part K; conditions stand in each theorem. -/
import Derived.Test.YtajaolmagnldaaaDlJ
set_option linter.unusedVariables false
/-! A run is sound. -/
namespace Go.Proofs.Dl
variable {F : Nat → Prop}

/-! ## gathering names -/
theorem allnL_at {s : List Nat} : ∀ {l : List Dd}, Dd.allnL s l = true → ∀ {i : Nat} {d : Dd}, l[i]? = some d → d.alln s = true
  | [], _, i, d, h => by simp at h
  | x :: r, hb, i, d, h => by
    simp only [Dd.allnL, Bool.and_eq_true] at hb
    cases i with
    | zero => simp at h; subst h; exact hb.1
    | succ i => exact allnL_at hb.2 (by simpa using h)
theorem gcL_at (s : List Nat) : ∀ (l : List Vv) (i : Nat), (Vv.gcL s l)[i]? = (l[i]?).map (Vv.gc s)
  | [], i => by simp [Vv.gcL]
  | d :: r, 0 => by simp [Vv.gcL]
  | d :: r, i + 1 => by simp [Vv.gcL, gcL_at s r i]
theorem gcL_length (s : List Nat) : ∀ l : List Vv, (Vv.gcL s l).length = l.length
  | [] => rfl
  | d :: r => by simp [Vv.gcL, gcL_length s r]
theorem inL_at {s : List Nat} {l : Nat} (h : inL s l = true) : s[ixOf s l]? = some l := by
  induction s with
  | nil => cases h
  | cons x r ih =>
    simp only [inL] at h
    simp only [ixOf]
    split
    · rename_i e; subst e; rfl
    · rename_i e; rw [if_neg e] at h; simpa using ih h
section
variable {φ φ' : List G} {ok ok' : Nat → Prop} {w : World} {s : List Nat}
theorem DR.gcr (hφ : ∀ (i : Nat) (g : G), inL s i = true → φ[i]? = some g → φ'[ixOf s i]? = some g) (hok : ∀ b, ok b → ok' b) {d : Dd} {v : Value} (h : DR φ ok w d v) (ha : d.alln s = true) : DR φ' ok' w (d.ren (ixOf s)) v := by
  induction h with
  | top v h => exact .top v h
  | p x v h => exact .p x v (h.mono fun b hb => ⟨hok b hb, rfl⟩)
  | nil sz a => exact .nil sz a
  | nullp => exact .nullp
  | nullm => exact .nullm
  | nullf => exact .nullf
  | ptr l off g h => exact .ptr _ off g ⟨hφ l g (by simpa [Dd.alln] using ha) h.1, h.2⟩
  | cptr cs b o us hb hm hp => exact .cptr cs b o us (hok b hb) hm (fun j c hc => (hp j c hc).mono fun b hb => ⟨hok b hb, rfl⟩)
  | eptr l sz i j g h => exact .eptr _ sz i j g ⟨hφ l g (by simpa [Dd.alln] using ha) h.1, h.2⟩
  | own l sz off len g a h hc hx => exact .own _ sz off len g a ⟨hφ l g (by simpa [Dd.alln] using ha) h.1, h.2⟩ hc hx
  | cown l sz off len g a h hc hx => exact .cown _ sz off len g a ⟨hφ l g (by simpa [Dd.alln] using ha) h.1, h.2⟩ hc hx
  | mp l g h => exact .mp _ g ⟨hφ l g (by simpa [Dd.alln] using ha) h.1, h.2⟩
  | fn f cap cs us hl hu hd ih =>
    refine .fn f _ cs us (by rw [renL_length]; exact hl) (fun i hi => hu i (by rwa [renL_length] at hi)) (fun i d hi => ?_)
    rw [renL_at] at hi
    cases hx : cap[i]? with
    | none => rw [hx] at hi; cases hi
    | some d0 => rw [hx] at hi; cases hi; exact ih i d0 hx (allnL_at (by simpa [Dd.alln] using ha) hx)
theorem DR.gc (hφ : ∀ (i : Nat) (g : G), inL s i = true → φ[i]? = some g → φ'[ixOf s i]? = some g) (hok : ∀ b, ok b → ok' b) {d : Dd} {v : Value} (h : DR φ ok w d v) : DR φ' ok' w (d.gc s) v := by
  unfold Dd.gc
  split
  · rename_i ha; exact h.gcr hφ hok ha
  · exact .top v h.one
theorem CR.gc (hφ : ∀ (i : Nat) (g : G), inL s i = true → φ[i]? = some g → φ'[ixOf s i]? = some g) (hok : ∀ b, ok b → ok' b) {ds : List Dd} {cs : List Value} (h : CR φ ok w ds cs) : CR φ' ok' w (ds.map (Dd.gc s)) cs := by
  refine ⟨by rw [List.length_map]; exact h.1, fun i d v hd hv => ?_⟩
  rw [List.getElem?_map] at hd
  cases hx : ds[i]? with
  | none => rw [hx] at hd; cases hd
  | some d0 => rw [hx] at hd; cases hd; exact (h.2 i d0 v hx hv).gc hφ hok
theorem VR.gc (hφ : ∀ (i : Nat) (g : G), inL s i = true → φ[i]? = some g → φ'[ixOf s i]? = some g) (hok : ∀ b, ok b → ok' b) {x : Vv} {v : Value} (h : VR φ ok w x v) : VR φ' ok' w (x.gc s) v := by
  induction h with
  | top v => exact .top v
  | one d v h =>
    unfold Vv.gc
    split
    · rename_i ha; exact .one _ v (h.gcr hφ hok ha)
    · exact .top v
  | agg ds cs h => exact .agg _ cs (h.gc hφ hok)
  | tup vs cs us hl hu _ ih =>
    refine .tup _ cs us (by rw [gcL_length]; exact hl) (fun i hi => hu i (by rwa [gcL_length] at hi)) (fun i d hi => ?_)
    rw [gcL_at] at hi
    cases hx : vs[i]? with
    | none => rw [hx] at hi; cases hi
    | some d0 => rw [hx] at hi; cases hi; exact ih i d0 hx
theorem OR.gc (hφ : ∀ (i : Nat) (g : G), inL s i = true → φ[i]? = some g → φ'[ixOf s i]? = some g) (hok : ∀ b, ok b → ok' b) {g : G} {o : Ob} (h : OR φ ok w g o) : OR φ' ok' w g (o.gc s) := by
  cases o with
  | none => trivial
  | res => exact h
  | box cs => obtain ⟨c, e, h1, h2⟩ := h; exact ⟨c, e, h1, h2.gc hφ hok⟩
  | row e sz kc xs =>
    obtain ⟨h0, h1, h2, h3, h4⟩ := h
    refine ⟨h0, h1, by simpa using h2, h3, fun hg => ?_⟩
    obtain ⟨c, h5, h6, h7⟩ := h4 hg
    refine ⟨c, h5, h6, fun i es hi => ?_⟩
    rw [List.getElem?_map] at hi
    cases hx : xs[i]? with
    | none => rw [hx] at hi; cases hi
    | some e0 => rw [hx] at hi; cases hi; exact ⟨by rw [List.length_map]; exact (h7 i e0 hx).1, (h7 i e0 hx).2.gc hφ hok⟩
  | fro sz xs =>
    obtain ⟨h1, h2, us, h3, h4, h5⟩ := h
    exact ⟨h1, fun hx => hok _ (h2 hx), us, h3, h4, fun i es j c hi hj => (h5 i es j c hi hj).mono fun b hb => ⟨hok b hb, rfl⟩⟩
  | map es =>
    obtain ⟨en, cl, h1, h2, h3⟩ := h
    refine ⟨en, cl, h1, h2, fun i k v m hi hm => ?_⟩
    obtain ⟨a, b, cs, c, d⟩ := h3 i k v m hi hm
    refine ⟨a, b.mono fun b hb => ⟨hok b hb, rfl⟩, cs, c, d.1, fun j x y hx hy => ?_⟩
    have := (d.2 j x y hx hy)
    rw [List.getElem?_map] at hx
    cases hv : v[j]? with
    | none => rw [hv] at hx; cases hx
    | some z =>
      rw [hv] at hx; cases hx
      have k := this.gcr (s := s) hφ hok rfl
      exact k
end
theorem owns_gc {s : List Nat} {g : G} {o : Ob} {b : Nat} : owns g (o.gc s) b ↔ owns g o b := by cases o <;> rfl

/-- The names of sel alone, in that order. -/
theorem Rel.gc {φ : List G} {σ : Store} {w : World} (R : Rel F φ σ w) (sel : List Nat) (hn : sel.Nodup) (hlt : ∀ l ∈ sel, l < σ.length) :
    ∃ φ' : List G, Rel F φ' (gcS sel σ) w ∧ (∀ (i l : Nat), sel[i]? = some l → φ'[i]? = φ[l]?) ∧ (∀ b, Own φ' (gcS sel σ) b → Own φ σ b) ∧
      (∀ x v, VR φ (Okb F φ σ w) w x v → VR φ' (Okb F φ' (gcS sel σ) w) w (x.gc sel) v) := by
  let φ' : List G := sel.map fun l => φ.getD l ⟨0, 0, true⟩
  have φ'_at : ∀ (i l : Nat), sel[i]? = some l → φ'[i]? = φ[l]? := by
    intro i l hi
    have hl : l < φ.length := by rw [R.len]; exact hlt l (List.mem_of_getElem? hi)
    simp [φ', List.getElem?_map, hi, List.getD, List.getElem?_eq_getElem hl]
  have σ_at : ∀ (i l : Nat), sel[i]? = some l → (gcS sel σ)[i]? = (σ[l]?).map (Ob.gc sel) := by
    intro i l hi
    have hl : l < σ.length := hlt l (List.mem_of_getElem? hi)
    simp [gcS, List.getElem?_map, hi, List.getD, List.getElem?_eq_getElem hl]
  have part : ∀ (i : Nat) (o : Ob) (g : G), (gcS sel σ)[i]? = some o → φ'[i]? = some g → ∃ l o0, sel[i]? = some l ∧ σ[l]? = some o0 ∧ o = o0.gc sel ∧ φ[l]? = some g := by
    intro i o g h1 h2
    have hi : i < sel.length := by have := (List.getElem?_eq_some_iff.1 h1).1; simpa [gcS] using this
    obtain ⟨l, hl⟩ : ∃ l, sel[i]? = some l := ⟨_, List.getElem?_eq_getElem hi⟩
    rw [σ_at i l hl] at h1
    rw [φ'_at i l hl] at h2
    cases ho : σ[l]? with
    | none => rw [ho] at h1; cases h1
    | some o0 => rw [ho] at h1; cases h1; exact ⟨l, o0, hl, ho, rfl, h2⟩
  have own' : ∀ b, Own φ' (gcS sel σ) b → Own φ σ b := by
    rintro b ⟨i, o, g, h1, h2, h3⟩
    obtain ⟨l, o0, _, q1, rfl, q2⟩ := part i o g h1 h2
    exact ⟨l, o0, g, q1, q2, owns_gc.1 h3⟩
  have hφ : ∀ (i : Nat) (g : G), inL sel i = true → φ[i]? = some g → φ'[ixOf sel i]? = some g := fun i g hi hg => by rw [φ'_at _ i (inL_at hi)]; exact hg
  have hok : ∀ b, Okb F φ σ w b → Okb F φ' (gcS sel σ) w b := fun b hb => ⟨hb.1, fun h => hb.2.1 (own' b h), hb.2.2⟩
  refine ⟨φ', ⟨by simp [φ', gcS], fun i o g h1 h2 => ?_, fun i j o o' g g' b h1 h1' h2 h2' h3 h3' => ?_, fun b hb => R.dis b (own' b hb), R.fb⟩, φ'_at, own', fun x v h => h.gc hφ hok⟩
  · obtain ⟨l, o0, _, q1, rfl, q2⟩ := part i o g h1 h2
    exact (R.obj l o0 g q1 q2).gc hφ hok
  · obtain ⟨l, o0, k1, q1, rfl, q2⟩ := part i o g h1 h2
    obtain ⟨l', o0', k1', q1', rfl, q2'⟩ := part j o' g' h1' h2'
    have := R.inj l l' o0 o0' g g' b q1 q1' q2 q2' (owns_gc.1 h3) (owns_gc.1 h3')
    subst this
    exact nodup_at sel hn i j l k1 k1'

theorem getE_gc (s : List Nat) : ∀ (e : Env) (n : Nat), getE (gcE s e) n = (getE e n).gc s
  | [], n => rfl
  | (m, v) :: e, n => by
    have := getE_gc s e n
    simp only [gcE, List.map_cons, getE] at this ⊢
    split
    · rfl
    · exact this
theorem getE_keep (ks : List Nat) (e : Env) (n : Nat) : getE (keepE ks e) n = getE e n ∨ getE (keepE ks e) n = .top := by
  induction ks with
  | nil => exact .inr rfl
  | cons k r ih =>
    simp only [keepE, List.map_cons, getE]
    split
    · rename_i h; subst h; exact .inl rfl
    · exact ih

theorem ER.keep {φ : List G} {ok : Nat → Prop} {w : World} {e : Env} {tmps : Array Value} (h : ER φ ok w e tmps) (ks : List Nat) : ER φ ok w (keepE ks e) tmps := fun n => by
  rcases getE_keep ks e n with h' | h'
  · rw [h']; exact h n
  · rw [h']; exact .top _
theorem ER.still {φ φ' : List G} {ok ok' : Nat → Prop} {w w' : World} (m : Mono [] φ ok w φ' ok' w') {e : Env} {tmps : Array Value} (h : ER φ ok w e tmps) : ER φ' ok' w' e tmps := fun n => (h n).still m
theorem ER.set {φ : List G} {ok : Nat → Prop} {w : World} {e : Env} {a : Act} (h : ER φ ok w e a.tmps) {d : Option Nat} {v : Vv} {x : Value} (hv : VR φ ok w v x) (hd : ∀ t, d = some t → t < a.tmps.size) : ER φ ok w (setE e d v) (a.put d x).tmps := by
  cases d with
  | none => exact h
  | some t =>
    intro n
    simp only [setE, getE, Act.put]
    split
    · rename_i he; subst he
      have := hd t rfl
      simp [Array.getD, this]
      exact hv
    · rename_i he
      have e1 : (a.tmps.setIfInBounds t x).getD n undef = a.tmps.getD n undef := by
        simp [Array.getD_eq_getD_getElem?, Array.getElem?_setIfInBounds_ne he]
      rw [e1]
      exact h n

theorem Adv.then {φ0 φ φ' : List G} {σ0 σ σ' : Store} {w0 w w' : World} (h : Adv [] φ0 σ0 w0 φ σ w) (k : Adv [] φ σ w φ' σ' w') : Adv [] φ0 σ0 w0 φ' σ' w' := by simpa using h.trans k

end Go.Proofs.Dl

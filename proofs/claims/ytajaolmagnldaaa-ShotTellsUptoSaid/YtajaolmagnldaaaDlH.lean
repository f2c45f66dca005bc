/- A logic of plain data over the model, proved sound: part H; conditions stand in each theorem. -/
import Derived.Test.YtajaolmagnldaaaDlF12
set_option linter.unusedVariables false
/-! Calls: what a function does, told at the data level; a smaller store framed into a larger. -/
namespace Go.Proofs.Dl
variable {F : Nat → Prop}

mutual
def Dd.ren (ρ : Nat → Nat) : Dd → Dd
  | .ptr l o => .ptr (ρ l) o
  | .eptr l sz i j => .eptr (ρ l) sz i j
  | .own l sz off len => .own (ρ l) sz off len
  | .cown l sz off len => .cown (ρ l) sz off len
  | .mp l => .mp (ρ l)
  | .fn f cap => .fn f (Dd.renL ρ cap)
  | d => d
def Dd.renL (ρ : Nat → Nat) : List Dd → List Dd
  | [] => []
  | d :: r => d.ren ρ :: Dd.renL ρ r
end
mutual
def Vv.ren (ρ : Nat → Nat) : Vv → Vv
  | .top => .top
  | .one d => .one (d.ren ρ)
  | .agg ds => .agg (Dd.renL ρ ds)
  | .tup vs => .tup (Vv.renL ρ vs)
def Vv.renL (ρ : Nat → Nat) : List Vv → List Vv
  | [] => []
  | v :: r => v.ren ρ :: Vv.renL ρ r
end
def Ob.ren (ρ : Nat → Nat) : Ob → Ob
  | .box cs => .box (Dd.renL ρ cs)
  | .row e sz kc xs => .row e sz kc (xs.map (Dd.renL ρ))
  | o => o
mutual
/-- All names are below n. -/
def Dd.nbel (n : Nat) : Dd → Bool
  | .ptr l _ => decide (l < n)
  | .eptr l _ _ _ => decide (l < n)
  | .own l _ _ _ => decide (l < n)
  | .cown l _ _ _ => decide (l < n)
  | .mp l => decide (l < n)
  | .fn _ cap => Dd.nbelL n cap
  | _ => true
def Dd.nbelL (n : Nat) : List Dd → Bool
  | [] => true
  | d :: r => d.nbel n && Dd.nbelL n r
end
mutual
def Vv.nbel (n : Nat) : Vv → Bool
  | .top => true
  | .one d => d.nbel n
  | .agg ds => Dd.nbelL n ds
  | .tup vs => Vv.nbelL n vs
def Vv.nbelL (n : Nat) : List Vv → Bool
  | [] => true
  | v :: r => v.nbel n && Vv.nbelL n r
end
def Ob.nbel (n : Nat) : Ob → Bool
  | .box cs => Dd.nbelL n cs
  | .row _ _ _ xs => xs.all (Dd.nbelL n)
  | _ => true

theorem renL_at (ρ : Nat → Nat) : ∀ (l : List Dd) (i : Nat), (Dd.renL ρ l)[i]? = (l[i]?).map (Dd.ren ρ)
  | [], i => by simp [Dd.renL]
  | d :: r, 0 => by simp [Dd.renL]
  | d :: r, i + 1 => by simp [Dd.renL, renL_at ρ r i]
theorem renL_length (ρ : Nat → Nat) : ∀ l : List Dd, (Dd.renL ρ l).length = l.length
  | [] => rfl
  | d :: r => by simp [Dd.renL, renL_length ρ r]
theorem vrenL_at (ρ : Nat → Nat) : ∀ (l : List Vv) (i : Nat), (Vv.renL ρ l)[i]? = (l[i]?).map (Vv.ren ρ)
  | [], i => by simp [Vv.renL]
  | d :: r, 0 => by simp [Vv.renL]
  | d :: r, i + 1 => by simp [Vv.renL, vrenL_at ρ r i]
theorem vrenL_length (ρ : Nat → Nat) : ∀ l : List Vv, (Vv.renL ρ l).length = l.length
  | [] => rfl
  | d :: r => by simp [Vv.renL, vrenL_length ρ r]
theorem nbelL_at {n : Nat} : ∀ {l : List Dd}, Dd.nbelL n l = true → ∀ {i : Nat} {d : Dd}, l[i]? = some d → d.nbel n = true
  | [], _, i, d, h => by simp at h
  | x :: r, hb, i, d, h => by
    simp only [Dd.nbelL, Bool.and_eq_true] at hb
    cases i with
    | zero => simp at h; subst h; exact hb.1
    | succ i => exact nbelL_at hb.2 (by simpa using h)
theorem vnbelL_at {n : Nat} : ∀ {l : List Vv}, Vv.nbelL n l = true → ∀ {i : Nat} {d : Vv}, l[i]? = some d → d.nbel n = true
  | [], _, i, d, h => by simp at h
  | x :: r, hb, i, d, h => by
    simp only [Vv.nbelL, Bool.and_eq_true] at hb
    cases i with
    | zero => simp at h; subst h; exact hb.1
    | succ i => exact vnbelL_at hb.2 (by simpa using h)

/-! Forward: names are told anew. -/
section
variable {φ φ' : List G} {ok ok' : Nat → Prop} {w : World} {ρ : Nat → Nat}
theorem DR.ren (hφ : ∀ (i : Nat) (g : G), At φ i g → φ'[ρ i]? = some g) (hok : ∀ b, ok b → ok' b) {d : Dd} {v : Value} (h : DR φ ok w d v) : DR φ' ok' w (d.ren ρ) v := by
  induction h with
  | top v h => exact .top v h
  | p x v h => exact .p x v (h.mono fun b hb => ⟨hok b hb, rfl⟩)
  | nil sz a => exact .nil sz a
  | nullp => exact .nullp
  | nullm => exact .nullm
  | nullf => exact .nullf
  | ptr l off g h => exact .ptr _ off g ⟨hφ l g h, h.2⟩
  | cptr cs b o us hb hm hp => exact .cptr cs b o us (hok b hb) hm (fun j c hc => (hp j c hc).mono fun b hb => ⟨hok b hb, rfl⟩)
  | eptr l sz i j g h => exact .eptr _ sz i j g ⟨hφ l g h, h.2⟩
  | own l sz off len g a h hc ha => exact .own _ sz off len g a ⟨hφ l g h, h.2⟩ hc ha
  | cown l sz off len g a h hc ha => exact .cown _ sz off len g a ⟨hφ l g h, h.2⟩ hc ha
  | mp l g h => exact .mp _ g ⟨hφ l g h, h.2⟩
  | fn f cap cs us hl hu hd ih =>
    refine .fn f _ cs us (by rw [renL_length]; exact hl) (fun i hi => hu i (by rwa [renL_length] at hi)) (fun i d hi => ?_)
    rw [renL_at] at hi
    cases hx : cap[i]? with
    | none => rw [hx] at hi; cases hi
    | some d0 => rw [hx] at hi; cases hi; exact ih i d0 hx
theorem CR.ren (hφ : ∀ (i : Nat) (g : G), At φ i g → φ'[ρ i]? = some g) (hok : ∀ b, ok b → ok' b) {ds : List Dd} {cs : List Value} (h : CR φ ok w ds cs) : CR φ' ok' w (Dd.renL ρ ds) cs := by
  refine ⟨by rw [renL_length]; exact h.1, fun i d v hd hv => ?_⟩
  rw [renL_at] at hd
  cases hx : ds[i]? with
  | none => rw [hx] at hd; cases hd
  | some d0 => rw [hx] at hd; cases hd; exact (h.2 i d0 v hx hv).ren hφ hok
theorem VR.ren (hφ : ∀ (i : Nat) (g : G), At φ i g → φ'[ρ i]? = some g) (hok : ∀ b, ok b → ok' b) {x : Vv} {v : Value} (h : VR φ ok w x v) : VR φ' ok' w (x.ren ρ) v := by
  induction h with
  | top v => exact .top v
  | one d v h => exact .one _ v (h.ren hφ hok)
  | agg ds cs h => exact .agg _ cs (h.ren hφ hok)
  | tup vs cs us hl hu _ ih =>
    refine .tup _ cs us (by rw [vrenL_length]; exact hl) (fun i hi => hu i (by rwa [vrenL_length] at hi)) (fun i d hi => ?_)
    rw [vrenL_at] at hi
    cases hx : vs[i]? with
    | none => rw [hx] at hi; cases hi
    | some d0 => rw [hx] at hi; cases hi; exact ih i d0 hx
theorem OR.ren (hφ : ∀ (i : Nat) (g : G), At φ i g → φ'[ρ i]? = some g) (hok : ∀ b, ok b → ok' b) {g : G} {o : Ob} (h : OR φ ok w g o) : OR φ' ok' w g (o.ren ρ) := by
  cases o with
  | none => trivial
  | res => exact h
  | box cs => obtain ⟨c, e, h1, h2⟩ := h; exact ⟨c, e, h1, h2.ren hφ hok⟩
  | row e sz kc xs =>
    obtain ⟨h0, h1, h2, h3, h4⟩ := h
    refine ⟨h0, h1, by simpa using h2, h3, fun hg => ?_⟩
    obtain ⟨c, h5, h6, h7⟩ := h4 hg
    refine ⟨c, h5, h6, fun i es hi => ?_⟩
    rw [List.getElem?_map] at hi
    cases hx : xs[i]? with
    | none => rw [hx] at hi; cases hi
    | some e0 => rw [hx] at hi; cases hi; exact ⟨by rw [renL_length]; exact (h7 i e0 hx).1, (h7 i e0 hx).2.ren hφ hok⟩
  | fro sz xs =>
    obtain ⟨h1, h2, us, h3, h4, h5⟩ := h
    exact ⟨h1, fun hx => hok _ (h2 hx), us, h3, h4, fun i es j c hi hj => (h5 i es j c hi hj).mono fun b hb => ⟨hok b hb, rfl⟩⟩
  | map es =>
    obtain ⟨en, cl, h1, h2, h3⟩ := h
    refine ⟨en, cl, h1, h2, fun i k v m hi hm => ?_⟩
    obtain ⟨a, b, cs, c, d⟩ := h3 i k v m hi hm
    refine ⟨a, b.mono fun b hb => ⟨hok b hb, rfl⟩, cs, c, d.1, fun j x y hx hy => ?_⟩
    have := (d.2 j x y hx hy)
    rw [List.getElem?_map] at hx
    cases hv : v[j]? with
    | none => rw [hv] at hx; cases hx
    | some z => rw [hv] at hx; cases hx; exact this.ren (ρ := ρ) hφ hok
end

/-! Back: names told anew, told as they were. -/
section
variable {φ φ' : List G} {ok ok' : Nat → Prop} {w : World} {ρ : Nat → Nat} {n : Nat}
theorem DR.unren (hφ : ∀ (i : Nat) (g : G), i < n → φ'[ρ i]? = some g → φ[i]? = some g) (hok : ∀ b, ok' b → ok b) : ∀ {d : Dd} {v : Value}, DR φ' ok' w (d.ren ρ) v → d.nbel n = true → DR φ ok w d v := by
  intro d v h
  generalize hd : d.ren ρ = d' at h
  induction h generalizing d with
  | top v h => intro hb; cases d <;> simp [Dd.ren] at hd; exact .top v h
  | p x v h => intro hb; cases d <;> simp [Dd.ren] at hd; subst hd; exact .p _ v (h.mono fun b hb => ⟨hok b hb, rfl⟩)
  | nil sz a => intro hb; cases d <;> simp [Dd.ren] at hd; subst hd; exact .nil _ a
  | nullp => intro hb; cases d <;> simp [Dd.ren] at hd; exact .nullp
  | nullm => intro hb; cases d <;> simp [Dd.ren] at hd; exact .nullm
  | nullf => intro hb; cases d <;> simp [Dd.ren] at hd; exact .nullf
  | ptr l off g h => intro hb; cases d <;> simp [Dd.ren] at hd; obtain ⟨rfl, rfl⟩ := hd; exact .ptr _ _ g ⟨hφ _ g (by simpa [Dd.nbel] using hb) h.1, h.2⟩
  | cptr cs b o us hb' hm hp => intro hb; cases d <;> simp [Dd.ren] at hd; subst hd; exact .cptr _ b o us (hok b hb') hm (fun j c hc => (hp j c hc).mono fun b hb => ⟨hok b hb, rfl⟩)
  | eptr l sz i j g h => intro hb; cases d <;> simp [Dd.ren] at hd; obtain ⟨rfl, rfl, rfl, rfl⟩ := hd; exact .eptr _ _ _ _ g ⟨hφ _ g (by simpa [Dd.nbel] using hb) h.1, h.2⟩
  | own l sz off len g a h hc ha => intro hb; cases d <;> simp [Dd.ren] at hd; obtain ⟨rfl, rfl, rfl, rfl⟩ := hd; exact .own _ _ _ _ g a ⟨hφ _ g (by simpa [Dd.nbel] using hb) h.1, h.2⟩ hc ha
  | cown l sz off len g a h hc ha => intro hb; cases d <;> simp [Dd.ren] at hd; obtain ⟨rfl, rfl, rfl, rfl⟩ := hd; exact .cown _ _ _ _ g a ⟨hφ _ g (by simpa [Dd.nbel] using hb) h.1, h.2⟩ hc ha
  | mp l g h => intro hb; cases d <;> simp [Dd.ren] at hd; subst hd; exact .mp _ g ⟨hφ _ g (by simpa [Dd.nbel] using hb) h.1, h.2⟩
  | fn f cap cs us hl hu hd' ih =>
    intro hb
    cases d <;> simp [Dd.ren] at hd
    obtain ⟨rfl, rfl⟩ := hd
    rename_i cap
    refine .fn _ _ cs us (by rw [renL_length] at hl; exact hl) (fun i hi => hu i (by rwa [renL_length])) (fun i d hi => ?_)
    exact ih i (d.ren ρ) (by rw [renL_at, hi]; rfl) rfl (nbelL_at (by simpa [Dd.nbel] using hb) hi)
theorem CR.unren (hφ : ∀ (i : Nat) (g : G), i < n → φ'[ρ i]? = some g → φ[i]? = some g) (hok : ∀ b, ok' b → ok b) {ds : List Dd} {cs : List Value} (h : CR φ' ok' w (Dd.renL ρ ds) cs) (hb : Dd.nbelL n ds = true) : CR φ ok w ds cs := by
  refine ⟨by have := h.1; rw [renL_length] at this; exact this, fun i d v hd hv => ?_⟩
  exact (h.2 i (d.ren ρ) v (by rw [renL_at, hd]; rfl) hv).unren hφ hok (nbelL_at hb hd)
theorem VR.unren (hφ : ∀ (i : Nat) (g : G), i < n → φ'[ρ i]? = some g → φ[i]? = some g) (hok : ∀ b, ok' b → ok b) : ∀ {x : Vv} {v : Value}, VR φ' ok' w (x.ren ρ) v → x.nbel n = true → VR φ ok w x v := by
  intro x v h
  generalize hx : x.ren ρ = x' at h
  induction h generalizing x with
  | top v => intro _; cases x <;> simp [Vv.ren] at hx; exact .top v
  | one d v h => intro hb; cases x <;> simp [Vv.ren] at hx; subst hx; exact .one _ v (h.unren hφ hok (by simpa [Vv.nbel] using hb))
  | agg ds cs h => intro hb; cases x <;> simp [Vv.ren] at hx; subst hx; exact .agg _ cs (h.unren hφ hok (by simpa [Vv.nbel] using hb))
  | tup vs cs us hl hu hd ih =>
    intro hb
    cases x <;> simp [Vv.ren] at hx
    subst hx
    refine .tup _ cs us (by rw [vrenL_length] at hl; exact hl) (fun i hi => hu i (by rwa [vrenL_length])) (fun i d hi => ?_)
    exact ih i (d.ren ρ) (by rw [vrenL_at, hi]; rfl) rfl (vnbelL_at (by simpa [Vv.nbel] using hb) hi)
theorem OR.unren (hφ : ∀ (i : Nat) (g : G), i < n → φ'[ρ i]? = some g → φ[i]? = some g) (hok : ∀ b, ok' b → ok b) {g : G} {o : Ob} (h : OR φ' ok' w g (o.ren ρ)) (hb : o.nbel n = true) : OR φ ok w g o := by
  cases o with
  | none => trivial
  | res => exact h
  | box cs => obtain ⟨c, e, h1, h2⟩ := h; exact ⟨c, e, h1, h2.unren hφ hok hb⟩
  | row e sz kc xs =>
    obtain ⟨h0, h1, h2, h3, h4⟩ := h
    refine ⟨h0, h1, by simpa using h2, h3, fun hg => ?_⟩
    obtain ⟨c, h5, h6, h7⟩ := h4 hg
    refine ⟨c, h5, h6, fun i es hi => ?_⟩
    obtain ⟨a, b⟩ := h7 i (Dd.renL ρ es) (by rw [List.getElem?_map, hi]; rfl)
    exact ⟨by rw [renL_length] at a; exact a, b.unren hφ hok (List.all_eq_true.1 hb es (List.mem_of_getElem? hi))⟩
  | fro sz xs =>
    obtain ⟨h1, h2, us, h3, h4, h5⟩ := h
    exact ⟨h1, fun hx => hok _ (h2 hx), us, h3, h4, fun i es j c hi hj => (h5 i es j c hi hj).mono fun b hb => ⟨hok b hb, rfl⟩⟩
  | map es =>
    obtain ⟨en, cl, h1, h2, h3⟩ := h
    refine ⟨en, cl, h1, h2, fun i k v m hi hm => ?_⟩
    obtain ⟨a, b, cs, c, d⟩ := h3 i k v m hi hm
    refine ⟨a, b.mono fun b hb => ⟨hok b hb, rfl⟩, cs, c, d.1, fun j x y hx hy => ?_⟩
    have := (d.2 j x y hx hy)
    rw [List.getElem?_map] at hx
    cases hv : v[j]? with
    | none => rw [hv] at hx; cases hx
    | some z => rw [hv] at hx; cases hx; exact DR.unren (ρ := ρ) (n := n) hφ hok this rfl
end
theorem owns_ren {ρ : Nat → Nat} {g : G} {o : Ob} {b : Nat} : owns g (o.ren ρ) b ↔ owns g o b := by cases o <;> rfl

/-! ## a function's contract -/
def VRs (φ : List G) (ok : Nat → Prop) (w : World) (xs : List Vv) (vs : List Value) : Prop := vs.length = xs.length ∧ ∀ (i : Nat) (x : Vv) (v : Value), xs[i]? = some x → vs[i]? = some v → VR φ ok w x v

/-- Called with args in the store σ the function answers res, and leaves σ'. -/
def Ok (P : Program) (f : FuncId) (args : List Vv) (σ : Store) (res : Vv) (σ' : Store) : Prop :=
  goodFn P f = true ∧ ∀ (F : Nat → Prop) (φ : List G) (w : World) (vals : Array Value), Rel F φ σ w → VRs φ (Okb F φ σ w) w args vals.toList →
    Calls P f vals w fun e w' => ∃ v φ', e = .returned v ∧ VR φ' (Okb F φ' σ' w') w' res v ∧ Rel F φ' σ' w' ∧ Adv [] φ σ w φ' σ' w'

def updS {α : Type} : List α → List Nat → List α → List α
  | σ, l :: r, o :: s => updS (σ.set l o) r s
  | σ, _, _ => σ
theorem updS_length {α : Type} : ∀ (sel : List Nat) (σ xs : List α), (updS σ sel xs).length = σ.length
  | [], σ, xs => by cases xs <;> rfl
  | l :: r, σ, [] => rfl
  | l :: r, σ, o :: s => by simp [updS, updS_length r]
theorem updS_out {α : Type} : ∀ (sel : List Nat) (σ xs : List α) (k : Nat), k ∉ sel → (updS σ sel xs)[k]? = σ[k]?
  | [], σ, xs, k, _ => by cases xs <;> rfl
  | l :: r, σ, [], k, _ => rfl
  | l :: r, σ, o :: s, k, h => by
    simp only [List.mem_cons, not_or] at h
    simp only [updS]
    rw [updS_out r _ s k h.2, List.getElem?_set_ne (Ne.symm h.1)]
theorem updS_in {α : Type} : ∀ (sel : List Nat) (σ xs : List α) (i l : Nat) (x : α), sel.Nodup → (∀ l ∈ sel, l < σ.length) → sel[i]? = some l → xs[i]? = some x → (updS σ sel xs)[l]? = some x
  | [], σ, xs, i, l, x, _, _, h, _ => by simp at h
  | k :: r, σ, [], i, l, x, _, _, _, h => by simp at h
  | k :: r, σ, o :: s, i, l, x, hn, hlt, h, hx => by
    simp only [updS]
    simp only [List.nodup_cons] at hn
    cases i with
    | zero =>
      simp at h hx
      subst h hx
      rw [updS_out r _ s k hn.1, List.getElem?_set_self (hlt k (by simp))]
    | succ i =>
      exact updS_in r _ s i l x hn.2 (fun q hq => by simp; exact hlt q (by simp [hq])) (by simpa using h) (by simpa using hx)

/-- Where the callee's names go. -/
def nm (sel : List Nat) (N : Nat) (i : Nat) : Nat := if i < sel.length then sel.getD i 0 else N + (i - sel.length)

/-- The caller's store behind a call that had a part of it. -/
def joinS (sel : List Nat) (σ σC : Store) : Store :=
  updS σ sel (σC.map (Ob.ren (nm sel σ.length))) ++ (σC.drop sel.length).map (Ob.ren (nm sel σ.length))

theorem Rel.size {φ : List G} {σ : Store} {w : World} (R : Rel F φ σ w) {b : Nat} (h : Own φ σ b) : b < w.heap.size := by
  obtain ⟨l, o, g, h1, h2, h3⟩ := h
  have := R.obj l o g h1 h2
  cases o with
  | box cs => cases h3; obtain ⟨c, e', h5, _⟩ := this; exact (Array.getElem?_eq_some_iff.1 h5).1
  | map es => cases h3; obtain ⟨c, e', h5, _⟩ := this; exact (Array.getElem?_eq_some_iff.1 h5).1
  | row e' sz kc xs => obtain ⟨h3, rfl⟩ := h3; obtain ⟨_, _, _, _, h5⟩ := this; obtain ⟨c, h6, _⟩ := h5 h3; exact (Array.getElem?_eq_some_iff.1 h6).1
  | none => exact h3.elim
  | res => exact h3.elim
  | fro _ _ => exact h3.elim
theorem owns_b {g : G} {o : Ob} {b : Nat} (h : owns g o b) : g.b = b := by
  cases o with
  | box _ => exact h
  | map _ => exact h
  | row _ _ _ _ => exact h.2
  | none => exact h.elim
  | res => exact h.elim
  | fro _ _ => exact h.elim

end Go.Proofs.Dl

/- A logic of plain data over the model, proved sound: part D; conditions stand in each theorem. -/
import Derived.Test.YtajaolmagnldaaaDlC
set_option linter.unusedVariables false
/-! Freezing; settling. -/
namespace Go.Proofs.Dl
variable {F : Nat → Prop}

theorem mapO_at {α β : Type} {f : α → Option β} : ∀ {l : List α} {r : List β}, mapO f l = some r → r.length = l.length ∧ ∀ (i : Nat) (a : α), l[i]? = some a → ∃ b, r[i]? = some b ∧ f a = some b
  | [], r, h => by simp only [mapO, Option.some.injEq] at h; subst h; exact ⟨rfl, fun i a hi => by simp at hi⟩
  | a :: l, r, h => by
    simp only [mapO] at h
    cases hf : f a with
    | none => simp [hf] at h
    | some b =>
      cases hr : mapO f l with
      | none => simp [hf, hr] at h
      | some bs =>
        simp only [hf, hr, Option.some.injEq] at h
        subst h
        obtain ⟨k1, k2⟩ := mapO_at hr
        refine ⟨by simp [k1], fun i x hi => ?_⟩
        cases i with
        | zero => simp at hi; subst hi; exact ⟨b, rfl, hf⟩
        | succ i => exact k2 i x (by simpa using hi)

theorem cell_of_cells {w : World} {b : Nat} {c : Array Value} {e : TypeId} {fr : Nat × Nat} (h : w.heap[b]? = some (.cells c e fr)) (o : Nat) : w.cell? ⟨b, o, none⟩ = c[o]? := by
  simp [World.cell?, h]

theorem fro_slice {φ : List G} {σ : Store} {w : World} (R : Rel F φ σ w) {l sz off len sz' : Nat} {xs : List (List Pd)} (hs : σ[l]? = some (.fro sz' xs)) (he : sz = sz') (hlen : off + len ≤ xs.length)
    {g : G} (hg : φ[l]? = some g) {a : Option Addr} {cap : Nat} (hcap : len ≤ cap) (ha : 0 < len → a = some ⟨g.b, off * sz, none⟩) :
    PR (Okb F φ σ w) w (.sl sz ((xs.drop off).take len)) (.slice a len cap) := by
  subst he
  obtain ⟨h1, h2, us, h3, h4, h5⟩ := R.obj l _ g hs hg
  have hl : ((xs.drop off).take len).length = len := by simp; omega
  refine .sl sz _ a cap g.b (off * sz) (fun i j => us (off + i) j) len hl.symm (by omega) (fun hx => ?_) (fun i es hi => ?_) (fun i j hi hj => ?_) (fun i es j c hi hj => ?_)
  · have hp : 0 < len := by
      rcases Nat.eq_zero_or_pos len with h | h
      · subst h; simp at hx
      · exact h
    exact ⟨ha hp, h2 (by intro e; subst e; simp at hlen; omega)⟩
  · rw [List.getElem?_take] at hi
    split at hi
    · rw [List.getElem?_drop] at hi; exact h3 _ _ hi
    · cases hi
  · have := h4 (off + i) j (by omega) hj
    rw [← this]
    congr 2
    rw [Nat.add_mul]
  · rw [List.getElem?_take] at hi
    split at hi
    · rw [List.getElem?_drop] at hi; exact h5 _ _ _ _ hi hj
    · cases hi

theorem pureD_sound {φ : List G} {σ : Store} {w : World} (R : Rel F φ σ w) {d : Dd} {v : Value} (h : DR φ (Okb F φ σ w) w d v) {x : Pd} (hx : pureD σ d = some x) : PR (Okb F φ σ w) w x v := by
  cases h with
  | p y v k => simp only [pureD, Option.some.injEq] at hx; subst hx; exact k
  | nil sz a =>
    simp only [pureD, Option.some.injEq] at hx; subst hx
    exact .sl sz [] a 0 0 0 (fun _ _ => .bool true) 0 rfl (by simp) (fun h => absurd rfl h) (fun i es h => by simp at h) (fun i j h => by simp at h) (fun i es j c h => by simp at h)
  | own l sz off len g a hg hc ha =>
    simp only [pureD] at hx
    split at hx
    · rename_i sz' xs hs
      split at hx
      · rename_i hh
        simp only [Option.some.injEq] at hx; subst hx
        exact fro_slice R hs hh.1 hh.2 hg.1 (by omega) (fun hp => ha (by omega))
      · cases hx
    · cases hx
  | cown l sz off len g a hg hc ha =>
    simp only [pureD] at hx
    split at hx
    · rename_i sz' xs hs
      split at hx
      · rename_i hh
        simp only [Option.some.injEq] at hx; subst hx
        exact fro_slice R hs hh.1 hh.2 hg.1 (Nat.le_refl _) ha
      · cases hx
    · cases hx
  | _ => simp [pureD] at hx

theorem Rel.frz {φ : List G} {σ σ' : Store} {w : World} (R : Rel F φ σ w) {l : Nat} (h : frz σ l = some σ') : Rel F φ σ' w ∧ Adv [] φ σ w φ σ' w := by
  unfold Dl.frz at h
  split at h
  · rename_i e sz kc xs hs
    split at h
    · rename_i ps hp
      simp only [Option.some.injEq] at h; subst h
      have hlt : l < φ.length := by rw [R.len]; exact (List.getElem?_eq_some_iff.1 hs).1
      obtain ⟨g, hg⟩ : ∃ g, φ[l]? = some g := ⟨_, List.getElem?_eq_getElem hlt⟩
      obtain ⟨h0, h1, h2, h3, h4⟩ := R.obj l _ g hs hg
      obtain ⟨k1, k2⟩ := mapO_at hp
      have hset : φ.set l g = φ := by
        apply List.ext_getElem?
        intro i
        by_cases e : i = l
        · subst e; rw [List.getElem?_set_self hlt, hg]
        · rw [List.getElem?_set_ne (Ne.symm e)]
      have := R.upd (w' := w) [] l _ (.fro sz ps) g g hs hg (.inr (.inl rfl)) (by simp) (Kept.refl _ _) (fun b hb => hb.elim) (fun M => ?_)
      · rw [hset, killS_nil] at this; exact this
      · simp only [Ob.kill]
        rw [hset] at M ⊢
        refine ⟨by omega, fun hx => ?_, ?_⟩
        · -- the block is nobody's now
          have hpos : 0 < g.cap := by
            have : ps.length ≠ 0 := fun e => hx (List.eq_nil_of_length_eq_zero e)
            omega
          obtain ⟨c, hc, _⟩ := h4 hpos
          refine ⟨(Array.getElem?_eq_some_iff.1 hc).1, ?_, R.dis _ ⟨l, _, g, hs, hg, hpos, rfl⟩⟩
          rintro ⟨m, o, q, q1, q2, q3⟩
          by_cases em : m = l
          · subst em
            rw [List.getElem?_set_self (by rw [← R.len]; exact hlt)] at q1
            cases q1; exact q3
          · rw [List.getElem?_set_ne (Ne.symm em)] at q1
            exact em (R.inj m l o _ q g g.b q1 hs q2 hg q3 ⟨hpos, rfl⟩)
        · rcases Nat.eq_zero_or_pos ps.length with hz | hz
          · have : ps = [] := List.eq_nil_of_length_eq_zero hz
            subst this
            exact ⟨fun _ _ => .bool true, fun i es h => by simp at h, fun i j h => by simp at h, fun i es j c h => by simp at h⟩
          · have hpos : 0 < g.cap := by omega
            obtain ⟨c, hc, hcs, hrow⟩ := h4 hpos
            refine ⟨fun i j => c.getD (i * sz + j) (.bool true), fun i es hi => ?_, fun i j hi hj => ?_, fun i es j d hi hj => ?_⟩
            · have hix : i < xs.length := by rw [← k1]; exact (List.getElem?_eq_some_iff.1 hi).1
              obtain ⟨b, hb, hf⟩ := k2 i xs[i] (List.getElem?_eq_getElem hix)
              rw [hi] at hb; cases hb
              rw [(mapO_at hf).1, (hrow i xs[i] (List.getElem?_eq_getElem hix)).1]
            · rw [cell_of_cells hc]
              have : i * sz + j < c.size := by
                rw [hcs]
                have : (i + 1) * sz ≤ g.cap * sz := Nat.mul_le_mul_right _ (by omega)
                rw [Nat.add_mul] at this; omega
              simp [this]
            · have hix : i < xs.length := by rw [← k1]; exact (List.getElem?_eq_some_iff.1 hi).1
              obtain ⟨b, hb, hf⟩ := k2 i xs[i] (List.getElem?_eq_getElem hix)
              rw [hi] at hb; cases hb
              obtain ⟨r1, r2⟩ := hrow i xs[i] (List.getElem?_eq_getElem hix)
              obtain ⟨f1, f2⟩ := mapO_at hf
              have hjx : j < xs[i].length := by rw [← f1]; exact (List.getElem?_eq_some_iff.1 hj).1
              obtain ⟨b', hb', hd⟩ := f2 j xs[i][j] (List.getElem?_eq_getElem hjx)
              rw [hj] at hb'; cases hb'
              have hlt' : i * sz + j < c.size := by
                rw [hcs]
                have : (i + 1) * sz ≤ g.cap * sz := Nat.mul_le_mul_right _ (by omega)
                rw [Nat.add_mul] at this; omega
              have hdr := r2.2 j xs[i][j] (c.getD (i * sz + j) (.bool true)) (List.getElem?_eq_getElem hjx) (by
                rw [List.getElem?_take, if_pos (by omega), List.getElem?_drop]
                simp [hlt'])
              exact (pureD_sound R hdr hd).mono M.okb
    · cases h
  · simp only [Option.some.injEq] at h; subst h; exact ⟨R, Adv.refl _ _ _⟩
  · cases h

theorem Adv.trans {mv mv' : List Nat} {φ φ' φ'' : List G} {σ σ' σ'' : Store} {w w' w'' : World} (h : Adv mv φ σ w φ' σ' w') (k : Adv mv' φ' σ' w' φ'' σ'' w'') : Adv (mv ++ mv') φ σ w φ'' σ'' w'' where
  kept := h.kept.trans k.kept fun x hx ho => (h.own x ho).elim id (fun q => absurd hx (by omega))
  own := fun b hb => (k.own b hb).elim (fun q => h.own b q) (fun q => .inr (Nat.le_trans h.kept.size q))
  fix := fun l g hg hm => k.fix l g (h.fix l g hg (fun q => hm (List.mem_append_left _ q))) (fun q => hm (List.mem_append_right _ q))

theorem settle_sound {φ : List G} {w : World} : ∀ (ds : List Dd) {σ σ' : Store} {ds' : List Dd} {cs : List Value}, Rel F φ σ w → CR φ (Okb F φ σ w) w ds cs → settle σ ds = some (ds', σ') →
    Rel F φ σ' w ∧ CR φ (Okb F φ σ' w) w ds' cs ∧ Adv [] φ σ w φ σ' w
  | [], σ, σ', ds', cs, R, H, h => by
    simp only [settle, Option.some.injEq, Prod.mk.injEq] at h
    obtain ⟨rfl, rfl⟩ := h
    exact ⟨R, H, Adv.refl _ _ _⟩
  | d :: r, σ, σ', ds', cs, R, H, h => by
    obtain ⟨v, cr, rfl, hd, hr⟩ := H.uncons
    have owned : ∀ l sz off len, (d = .own l sz off len ∨ d = .cown l sz off len) → ∀ σ1 x r' σ2, frz σ l = some σ1 → pureD σ1 (.own l sz off len) = some x → settle σ1 r = some (r', σ2) → ds' = .p x :: r' → σ' = σ2 →
        Rel F φ σ' w ∧ CR φ (Okb F φ σ' w) w ds' (v :: cr) ∧ Adv [] φ σ w φ σ' w := by
      intro l sz off len hdd σ1 x r' σ2 h1 h2 h3 h4 h5
      subst h4 h5
      obtain ⟨R1, A1⟩ := R.frz h1
      obtain ⟨R2, C2, A2⟩ := settle_sound r R1 (hr.still A1.mono) h3
      refine ⟨R2, CR.cons ?_ C2, by simpa using A1.trans A2⟩
      have hd1 := hd.still A1.mono
      have : pureD σ1 d = some x := by
        rcases hdd with rfl | rfl
        · exact h2
        · exact h2
      exact .p x v ((pureD_sound R1 hd1 this).mono A2.mono.okb)
    have plain : ∀ r' σ2, settle σ r = some (r', σ2) → ds' = d :: r' → σ' = σ2 → Rel F φ σ' w ∧ CR φ (Okb F φ σ' w) w ds' (v :: cr) ∧ Adv [] φ σ w φ σ' w := by
      intro r' σ2 h3 h4 h5
      subst h4 h5
      obtain ⟨R2, C2, A2⟩ := settle_sound r R hr h3
      exact ⟨R2, CR.cons (hd.still A2.mono) C2, A2⟩
    unfold settle at h
    split at h
    · rename_i l sz off len
      split at h
      · rename_i σ1 h1
        split at h
        · rename_i x h2
          split at h
          · rename_i r' σ2 h3
            simp only [Option.some.injEq, Prod.mk.injEq] at h
            exact owned l sz off len (.inl rfl) σ1 x r' σ2 h1 h2 h3 h.1.symm h.2.symm
          · cases h
        · cases h
      · cases h
    · rename_i l sz off len
      split at h
      · rename_i σ1 h1
        split at h
        · rename_i x h2
          split at h
          · rename_i r' σ2 h3
            simp only [Option.some.injEq, Prod.mk.injEq] at h
            exact owned l sz off len (.inr rfl) σ1 x r' σ2 h1 h2 h3 h.1.symm h.2.symm
          · cases h
        · cases h
      · cases h
    · rename_i sz
      split at h
      · rename_i r' σ2 h3
        simp only [Option.some.injEq, Prod.mk.injEq] at h
        obtain ⟨rfl, rfl⟩ := h
        obtain ⟨R2, C2, A2⟩ := settle_sound r R hr h3
        refine ⟨R2, CR.cons ?_ C2, A2⟩
        exact .p _ v (pureD_sound R2 (hd.still A2.mono) rfl)
      · cases h
    · split at h
      · rename_i r' σ2 h3
        simp only [Option.some.injEq, Prod.mk.injEq] at h
        exact plain r' σ2 h3 h.1.symm h.2.symm
      · cases h

/-- Settling leaves a row that stays a row as it was. -/
theorem frz_row {σ σ' : Store} {k : Nat} (h : frz σ k = some σ') {l e sz kc : Nat} {xs : List (List Dd)} (hl : σ'[l]? = some (.row e sz kc xs)) : σ[l]? = some (.row e sz kc xs) := by
  unfold Dl.frz at h
  split at h
  · rename_i e' sz' kc' ys hs
    split at h
    · cases h
      by_cases q : l = k
      · subst q; rw [List.getElem?_set_self (List.getElem?_eq_some_iff.1 hs).1] at hl; cases hl
      · rw [List.getElem?_set_ne (Ne.symm q)] at hl; exact hl
    · cases h
  · cases h; exact hl
  · cases h
theorem settle_row (l : Nat) : ∀ (ds : List Dd) {σ σ' : Store} {ds' : List Dd} {e sz kc : Nat} {xs : List (List Dd)}, settle σ ds = some (ds', σ') → σ'[l]? = some (.row e sz kc xs) → σ[l]? = some (.row e sz kc xs)
  | [], σ, σ', ds', e, sz, kc, xs, h, hl => by
    simp only [settle, Option.some.injEq, Prod.mk.injEq] at h
    rw [h.2]; exact hl
  | d :: r, σ, σ', ds', e, sz, kc, xs, h, hl => by
    unfold settle at h
    split at h
    · split at h
      · rename_i σ1 h1
        split at h
        · split at h
          · rename_i r' σ2 h3
            simp only [Option.some.injEq, Prod.mk.injEq] at h
            obtain ⟨_, rfl⟩ := h
            exact frz_row h1 (settle_row l r h3 hl)
          · cases h
        · cases h
      · cases h
    · split at h
      · rename_i σ1 h1
        split at h
        · split at h
          · rename_i r' σ2 h3
            simp only [Option.some.injEq, Prod.mk.injEq] at h
            obtain ⟨_, rfl⟩ := h
            exact frz_row h1 (settle_row l r h3 hl)
          · cases h
        · cases h
      · cases h
    · split at h
      · rename_i r' σ2 h3
        simp only [Option.some.injEq, Prod.mk.injEq] at h
        obtain ⟨_, rfl⟩ := h
        exact settle_row l r h3 hl
      · cases h
    · split at h
      · rename_i r' σ2 h3
        simp only [Option.some.injEq, Prod.mk.injEq] at h
        obtain ⟨_, rfl⟩ := h
        exact settle_row l r h3 hl
      · cases h

end Go.Proofs.Dl

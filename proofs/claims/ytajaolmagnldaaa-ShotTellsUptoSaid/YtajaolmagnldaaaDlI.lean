/- A logic of plain data over the model, proved sound: part I; conditions stand in each theorem. -/
import Derived.Test.YtajaolmagnldaaaDlH
set_option linter.unusedVariables false
namespace Go.Proofs.Dl
variable {F : Nat → Prop}

theorem nm_lt {sel : List Nat} {N i l : Nat} (h : sel[i]? = some l) : nm sel N i = l := by
  have hi : i < sel.length := (List.getElem?_eq_some_iff.1 h).1
  unfold nm
  rw [if_pos hi, List.getD, h]; rfl

theorem nodup_at : ∀ (sel : List Nat), sel.Nodup → ∀ (i j l : Nat), sel[i]? = some l → sel[j]? = some l → i = j
  | [], _, i, j, l, h, _ => by simp at h
  | x :: r, hn, i, j, l, h1, h2 => by
    simp only [List.nodup_cons] at hn
    cases i with
    | zero =>
      cases j with
      | zero => rfl
      | succ j => simp at h1 h2; subst h1; exact absurd (List.mem_of_getElem? h2) hn.1
    | succ i =>
      cases j with
      | zero => simp at h1 h2; subst h2; exact absurd (List.mem_of_getElem? h1) hn.1
      | succ j => rw [nodup_at r hn.2 i j l (by simpa using h1) (by simpa using h2)]

theorem Ok.frame {P : Program} {f : FuncId} {argsC : List Vv} {σC : Store} {resC : Vv} {σC' : Store} (h : Ok P f argsC σC resC σC') (sel : List Nat) (σ : Store)
    (hn : sel.Nodup) (hlt : ∀ l ∈ sel, l < σ.length) (hlen : σC.length = sel.length) (hσ : ∀ (i : Nat) (o : Ob) (l : Nat), σC[i]? = some o → sel[i]? = some l → σ[l]? = some (o.ren (nm sel σ.length)))
    (hb : σC.all (Ob.nbel sel.length) = true) (ha : Vv.nbelL sel.length argsC = true) (hlen' : sel.length ≤ σC'.length) :
    Ok P f (Vv.renL (nm sel σ.length) argsC) σ (resC.ren (nm sel σ.length)) (joinS sel σ σC') := by
  refine ⟨h.1, ?_⟩
  intro F φ w vals R hargs
  let n := sel.length
  let N := σ.length
  let ρ := nm sel N
  have hφl := R.len
  let φC : List G := sel.map fun l => φ.getD l ⟨0, 0, true⟩
  have φC_at : ∀ (i l : Nat), sel[i]? = some l → φC[i]? = φ[l]? := by
    intro i l hi
    have hl : l < φ.length := by rw [hφl]; exact hlt l (List.mem_of_getElem? hi)
    simp [φC, List.getElem?_map, hi, List.getD, List.getElem?_eq_getElem hl]
  have φC_len : φC.length = n := by simp [φC, n]
  -- back from the caller's names
  have back : ∀ (i : Nat) (g : G), i < n → φ[ρ i]? = some g → φC[i]? = some g := by
    intro i g hi hg
    obtain ⟨l, hl⟩ : ∃ l, sel[i]? = some l := ⟨_, List.getElem?_eq_getElem hi⟩
    have : ρ i = l := nm_lt hl
    rw [this] at hg
    rw [φC_at i l hl]; exact hg
  let FC : Nat → Prop := fun b => F b ∨ ∃ (l : Nat) (o : Ob) (g : G), l ∉ sel ∧ σ[l]? = some o ∧ φ[l]? = some g ∧ owns g o b
  -- an object of the callee is one of the caller
  have inC : ∀ (i : Nat) (o : Ob) (g : G), σC[i]? = some o → φC[i]? = some g → ∃ l, sel[i]? = some l ∧ σ[l]? = some (o.ren ρ) ∧ φ[l]? = some g := by
    intro i o g h1 h2
    have hi : i < sel.length := by rw [← hlen]; exact (List.getElem?_eq_some_iff.1 h1).1
    obtain ⟨l, hl⟩ : ∃ l, sel[i]? = some l := ⟨_, List.getElem?_eq_getElem hi⟩
    exact ⟨l, hl, hσ i o l h1 hl, by rw [← φC_at i l hl]; exact h2⟩
  have ownC : ∀ b, Own φC σC b → Own φ σ b := by
    rintro b ⟨i, o, g, h1, h2, h3⟩
    obtain ⟨l, _, h4, h5⟩ := inC i o g h1 h2
    exact ⟨l, _, g, h4, h5, owns_ren.2 h3⟩
  have sel_inj : ∀ (i j l : Nat), sel[i]? = some l → sel[j]? = some l → i = j := by
    intro i j l h1 h2
    exact nodup_at sel hn i j l h1 h2
  have disC : ∀ b, Own φC σC b → ¬ FC b := by
    rintro b ⟨i, o, g, h1, h2, h3⟩ hF
    obtain ⟨l, hl, h4, h5⟩ := inC i o g h1 h2
    rcases hF with hF | ⟨l', o', g', q1, q2, q3, q4⟩
    · exact R.dis b ⟨l, _, g, h4, h5, owns_ren.2 h3⟩ hF
    · have : l = l' := R.inj l l' _ o' g g' b h4 q2 h5 q3 (owns_ren.2 h3) q4
      subst this
      exact q1 (List.mem_of_getElem? hl)
  have ok1 : ∀ b, Okb F φ σ w b → Okb FC φC σC w b := by
    rintro b ⟨h1, h2, h3⟩
    refine ⟨h1, fun h => h2 (ownC b h), ?_⟩
    rintro (h | ⟨l, o, g, _, q2, q3, q4⟩)
    · exact h3 h
    · exact h2 ⟨l, o, g, q2, q3, q4⟩
  have RC : Rel FC φC σC w := by
    refine ⟨by rw [φC_len, hlen], fun i o g h1 h2 => ?_, fun i j o o' g g' b h1 h1' h2 h2' h3 h3' => ?_, disC, ?_⟩
    · obtain ⟨l, hl, h4, h5⟩ := inC i o g h1 h2
      exact (R.obj l _ g h4 h5).unren (n := n) back ok1 (List.all_eq_true.1 hb o (List.mem_of_getElem? h1))
    · obtain ⟨l, hl, h4, h5⟩ := inC i o g h1 h2
      obtain ⟨l', hl', h4', h5'⟩ := inC j o' g' h1' h2'
      have : l = l' := R.inj l l' _ _ g g' b h4 h4' h5 h5' (owns_ren.2 h3) (owns_ren.2 h3')
      subst this
      exact sel_inj i j l hl hl'
    · rintro b (h | ⟨l, o, g, _, q2, q3, q4⟩)
      · exact R.fb b h
      · exact R.size ⟨l, o, g, q2, q3, q4⟩
  have AC : VRs φC (Okb FC φC σC w) w argsC vals.toList := by
    refine ⟨by have := hargs.1; rw [vrenL_length] at this; exact this, fun i x v h1 h2 => ?_⟩
    exact (hargs.2 i (x.ren ρ) v (by rw [vrenL_at, h1]; rfl) h2).unren (n := n) back ok1 (vnbelL_at ha h1)
  refine (h.2 FC φC w vals RC AC).mono ?_
  rintro e w' ⟨v, φC', rfl, hv, RC', A'⟩
  let φ' : List G := updS φ sel φC' ++ φC'.drop n
  let σ' : Store := joinS sel σ σC'
  have hφl' : φC'.length = σC'.length := RC'.len
  have φ'_new : ∀ (i : Nat) (g : G), φC'[i]? = some g → φ'[ρ i]? = some g := by
    intro i g hg
    have hi' : i < φC'.length := (List.getElem?_eq_some_iff.1 hg).1
    by_cases hi : i < n
    · obtain ⟨l, hl⟩ : ∃ l, sel[i]? = some l := ⟨_, List.getElem?_eq_getElem hi⟩
      have e : ρ i = l := nm_lt hl
      rw [e]
      have hlφ : l < φ.length := by rw [hφl]; exact hlt l (List.mem_of_getElem? hl)
      show (updS φ sel φC' ++ φC'.drop n)[l]? = _
      rw [List.getElem?_append_left (by rw [updS_length]; exact hlφ)]
      exact updS_in sel φ φC' i l g hn (fun q hq => by rw [hφl]; exact hlt q hq) hl hg
    · have e : ρ i = N + (i - n) := by show nm sel N i = _; unfold nm; rw [if_neg hi]
      rw [e]
      show (updS φ sel φC' ++ φC'.drop n)[N + (i - n)]? = _
      rw [List.getElem?_append_right (by rw [updS_length, hφl]; exact Nat.le_add_right _ _), updS_length, hφl, List.getElem?_drop, ← hg]
      congr 1
      show n + (N + (i - n) - N) = i
      omega
  have φ'_old : ∀ (l : Nat), l ∉ sel → l < N → φ'[l]? = φ[l]? := by
    intro l hl hN
    show (updS φ sel φC' ++ φC'.drop n)[l]? = _
    rw [List.getElem?_append_left (by rw [updS_length, hφl]; exact hN), updS_out _ _ _ _ hl]
  have φ'_len : φ'.length = N + (φC'.length - n) := by
    show (updS φ sel φC' ++ φC'.drop n).length = _
    rw [List.length_append, updS_length, hφl, List.length_drop]
  have σ'_len : σ'.length = N + (σC'.length - n) := by
    show (joinS sel σ σC').length = _
    unfold joinS
    rw [List.length_append, updS_length, List.length_map, List.length_drop]
  -- the objects of σ'
  have parts : ∀ (k : Nat) (o : Ob) (g : G), σ'[k]? = some o → φ'[k]? = some g →
      (k ∉ sel ∧ ∃ o0, σ[k]? = some o0 ∧ o = o0 ∧ φ[k]? = some g) ∨ (∃ i oC, ρ i = k ∧ σC'[i]? = some oC ∧ o = oC.ren ρ ∧ φC'[i]? = some g) := by
    intro k o g h1 h2
    by_cases hk : k < N
    · have h1' : (updS (σ) sel (σC'.map (Ob.ren ρ)))[k]? = some o := by
        have : (joinS sel σ σC')[k]? = some o := h1
        unfold joinS at this
        rwa [List.getElem?_append_left (by rw [updS_length]; exact hk)] at this
      by_cases hs : k ∈ sel
      · obtain ⟨i, hi⟩ := List.mem_iff_getElem?.1 hs
        have hin : i < n := (List.getElem?_eq_some_iff.1 hi).1
        obtain ⟨oC, hoC⟩ : ∃ oC, σC'[i]? = some oC := ⟨_, List.getElem?_eq_getElem (Nat.lt_of_lt_of_le hin hlen')⟩
        have := updS_in sel (σ) (σC'.map (Ob.ren ρ)) i k (oC.ren ρ) hn (fun q hq => by exact hlt q hq) hi (by rw [List.getElem?_map, hoC]; rfl)
        rw [this] at h1'
        cases h1'
        have hgC : ∃ gC, φC'[i]? = some gC := ⟨_, List.getElem?_eq_getElem (by rw [hφl']; exact Nat.lt_of_lt_of_le hin hlen')⟩
        obtain ⟨gC, hgC⟩ := hgC
        have e : ρ i = k := nm_lt hi
        have := φ'_new i gC hgC
        rw [e, h2] at this
        cases this
        exact .inr ⟨i, oC, e, hoC, rfl, hgC⟩
      · rw [updS_out _ _ _ _ hs] at h1'
        exact .inl ⟨hs, o, h1', rfl, by rw [← φ'_old k hs hk]; exact h2⟩
    · have h1' : ((σC'.drop n).map (Ob.ren ρ))[k - N]? = some o := by
        have : (joinS sel σ σC')[k]? = some o := h1
        unfold joinS at this
        rwa [List.getElem?_append_right (by rw [updS_length]; omega), updS_length] at this
      rw [List.getElem?_map, List.getElem?_drop] at h1'
      cases ho : σC'[n + (k - N)]? with
      | none => rw [ho] at h1'; cases h1'
      | some oC =>
        rw [ho] at h1'; cases h1'
        have e : ρ (n + (k - N)) = k := by
          show nm sel N _ = _
          unfold nm
          rw [if_neg (by show ¬ (n + (k - N) < n); omega)]
          show N + (n + (k - N) - n) = k
          omega
        obtain ⟨gC, hgC⟩ : ∃ gC, φC'[n + (k - N)]? = some gC := ⟨_, List.getElem?_eq_getElem (by rw [hφl']; exact (List.getElem?_eq_some_iff.1 ho).1)⟩
        have := φ'_new _ gC hgC
        rw [e, h2] at this
        cases this
        exact .inr ⟨_, oC, e, ho, rfl, hgC⟩
  have frameF : ∀ b, (∃ (l : Nat) (o : Ob) (g : G), l ∉ sel ∧ σ[l]? = some o ∧ φ[l]? = some g ∧ owns g o b) → FC b := fun b h => .inr h
  have own' : ∀ b, Own φ' σ' b → (∃ (l : Nat) (o : Ob) (g : G), l ∉ sel ∧ σ[l]? = some o ∧ φ[l]? = some g ∧ owns g o b) ∨ Own φC' σC' b := by
    rintro b ⟨k, o, g, h1, h2, h3⟩
    rcases parts k o g h1 h2 with ⟨hs, o0, q1, rfl, q2⟩ | ⟨i, oC, _, q1, rfl, q2⟩
    · exact .inl ⟨k, _, g, hs, q1, q2, h3⟩
    · exact .inr ⟨i, oC, g, q1, q2, owns_ren.1 h3⟩
  have A : Adv [] φ σ w φ' σ' w' := by
    refine ⟨⟨A'.kept.os, A'.kept.tape, A'.kept.output, A'.kept.size, fun b hb hno => A'.kept.block b hb (fun h => hno (ownC b h))⟩, fun b hb => ?_, fun l g hg hm => ?_⟩
    · rcases own' b hb with ⟨l, o, g, _, q2, q3, q4⟩ | h
      · exact .inl ⟨l, o, g, q2, q3, q4⟩
      · exact (A'.own b h).imp (ownC b) id
    · by_cases hs : l ∈ sel
      · obtain ⟨i, hi⟩ := List.mem_iff_getElem?.1 hs
        have e : ρ i = l := nm_lt hi
        have hA := A'.fix i g ⟨by rw [φC_at i l hi]; exact hg.1, hg.2⟩ (by simp)
        have := φ'_new i g hA.1
        rw [e] at this
        exact ⟨this, hg.2⟩
      · exact ⟨by rw [φ'_old l hs (by show l < σ.length; rw [← hφl]; exact (List.getElem?_eq_some_iff.1 hg.1).1)]; exact hg.1, hg.2⟩
  have ok2 : ∀ b, Okb FC φC' σC' w' b → Okb F φ' σ' w' b := by
    rintro b ⟨h1, h2, h3⟩
    refine ⟨h1, fun h => ?_, fun h => h3 (.inl h)⟩
    rcases own' b h with h | h
    · exact h3 (frameF b h)
    · exact h2 h
  have M := A.mono (F := F)
  refine ⟨v, φ', rfl, hv.ren (fun i g h => φ'_new i g h.1) ok2, ⟨by rw [φ'_len, σ'_len, hφl'], fun k o g h1 h2 => ?_, fun k k' o o' g g' b h1 h1' h2 h2' h3 h3' => ?_, fun b hb hF => ?_, fun b hF => Nat.lt_of_lt_of_le (R.fb b hF) A'.kept.size⟩, A⟩
  · rcases parts k o g h1 h2 with ⟨hs, o0, q1, rfl, q2⟩ | ⟨i, oC, _, q1, rfl, q2⟩
    · have := OR.kill M (g := g) (o := o) (by
        rintro ⟨b, hb⟩
        have e := owns_b hb
        subst e
        exact A'.kept.block _ (R.size ⟨k, o, g, q1, q2, hb⟩) (fun h => disC _ h (frameF _ ⟨k, o, g, hs, q1, q2, hb⟩))) (R.obj k o g q1 q2)
      rwa [obkill_nil] at this
    · exact (RC'.obj i oC g q1 q2).ren (fun i g h => φ'_new i g h.1) ok2
  · rcases parts k o g h1 h2 with ⟨hs, o0, q1, rfl, q2⟩ | ⟨i, oC, e1, q1, rfl, q2⟩ <;> rcases parts k' o' g' h1' h2' with ⟨hs', o0', q1', rfl, q2'⟩ | ⟨i', oC', e1', q1', rfl, q2'⟩
    · exact R.inj k k' _ _ g g' b q1 q1' q2 q2' (h3) (h3')
    · exact absurd (frameF b ⟨k, _, g, hs, q1, q2, h3⟩) (RC'.dis b ⟨i', oC', g', q1', q2', owns_ren.1 h3'⟩)
    · exact absurd (frameF b ⟨k', _, g', hs', q1', q2', h3'⟩) (RC'.dis b ⟨i, oC, g, q1, q2, owns_ren.1 h3⟩)
    · rw [← e1, ← e1', RC'.inj i i' oC oC' g g' b q1 q1' q2 q2' (owns_ren.1 h3) (owns_ren.1 h3')]
  · rcases own' b hb with ⟨l, o, g, _, q2, q3, q4⟩ | h
    · exact R.dis b ⟨l, o, g, q2, q3, q4⟩ hF
    · exact RC'.dis b h (.inl hF)

end Go.Proofs.Dl

/- A logic of plain data over the model, proved sound: part M; conditions stand in each theorem. -/
import Derived.Test.YtajaolmagnldaaaDlL
set_option linter.unusedVariables false
/-! From a run to a contract. -/
namespace Go.Proofs.Dl
variable {F : Nat → Prop}

theorem VRs.nil {φ : List G} {ok : Nat → Prop} {w : World} : VRs φ ok w [] [] := ⟨rfl, fun i x v h => by simp at h⟩
theorem VRs.cons {φ : List G} {ok : Nat → Prop} {w : World} {x : Vv} {v : Value} {xs : List Vv} {vs : List Value} (h : VR φ ok w x v) (k : VRs φ ok w xs vs) : VRs φ ok w (x :: xs) (v :: vs) :=
  ⟨by simp [k.1], fun i y u hy hu => by
    cases i with
    | zero => simp at hy hu; subst hy hu; exact h
    | succ i => exact k.2 i y u (by simpa using hy) (by simpa using hu)⟩
theorem VRs.uncons {φ : List G} {ok : Nat → Prop} {w : World} {x : Vv} {xs : List Vv} {vs : List Value} (k : VRs φ ok w (x :: xs) vs) : ∃ v r, vs = v :: r ∧ VR φ ok w x v ∧ VRs φ ok w xs r := by
  match vs, k with
  | [], k => exact absurd k.1 (by simp)
  | v :: r, k => exact ⟨v, r, rfl, k.2 0 x v rfl rfl, by simpa using k.1, fun i y u hy hu => k.2 (i + 1) y u (by simpa using hy) (by simpa using hu)⟩
theorem VRs.pack {φ : List G} {ok : Nat → Prop} {w : World} {xs : List Vv} {vs : List Value} (k : VRs φ ok w xs vs) : VR φ ok w (packV xs) (if h : vs.toArray.size = 1 then vs.toArray[0] else .tuple vs.toArray) := by
  match xs, vs, k with
  | [x], [v], k => exact k.2 0 x v rfl rfl
  | [], [], k => exact .tup _ _ (fun _ => undef) rfl (fun i hi => by simp at hi) (fun i v h => by simp at h)
  | x :: y :: r, v :: u :: s, k =>
    have : ¬ ((v :: u :: s).toArray.size = 1) := by simp
    rw [dif_neg this]
    refine .tup _ _ (fun i => (v :: u :: s).getD i undef) (by simpa using k.1) (fun i hi => ?_) (fun i z hz => ?_)
    · have : i < (v :: u :: s).length := by rw [k.1]; exact hi
      simp [List.getD, List.getElem?_eq_getElem this]
    · have : i < (v :: u :: s).length := by rw [k.1]; exact (List.getElem?_eq_some_iff.1 hz).1
      exact k.2 i z _ hz (by simp [List.getD, List.getElem?_eq_getElem this])
  | [], v :: s, k => exact absurd k.1 (by simp)
  | x :: r, [], k => exact absurd k.1 (by simp)
  | [x], v :: u :: s, k => exact absurd k.1 (by simp)
  | x :: y :: r, [v], k => exact absurd k.1 (by simp)

section
variable {P : Program} {φ : List G} {σ : Store} {w : World}
theorem loadV_at {t : TypeId} {n : Nat} {ag : Bool} {x v : Vv} {y : Value} (R : Rel F φ σ w) (hx : VR φ (Okb F φ σ w) w x y) (hag : aggOf P t = some ag) (hn : szOf P t = some n) (hv : loadV σ n ag x = some v) :
    ∃ u, (do loadVar t (← asAddr y) : Sem Value).run P w = .ok u w ∧ VR φ (Okb F φ σ w) w v u := by
  unfold loadV at hv
  split at hv
  · rename_i ds hds
    obtain ⟨b, off, cs, hy, hr, hl, hc⟩ := cellsAt_sound R hx hds
    have hmk := VR.mk hc hv
    have h1 : ag = false → n = 1 := by
      rintro rfl
      unfold Vv.mk at hv
      simp only [Bool.false_eq_true, if_false] at hv
      split at hv
      · rename_i d; rw [← hl, hc.1]; rfl
      · cases hv
    subst hy
    have := run_loadVar_range (P := P) hag hn hl hr h1
    cases ag with
    | true => exact ⟨_, by simpa [asAddr, Sem.run_bind, Sem.run_pure] using this, by simpa using hmk⟩
    | false =>
      simp only [Bool.false_eq_true, if_false] at hmk this
      obtain ⟨v1, rfl, hv1⟩ := hmk
      exact ⟨_, by simpa [asAddr, Sem.run_bind, Sem.run_pure] using this, by simpa using hv1⟩
  · cases hv

theorem resV_sound {tmps : Array Value} {e : Env} (R : Rel F φ σ w) (E : ER φ (Okb F φ σ w) w e tmps) : ∀ (rs : List Rv) (rv : List ResultVar) (vs : List Vv), mRes P rs rv = true → resV e σ rs = some vs →
    ∃ us : List Value, (rv.mapM (m := Sem) fun | .tmp t => pure (tmps.getD t undef) | .cell a t => do loadVar t (← asAddr (tmps.getD a undef))).run P w = .ok us w ∧ VRs φ (Okb F φ σ w) w vs us
  | [], [], vs, _, h => by simp only [resV, Option.some.injEq] at h; subst h; exact ⟨[], by simp [Sem.run_pure], .nil⟩
  | [], _ :: _, vs, hm, h => by simp [mRes] at hm
  | .tmp t :: r, .tmp t' :: s, vs, hm, h => by
    simp only [mRes, Bool.and_eq_true, beq_iff_eq] at hm
    obtain ⟨rfl, hm⟩ := hm
    simp only [resV] at h
    split at h
    · rename_i vs' h'
      cases h
      obtain ⟨us, k1, k2⟩ := resV_sound R E r s vs' hm h'
      refine ⟨tmps.getD t undef :: us, ?_, .cons (E t) k2⟩
      simp only [List.mapM_cons, Sem.run_bind, Sem.run_pure, Result.andThen_ok, k1]
    · cases h
  | .cell t n ag :: r, .cell t' ty :: s, vs, hm, h => by
    simp only [mRes, Bool.and_eq_true, beq_iff_eq] at hm
    obtain ⟨⟨⟨rfl, m2⟩, m3⟩, hm⟩ := hm
    simp only [resV] at h
    split at h
    · rename_i v vs' h' h''
      cases h
      obtain ⟨us, k1, k2⟩ := resV_sound R E r s vs' hm h''
      obtain ⟨u, q1, q2⟩ := loadV_at R (E t) m3 m2 h'
      refine ⟨u :: us, ?_, .cons q2 k2⟩
      rw [List.mapM_cons, Sem.run_bind, q1]
      simp only [Result.andThen_ok, Sem.run_bind, Sem.run_pure, k1]
    · cases h
  | .tmp _ :: _, .cell _ _ :: _, vs, hm, h => by simp [mRes] at hm
  | .cell _ _ _ :: _, .tmp _ :: _, vs, hm, h => by simp [mRes] at hm
  | .tmp _ :: _, [], vs, hm, h => by simp [mRes] at hm
  | .cell _ _ _ :: _, [], vs, hm, h => by simp [mRes] at hm

theorem settleV_sound {σ' : Store} {x x' : Vv} {v : Value} (R : Rel F φ σ w) (hx : VR φ (Okb F φ σ w) w x v) (h : settleV σ x = some (x', σ')) :
    Rel F φ σ' w ∧ VR φ (Okb F φ σ' w) w x' v ∧ Adv [] φ σ w φ σ' w := by
  unfold settleV at h
  split at h
  · split at h
    · rename_i hs
      cases h
      cases hx with | one _ _ hd =>
      obtain ⟨R', C, A⟩ := settle_sound _ (cs := [v]) R (.cons hd (.nil _ _ _)) hs
      exact ⟨R', .one _ _ (C.2 0 _ v rfl rfl), A⟩
    · cases h
  · split at h
    · rename_i hs
      cases h
      cases hx with | agg _ cs hd =>
      obtain ⟨R', C, A⟩ := settle_sound _ R hd hs
      exact ⟨R', .agg _ _ C, A⟩
    · cases h
  · cases h
theorem VRs.still {φ' : List G} {ok ok' : Nat → Prop} {w' : World} (m : Mono [] φ ok w φ' ok' w') {xs : List Vv} {vs : List Value} (h : VRs φ ok w xs vs) : VRs φ' ok' w' xs vs :=
  ⟨h.1, fun i x v hx hv => (h.2 i x v hx hv).still m⟩
theorem settleVs_sound : ∀ (xs : List Vv) {σ σ' : Store} {xs' : List Vv} {vs : List Value} (R : Rel F φ σ w) (hx : VRs φ (Okb F φ σ w) w xs vs) (h : settleVs σ xs = some (xs', σ')),
    Rel F φ σ' w ∧ VRs φ (Okb F φ σ' w) w xs' vs ∧ Adv [] φ σ w φ σ' w
  | [], σ, σ', xs', vs, R, hx, h => by
    simp only [settleVs, Option.some.injEq, Prod.mk.injEq] at h
    obtain ⟨rfl, rfl⟩ := h
    exact ⟨R, hx, Adv.refl _ _ _⟩
  | x :: r, σ, σ', xs', vs, R, hx, h => by
    obtain ⟨v, s, rfl, h1, h2⟩ := hx.uncons
    simp only [settleVs] at h
    split at h
    · rename_i v' σ1 hv
      split at h
      · rename_i r' σ2 hr
        cases h
        obtain ⟨R1, C1, A1⟩ := settleV_sound R h1 hv
        obtain ⟨R2, C2, A2⟩ := settleVs_sound r R1 (h2.still A1.mono) hr
        exact ⟨R2, .cons (C1.still A2.mono) C2, A1.then A2⟩
      · cases h
    · cases h
end

theorem argE_at : ∀ (j : Nat) (xs : List Vv) (n : Nat), getE (argE j xs) n = if j ≤ n then (xs[n - j]?).getD .top else .top
  | j, [], n => by simp [argE, getE]
  | j, x :: r, n => by
    simp only [argE, getE]
    split
    · rename_i h; subst h; simp
    · rename_i h
      rw [argE_at (j + 1) r n]
      by_cases hj : j + 1 ≤ n
      · rw [if_pos hj, if_pos (by omega)]
        rw [show n - j = (n - (j + 1)) + 1 by omega]; simp
      · rw [if_neg hj, if_neg (by omega)]
theorem gcL_pack (s : List Nat) (vs : List Vv) : (packV vs).gc s = packV (Vv.gcL s vs) := by
  match vs with
  | [v] => rfl
  | [] => rfl
  | v :: u :: r => rfl

theorem ok_of_run {P : Program} {d : FnDef} {fn : Func} {f : Nat} {args : List Vv} {σ σ' : Store} {res : Vv} (hf : P.funcs[f]? = some fn) (hm : mFn P d fn = true)
    (h : Run P σ.length (Ends σ.length d.res res σ') (.st d.body .done) (argE 0 args) σ) : Ok P f args σ res σ' := by
  simp only [mFn, Bool.and_eq_true, beq_iff_eq, bne_iff_ne] at hm
  obtain ⟨⟨⟨m1, m2⟩, m3⟩, m4⟩ := hm
  split at m3
  · rename_i c hb
    refine ⟨by simp [goodFn, hf, hb, m4], fun F φ w vals R hv => ?_⟩
    let a0 : Act := { tmps := vals ++ Array.replicate (fn.ntmps - vals.size) undef, defers := [] }
    have E : ER φ (Okb F φ σ w) w (argE 0 args) a0.tmps := by
      intro n
      rw [argE_at]
      simp only [Nat.zero_le, if_true, Nat.sub_zero]
      cases hx : args[n]? with
      | none => exact .top _
      | some x =>
        have hn : n < vals.size := by have := (List.getElem?_eq_some_iff.1 hx).1; have := hv.1; simp at this; omega
        have hg : a0.tmps.getD n undef = vals[n] := by
          simp [a0, Array.getD_eq_getD_getElem?, Array.getElem?_append_left hn, Array.getElem?_eq_getElem hn]
        rw [hg]
        exact hv.2 n x _ hx (by simp [hn])
    have S := h.sound (F := F) (φ0 := φ) (w0 := w) d.ntmps [.code c] φ w a0 (.st m3 .done) (by rw [m1]; simp [a0]; omega) rfl R.len E R (Adv.refl _ _ _)
    intro cs
    let b : Frame := { (default : Frame) with fn := f, kind := .normal }
    have henter : Frame.enter P f vals .normal = b.at a0 [.code c] := by simp [Frame.enter, Frame.at, hf, hb, b, a0]
    obtain ⟨a', w', t', e', σ1, φ', hs, ⟨vs, vs', σ2, q1, q2, q8⟩, hd, E', R', A'⟩ := S b cs
    rw [← henter] at hs
    obtain ⟨us, k1, k2⟩ := resV_sound R' E' d.res fn.results.toList vs m2 q1
    have hres : (results fn a'.tmps).run P w' = .ok (if h : us.toArray.size = 1 then us.toArray[0] else .tuple us.toArray) w' := by
      have k1' : (fn.results.mapM (m := Sem) fun | .tmp t => pure (a'.tmps.getD t undef) | .cell a t => do loadVar t (← asAddr (a'.tmps.getD a undef))).run P w' = .ok us.toArray w' := by
        rw [Array.mapM_eq_mapM_toList]
        simp only [map_eq_pure_bind, Sem.run_bind, k1, Result.andThen_ok, Sem.run_pure]
      unfold results
      rw [Sem.run_bind]
      refine Eq.trans (congrArg (fun r => Result.andThen r _) k1') ?_
      simp only [Result.andThen_ok, Sem.run_pure]
    have settled : Rel F φ' σ2 w' ∧ VRs φ' (Okb F φ' σ2 w') w' vs' us ∧ Adv [] φ' σ1 w' φ' σ2 w' := by
      rcases q2 with q2 | q2
      · simp only [Prod.mk.injEq] at q2; obtain ⟨rfl, rfl⟩ := q2; exact ⟨R', k2, Adv.refl _ _ _⟩
      · exact settleVs_sound vs R' k2 q2
    obtain ⟨R2, V2, A2⟩ := settled
    rcases q8 with ⟨rfl, rfl⟩ | ⟨sel, q3, q4, q5, q6, q7⟩
    · exact ⟨.returned _, w', _, ⟨_, φ', rfl, V2.pack, R2, A'.then A2⟩, hs, rfl, rfl, hd, rfl, fn, hf, hres⟩
    obtain ⟨φ3, R3, f1, f2, f3⟩ := R2.gc sel q4 q5
    refine ⟨.returned _, w', _, ⟨_, φ3, rfl, ?_, q7 ▸ R3, ?_⟩, hs, rfl, rfl, hd, rfl, fn, hf, hres⟩
    · rw [← q6, ← q7]; exact f3 _ _ V2.pack
    · have A := A'.then A2
      rw [← q7]
      refine ⟨A.kept, fun b hb => A.own b (f2 b hb), fun l g hg hm => ?_⟩
      have hlt' : l < σ.length := by rw [← R.len]; exact (List.getElem?_eq_some_iff.1 hg.1).1
      have := A.fix l g hg hm
      have hsel : sel[l]? = some l := by
        have h1 : (sel.take σ.length)[l]? = (List.range σ.length)[l]? := by rw [q3]
        rw [List.getElem?_take, if_pos hlt', List.getElem?_range hlt'] at h1
        exact h1
      exact ⟨by rw [f1 l l hsel]; exact this.1, this.2⟩
  · cases m3
end Go.Proofs.Dl

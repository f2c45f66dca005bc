/- A logic of plain data over the model, proved sound: part S6; conditions stand in each theorem. -/
import Derived.Test.YtajaolmagnldaaaDlS4
set_option linter.unusedVariables false
/-! Regions in any order. -/
namespace Go.Proofs.Dl

def fx1 (σ : Sto) (x : Nat × So) : Sto := match Nat.ble σ.length x.1 with
  | true => σ ++ [x.2]
  | false => σ.set x.1 x.2
def stB (fx : List (List (Nat × So))) (σ0 : Sto) (T : List Nat) : Sto := T.foldl (fun σ i => (fx.getD i []).foldl fx1 σ) σ0

def still2 : In → Bool
  | .iaddr .. | .sidx .. | .ssub .. | .slc .. | .slc3 .. => true
  | i => still i
theorem still2_spec {i : In} {ρ : Oo → Vv} {σ σ' : Store} {v : Vv} {mv : List Nat} (hs : still2 i = true) (h : stepv i ρ σ = some (v, σ', mv)) : σ' = σ ∧ mv = [] ∧ ∀ σ2, stepv i ρ σ2 = some (v, σ2, []) := by
  cases i <;> simp [still2, still] at hs <;> simp only [stepv] at h ⊢ <;> (repeat' split at h) <;> first
    | (cases h; exact ⟨rfl, rfl, fun _ => rfl⟩)
    | (cases h; rename_i hh; exact ⟨rfl, rfl, fun _ => if_pos hh⟩)
    | (cases h; refine ⟨rfl, rfl, fun _ => ?_⟩; rename_i hh; simp [hh]; done)
    | (cases h; refine ⟨rfl, rfl, fun _ => ?_⟩; simp_all; done)
    | cases h

/-- A result that was put behind, in its own place. -/
def reslotO (N j : Nat) (σ : Sto) (K : Sto → Prop) : Prop := match σ[N]? with
  | some ob => if σ.length = N + 1 then (match (σ.take N)[j]? with
    | some .res => K (((σ.take N).set j ob).map (So.ren (toN N j)))
    | _ => False) else False
  | Option.none => False
def execD0 (P : Program) (op : In) (e : Env) (σ : Sto) (ors : List Ora) (K : Vv → Sto → Prop) : Prop := match op with
  | .call g args => (match ors with
    | .call sel res σC :: _ => callO P g (args.map (ev e)) σ sel res σC K
    | _ => False)
  | op => (match ors with
    | .slot j :: r => (match σ[j]? with
      | some .res => evI op (ev e) r σ (fun _ v σ' => reslotO σ.length j σ' (K (v.ren (toN σ.length j))))
      | _ => False)
    | _ => evI op (ev e) ors σ (fun _ v σ' => K v σ'))
def execD (P : Program) (op : In) (e : Env) (σ : Sto) (ors : List Ora) (K : Vv → Sto → Prop) : Prop := match ors with
  | .lt q :: r => execD0 P op e σ r (fun v σ' => match v with
    | .one (.p (.bool b)) => (b = q ∧ K (b1 q) σ')
    | _ => False)
  | _ => execD0 P op e σ ors K
def stepD (P : Program) (x : Opx) (e : Env) (σ : Sto) (ors : List Ora) (K : Vv → Sto → Prop) : Prop := match x.guard with
  | Option.none => execD P x.op e σ ors K
  | some (t, b) => (match getE e t with
    | .one (.p (.bool q)) => (match ors with
      | .b q' :: r => (q = q' ∧ (match q', b with
        | true, true => execD P x.op e σ r K
        | false, false => execD P x.op e σ r K
        | true, false => K (.tup []) σ
        | false, true => K (.tup []) σ))
      | _ => (match q, b with
        | true, true => execD P x.op e σ ors K
        | false, false => execD P x.op e σ ors K
        | true, false => K (.tup []) σ
        | false, true => K (.tup []) σ))
    | .tup [] => K (.tup []) σ
    | _ => False)

theorem lowS_take (σ : Sto) (n : Nat) : lowS (σ.take n) = (lowS σ).take n := by simp [lowS, List.map_take]
theorem execD0_sound {P : Program} {x : Opx} {e : Env} {σ : Sto} {ors : List Ora} {K : Vv → Sto → Prop} (hw : wantE x.guard e = some true) (h : execD0 P x.op e σ ors K) :
    ∃ v σ', DStep P x e (lowS σ) v (lowS σ') ∧ K v σ' ∧ (still2 x.op = true → lowS σ' = lowS σ ∧ ∀ σ2 : Store, DStep P x e σ2 v σ2) := by
  unfold execD0 at h
  split at h
  · rename_i g args ho
    split at h
    · obtain ⟨v, σ', hok, hk⟩ := callO_sound h
      exact ⟨v, σ', .call hw ho hok, hk, fun hs => by rw [ho] at hs; simp [still2, still] at hs⟩
    · exact h.elim
  · split at h
    · rename_i j r
      split at h
      · rename_i hj
        obtain ⟨o, v, σ', hs, hk⟩ := evI_sound h
        unfold reslotO at hk
        split at hk
        · rename_i ob hob
          split at hk
          · rename_i hlen
            split at hk
            · rename_i hj'
              have e1 : lowS σ' = lowS (σ'.take σ.length) ++ [ob.low] := by
                have : σ' = σ'.take σ.length ++ [ob] := by
                  apply List.ext_getElem?
                  intro i
                  rcases Nat.lt_trichotomy i σ.length with hi | hi | hi
                  · rw [List.getElem?_append_left (by simp [hlen]; omega), List.getElem?_take, if_pos hi]
                  · subst hi; rw [hob, List.getElem?_append_right (by simp [hlen])]; simp [hlen]
                  · rw [List.getElem?_eq_none (by omega), List.getElem?_eq_none (by simp [hlen]; omega)]
                conv => lhs; rw [this]
                rw [lowS_append]; rfl
              have d0 : DStep P x e (lowS σ) v (lowS (σ'.take σ.length) ++ [ob.low]) := .op hw (by rw [hs, e1])
              have d1 := d0.re j (by rw [lowS_length, lowS_length]; simp [hlen]) (lowS_at hj) (lowS_at hj')
              refine ⟨_, _, ?_, hk, fun h2 => ?_⟩
              · rw [lowS_ren, lowS_set]; rw [lowS_length] at d1; exact d1
              · obtain ⟨h3, _⟩ := still2_spec h2 hs
                have := congrArg List.length h3
                rw [lowS_length, lowS_length] at this
                omega
            · exact hk.elim
          · exact hk.elim
        · exact hk.elim
      · exact h.elim
    · obtain ⟨o, v, σ', hs, hk⟩ := evI_sound h
      refine ⟨v, σ', .op hw hs, hk, fun h2 => ?_⟩
      obtain ⟨h3, _, h4⟩ := still2_spec h2 hs
      exact ⟨h3, fun σ2 => .op hw (h4 σ2)⟩
theorem execD_sound {P : Program} {x : Opx} {e : Env} {σ : Sto} {ors : List Ora} {K : Vv → Sto → Prop} (hw : wantE x.guard e = some true) (h : execD P x.op e σ ors K) :
    ∃ v σ', DStep P x e (lowS σ) v (lowS σ') ∧ K v σ' ∧ (still2 x.op = true → lowS σ' = lowS σ ∧ ∀ σ2 : Store, DStep P x e σ2 v σ2) := by
  unfold execD at h
  split at h
  · obtain ⟨v, σ', h1, h2, h3⟩ := execD0_sound hw h
    split at h2
    · obtain ⟨rfl, h2⟩ := h2
      exact ⟨_, σ', h1, h2, h3⟩
    · exact h2.elim
  · exact execD0_sound hw h
theorem stepD_sound {P : Program} {x : Opx} {e : Env} {σ : Sto} {ors : List Ora} {K : Vv → Sto → Prop} (h : stepD P x e σ ors K) :
    ∃ v σ', DStep P x e (lowS σ) v (lowS σ') ∧ K v σ' ∧ (still2 x.op = true → lowS σ' = lowS σ ∧ ∀ σ2 : Store, DStep P x e σ2 v σ2) := by
  unfold stepD at h
  split at h
  · rename_i hg
    exact execD_sound (by rw [hg]; rfl) h
  · rename_i t b hg
    have no : wantE x.guard e = some false → K (.tup []) σ → ∃ v σ', DStep P x e (lowS σ) v (lowS σ') ∧ K v σ' ∧ (still2 x.op = true → lowS σ' = lowS σ ∧ ∀ σ2 : Store, DStep P x e σ2 v σ2) :=
      fun hw hk => ⟨.tup [], σ, .no hw, hk, fun _ => ⟨rfl, fun σ2 => .no hw⟩⟩
    split at h
    · rename_i q ht
      have w : wantE x.guard e = some (q == b) := by rw [hg]; simp [wantE, ht]
      split at h
      · rename_i q' r
        obtain ⟨rfl, h⟩ := h
        split at h
        · exact execD_sound (by rw [w]; rfl) h
        · exact execD_sound (by rw [w]; rfl) h
        · exact no (by rw [w]; rfl) h
        · exact no (by rw [w]; rfl) h
      · split at h
        · exact execD_sound (by rw [w]; rfl) h
        · exact execD_sound (by rw [w]; rfl) h
        · exact no (by rw [w]; rfl) h
        · exact no (by rw [w]; rfl) h
    · rename_i ht
      exact no (by rw [hg]; simp [wantE, ht]) h
    · exact h.elim

/-- Is s the first stage at which i may be done? -/
def firstS (D : List Dop) (i : Nat) (d : Dop) : List (List Nat) → Nat → Nat
  | [], j => j
  | T :: r, j => if enab D i d T = true then j else firstS D i d r (j + 1)
/-- What is to be looked at: an operation, and a stage. -/
def pairs1 (D : List Dop) (st : List (List Nat)) (i : Nat) (d : Dop) : List (Nat × Nat) :=
  if (still2 d.x.op && !d.ea) = true then [(i, firstS D i d st 0)] else (List.range st.length).map fun s => (i, s)
def pairsD (D : List Dop) (st : List (List Nat)) : Nat → List Dop → List (Nat × Nat)
  | _, [] => []
  | i, d :: r => pairs1 D st i d ++ pairsD D st (i + 1) r
def dAll (P : Program) (D : List Dop) (st : List (List Nat)) (e : Env) (V : Nat → Vv) (B : Nat → Sto) (os : List (List Ora)) : List (Nat × Nat) → (List (Vv × Sto) → Prop) → Prop
  | [], K => K []
  | (i, s) :: r, K => match D[i]?, st[s]? with
    | some d, some T => if enab D i d T = true then stepD P d.x (envD V i d.b D 0 e) (B s) (os.getD i []) (fun v σ' => dAll P D st e V B os r (fun l => K ((v, σ') :: l))) else dAll P D st e V B os r K
    | _, _ => dAll P D st e V B os r K
def dExp (D : List Dop) (st : List (List Nat)) (V : Nat → Vv) (B : Nat → Sto) : List (Nat × Nat) → List (Vv × Sto)
  | [] => []
  | (i, s) :: r => match D[i]?, st[s]? with
    | some d, some T => if enab D i d T = true then (V i, B (nextS st s T i d)) :: dExp D st V B r else dExp D st V B r
    | _, _ => dExp D st V B r
theorem dAll_sound {P : Program} {D : List Dop} {st : List (List Nat)} {e : Env} {V : Nat → Vv} {B : Nat → Sto} {os : List (List Ora)} : ∀ (ps : List (Nat × Nat)) (K : List (Vv × Sto) → Prop), dAll P D st e V B os ps K →
    ∃ l, K l ∧ (l = dExp D st V B ps → ∀ (i s : Nat) (d : Dop) (T : List Nat), (i, s) ∈ ps → D[i]? = some d → st[s]? = some T → enab D i d T = true →
      DStep P d.x (envD V i d.b D 0 e) (lowS (B s)) (V i) (lowS (B (nextS st s T i d))) ∧ (still2 d.x.op = true → ∀ σ2 : Store, DStep P d.x (envD V i d.b D 0 e) σ2 (V i) σ2))
  | [], K, h => ⟨[], h, fun _ i s d T hm => by simp at hm⟩
  | (i, s) :: r, K, h => by
    unfold dAll at h
    split at h
    · rename_i d T hd hT
      split at h
      · rename_i hen
        obtain ⟨v, σ', hs, h1, h2⟩ := stepD_sound h
        obtain ⟨l, hk, hl⟩ := dAll_sound r _ h1
        refine ⟨(v, σ') :: l, hk, fun he i' s' d' T' hm q1 q2 q3 => ?_⟩
        have he' : (v, σ') :: l = (V i, B (nextS st s T i d)) :: dExp D st V B r := by rw [he]; simp only [dExp, hd, hT, hen, if_true]
        simp only [List.cons.injEq, Prod.mk.injEq] at he'
        obtain ⟨⟨rfl, rfl⟩, he'⟩ := he'
        rcases List.mem_cons.1 hm with hm | hm
        · cases hm
          rw [hd] at q1; rw [hT] at q2
          cases q1; cases q2
          exact ⟨hs, fun h3 => (h2 h3).2⟩
        · exact hl he' i' s' d' T' hm q1 q2 q3
      · rename_i hen
        obtain ⟨l, hk, hl⟩ := dAll_sound r _ h
        refine ⟨l, hk, fun he i' s' d' T' hm q1 q2 q3 => ?_⟩
        have he' : l = dExp D st V B r := by rw [he]; simp only [dExp, hd, hT]; rw [if_neg hen]
        rcases List.mem_cons.1 hm with hm | hm
        · cases hm
          rw [hd] at q1; rw [hT] at q2
          cases q1; cases q2
          exact absurd q3 hen
        · exact hl he' i' s' d' T' hm q1 q2 q3
    · rename_i hne
      obtain ⟨l, hk, hl⟩ := dAll_sound r _ h
      refine ⟨l, hk, fun he i' s' d' T' hm q1 q2 q3 => ?_⟩
      have he' : l = dExp D st V B r := by
        rw [he, dExp]
        split
        · rename_i d0 T0 h1 h2; exact absurd h2 (hne d0 T0 h1)
        · rfl
      rcases List.mem_cons.1 hm with hm | hm
      · cases hm; exact absurd q2 (hne d' T' q1)
      · exact hl he' i' s' d' T' hm q1 q2 q3

theorem firstS_spec {D : List Dop} {i : Nat} {d : Dop} : ∀ (st : List (List Nat)) (j s : Nat) (T : List Nat), st[s]? = some T → enab D i d T = true → ∃ k T', firstS D i d st j = j + k ∧ st[k]? = some T' ∧ enab D i d T' = true
  | [], j, s, T, h, _ => by simp at h
  | U :: r, j, s, T, h, he => by
    simp only [firstS]
    split
    · rename_i hU; exact ⟨0, U, rfl, rfl, hU⟩
    · rename_i hU
      cases s with
      | zero => simp at h; subst h; exact absurd he hU
      | succ s =>
        obtain ⟨k, T', h1, h2, h3⟩ := firstS_spec r (j + 1) s T (by simpa using h) he
        exact ⟨k + 1, T', by omega, by simpa using h2, h3⟩
theorem pairsD_mem {D : List Dop} {st : List (List Nat)} : ∀ (l : List Dop) (j n : Nat) (d : Dop), l[n]? = some d → ∀ p ∈ pairs1 D st (j + n) d, p ∈ pairsD D st j l
  | [], j, n, d, h, _, _ => by simp at h
  | x :: r, j, n, d, h, p, hp => by
    simp only [pairsD, List.mem_append]
    cases n with
    | zero => simp at h; subst h; exact .inl hp
    | succ n =>
      refine .inr (pairsD_mem r (j + 1) n d (by simpa using h) p ?_)
      rw [show j + 1 + n = j + (n + 1) by omega]; exact hp
theorem dAll_ok {P : Program} {D : List Dop} {st : List (List Nat)} {e : Env} {V : Nat → Vv} {B : Nat → Sto} {os : List (List Ora)} {K : List (Vv × Sto) → Prop} (h : dAll P D st e V B os (pairsD D st 0 D) K) :
    ∃ l, K l ∧ (l = dExp D st V B (pairsD D st 0 D) → DOk P D st e V (fun s => lowS (B s))) := by
  obtain ⟨l, hk, hl⟩ := dAll_sound _ _ h
  refine ⟨l, hk, fun he i d s T hd hT hen => ?_⟩
  have mem := pairsD_mem (D := D) (st := st) D 0 i d hd
  rw [Nat.zero_add] at mem
  by_cases hc : (still2 d.x.op && !d.ea) = true
  · have hc' := hc
    simp only [Bool.and_eq_true, Bool.not_eq_true'] at hc'
    obtain ⟨k, T', h1, h2, h3⟩ := firstS_spec (i := i) (d := d) (D := D) st 0 s T hT hen
    have hp : (i, firstS D i d st 0) ∈ pairs1 D st i d := by unfold pairs1; rw [if_pos hc]; simp
    rw [h1, Nat.zero_add] at hp
    have := (hl he i k d T' (mem _ hp) hd h2 h3).2 hc'.1
    simp only [nextS, hc'.2]
    exact this _
  · have hp : (i, s) ∈ pairs1 D st i d := by
      unfold pairs1
      rw [if_neg hc, List.mem_map]
      exact ⟨s, List.mem_range.2 (List.getElem?_eq_some_iff.1 hT).1, rfl⟩
    exact (hl he i s d T (mem _ hp) hd hT hen).1
end Go.Proofs.Dl

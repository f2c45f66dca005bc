/- A logic of plain data over the model, proved sound: part S5; conditions stand in each theorem. -/
import Derived.Test.YtajaolmagnldaaaDlS6
set_option linter.unusedVariables false
/-! A path through code. -/
namespace Go.Proofs.Dl

def viewSt (e : Env) (t : Nat) (ors : List Ora) (σ : Sto) (K : List Ora → Env → Sto → Prop) : Prop := match getE e t with
  | .one d => settleO [d] ors σ (fun o ds σ1 => match ds with
    | [d'] => K o ((t, .one d') :: e) σ1
    | _ => False)
  | .agg ds => settleO ds ors σ (fun o ds' σ1 => K o ((t, .agg ds') :: e) σ1)
  | _ => False

/-- Moves that leave memory as it is. -/
def admP (n : Nat) (a : Ora) (ors : List Ora) (e : Env) (σ : Sto) (K : List Ora → Env → Sto → Prop) : Prop := match a with
  | .gc sel => if okGc n sel σ.length = true then K ors (gcE sel e) (gcSo sel σ) else False
  | .keep ks => K ors (keepE ks e) σ
  | .mkown t ty sz => (match getE e t with
    | .one (.nil sz') => if sz' = sz then (if 0 < sz then K ors ((t, .one (.own σ.length sz 0 0)) :: e) (σ ++ [.row ty sz 0 []]) else False) else False
    | _ => False)
  | .mkcell l i ty sz => (match σ[l]? with
    | some (.box cs) => (match cs[i]? with
      | some (.nil sz') => if sz' = sz then (if 0 < sz then K ors e (σ.set l (.box (cs.set i (.own σ.length sz 0 0))) ++ [.row ty sz 0 []]) else False) else False
      | _ => False)
    | _ => False)
  | .mv l => (match σ[l]? with
    | some (.row ty sz kc xs) => K ors (reE (toN l σ.length) e) ((σ.set l .none).map (So.ren (toN l σ.length)) ++ [.row ty sz kc xs])
    | _ => False)
  | .cut l zs m => (match σ[l]? with
    | some (.row ty sz kc xs) => ((m ≤ kc ∧ zs.length = m ∧ xs.take m = zs) ∧ K ors e (σ.set l (.row ty sz m zs)))
    | _ => False)
  | .elen t m => (match getE e t with
    | .one (.own l sz off len) => (len = m ∧ K ors ((t, .one (.own l sz off m)) :: e) σ)
    | _ => False)
  | .lit t m => (match getE e t with
    | .one (.p (.int k n)) => (n = m ∧ K ors ((t, .one (.p (.int k m))) :: e) σ)
    | _ => False)
  | .clit l i m => (match σ[l]? with
    | some (.box cs) => (match cs[i]? with
      | some (.p (.int k n)) => (n = m ∧ K ors e (σ.set l (.box (cs.set i (.p (.int k m))))))
      | _ => False)
    | _ => False)
  | .clen l i m => (match σ[l]? with
    | some (.box cs) => (match cs[i]? with
      | some (.own l' sz off len) => (len = m ∧ K ors e (σ.set l (.box (cs.set i (.own l' sz off m)))))
      | _ => False)
    | _ => False)
  | .fz t _ => viewSt e t ors σ K
  | .fza t i => (match getE e t with
    | .agg ds => (match ds[i]? with
      | some d => settleO [d] ors σ (fun o ds' σ1 => match ds' with
        | [d'] => K o ((t, .agg (ds.set i d')) :: e) σ1
        | _ => False)
      | _ => False)
    | _ => False)
  | .owna t i ty sz => (match getE e t with
    | .agg ds => (match ds[i]? with
      | some (.nil sz') => if sz' = sz then (if 0 < sz then K ors ((t, .agg (ds.set i (.own σ.length sz 0 0))) :: e) (σ ++ [.row ty sz 0 []]) else False) else False
      | _ => False)
    | _ => False)
  | .fzc l i _ => (match σ[l]? with
    | some (.box cs) => (match cs[i]? with
      | some d => settleO [d] ors σ (fun o ds σ1 => match ds, σ1[l]? with
        | [d'], some (.box cs') => (cs' = cs ∧ K o e (σ1.set l (.box (cs.set i d'))))
        | _, _ => False)
      | _ => False)
    | _ => False)
  | _ => False
theorem admP_sound {n : Nat} {a : Ora} {ors : List Ora} {e : Env} {σ : Sto} {K : List Ora → Env → Sto → Prop} (h : admP n a ors e σ K) :
    ∃ o e' σ', K o e' σ' ∧ ∀ {P : Program} {Q : Env → Store → Prop} {k : Ko}, Run P n Q k e' (lowS σ') → Run P n Q k e (lowS σ) := by
  unfold admP at h
  split at h
  · rename_i sel
    split at h
    · rename_i hc
      simp only [okGc, Bool.and_eq_true] at hc
      refine ⟨_, _, _, h, fun hr => ?_⟩
      rw [lowS_gc] at hr
      exact .gc sel (eqNs_eq hc.1.1) (nodupN_eq hc.1.2) (by rw [lowS_length]; exact allLt_eq hc.2) hr
    · exact h.elim
  · exact ⟨_, _, _, h, fun hr => .keep _ hr⟩
  · rename_i t ty sz
    split at h
    · rename_i sz' ht
      split at h
      · rename_i hs
        subst hs
        split at h
        · rename_i hp
          refine ⟨_, _, _, h, fun hr => .weak (Weak.mkown (ty := ty) hp ht) ?_⟩
          rw [lowS_length]
          simpa [lowS, So.low, upP] using hr
        · exact h.elim
      · exact h.elim
    · exact h.elim
  · rename_i l i ty sz
    split at h
    · rename_i cs hl
      split at h
      · rename_i sz' hc
        split at h
        · rename_i hs
          subst hs
          split at h
          · rename_i hp
            refine ⟨_, _, _, h, fun hr => .weak (Weak.mkcell (ty := ty) hp (lowS_at hl) hc) ?_⟩
            rw [lowS_length]
            rw [lowS_append, lowS_set] at hr
            exact hr
          · exact h.elim
        · exact h.elim
      · exact h.elim
    · exact h.elim
  · rename_i l
    split at h
    · rename_i ty sz kc xs hl
      refine ⟨_, _, _, h, fun hr => .weak (Weak.mvrow (lowS_at hl) (ren_up _ xs)) ?_⟩
      rw [lowS_length]
      rw [lowS_append, lowS_ren, lowS_set] at hr
      exact hr
    · exact h.elim
  · rename_i l zs m
    split at h
    · rename_i ty sz kc xs hl
      obtain ⟨⟨h1, h2, h3⟩, hk⟩ := h
      refine ⟨_, _, _, hk, fun hr => .weak (Weak.cutrow (m := m) (zs := upP zs) (lowS_at hl) h1 (by rw [upP_length, h2]; exact Nat.le_refl _) (fun i hi => ?_)) ?_⟩
      · rw [upP_length] at hi
        rw [← h3]
        simp only [upP, List.getElem?_map, List.getElem?_take]
        rw [if_pos (by omega)]
      · rw [lowS_set] at hr; exact hr
    · exact h.elim
  · rename_i t m
    split at h
    · rename_i l sz off len ht
      obtain ⟨rfl, hk⟩ := h
      refine ⟨_, _, _, hk, fun hr => .weak (Weak.refl' fun k => ?_) hr⟩
      simp only [getE]
      split
      · rename_i hk; subst hk; exact ht.symm
      · rfl
    · exact h.elim
  · rename_i t m
    split at h
    · rename_i k n ht
      obtain ⟨rfl, hk⟩ := h
      refine ⟨_, _, _, hk, fun hr => .weak (Weak.refl' fun k => ?_) hr⟩
      simp only [getE]
      split
      · rename_i hk; subst hk; exact ht.symm
      · rfl
    · exact h.elim
  · rename_i l i m
    split at h
    · rename_i cs hl
      split at h
      · rename_i k n hc
        obtain ⟨rfl, hk⟩ := h
        refine ⟨_, _, _, hk, fun hr => ?_⟩
        rw [set_self hc, lowS_set] at hr
        rwa [show So.low (.box cs) = .box cs from rfl, show (lowS σ).set l (.box cs) = lowS σ from set_self (lowS_at hl)] at hr
      · exact h.elim
    · exact h.elim
  · rename_i l i m
    split at h
    · rename_i cs hl
      split at h
      · rename_i l' sz off len hc
        obtain ⟨rfl, hk⟩ := h
        refine ⟨_, _, _, hk, fun hr => ?_⟩
        rw [set_self hc, lowS_set] at hr
        rwa [show So.low (.box cs) = .box cs from rfl, show (lowS σ).set l (.box cs) = lowS σ from set_self (lowS_at hl)] at hr
      · exact h.elim
    · exact h.elim
  · rename_i t _
    unfold viewSt at h
    split at h
    · rename_i d ht
      obtain ⟨o, ds, σ1, e1, h1⟩ := settleO_sound _ _ _ _ h
      split at h1
      · rename_i d'
        refine ⟨_, _, _, h1, fun hr => .weak (Weak.settleT (v := .one d') ?_) hr⟩
        simp only [ht, settleV, e1]
      · exact h1.elim
    · rename_i ds ht
      obtain ⟨o, ds', σ1, e1, h1⟩ := settleO_sound _ _ _ _ h
      refine ⟨_, _, _, h1, fun hr => .weak (Weak.settleT (v := .agg ds') ?_) hr⟩
      simp only [ht, settleV, e1]
    · exact h.elim
  · rename_i t i
    split at h
    · rename_i ds ht
      split at h
      · rename_i d hd
        obtain ⟨o, ds', σ1, e1, h1⟩ := settleO_sound _ _ _ _ h
        split at h1
        · rename_i d'
          exact ⟨_, _, _, h1, fun hr => .weak (Weak.settleA ht hd e1) hr⟩
        · exact h1.elim
      · exact h.elim
    · exact h.elim
  · rename_i t i ty sz
    split at h
    · rename_i ds ht
      split at h
      · rename_i sz' hd
        split at h
        · rename_i hs
          subst hs
          split at h
          · rename_i hp
            refine ⟨_, _, _, h, fun hr => .weak (Weak.mkowna (ty := ty) hp ht hd) ?_⟩
            rw [lowS_length]
            simpa [lowS, So.low, upP] using hr
          · exact h.elim
        · exact h.elim
      · exact h.elim
    · exact h.elim
  · rename_i l i _
    split at h
    · rename_i cs hl
      split at h
      · rename_i d hc
        obtain ⟨o, ds', σ1, e1, h1⟩ := settleO_sound _ _ _ _ h
        split at h1
        · rename_i d' cs' hl'
          obtain ⟨rfl, hk⟩ := h1
          refine ⟨_, _, _, hk, fun hr => .weak (Weak.settleC (lowS_at hl) hc e1 (lowS_at hl')) ?_⟩
          rw [lowS_set] at hr; exact hr
        · exact h1.elim
      · exact h.elim
    · exact h.elim
  · exact h.elim

def resO (e : Env) (σ : Sto) : List Rv → Option (List Vv)
  | [] => some []
  | .tmp t :: r => (match resO e σ r with
    | some vs => some (getE e t :: vs)
    | Option.none => Option.none)
  | .cell t n ag :: r => (match getE e t with
    | .one (.ptr l o) => (match σ[l]? with
      | some (.box cs) => if o + n ≤ cs.length then (match Vv.mk ag ((cs.drop o).take n), resO e σ r with
        | some v, some vs => some (v :: vs)
        | _, _ => Option.none) else Option.none
      | _ => Option.none)
    | _ => Option.none)
theorem resO_sound {e : Env} {σ : Sto} : ∀ {rs : List Rv} {vs : List Vv}, resO e σ rs = some vs → resV e (lowS σ) rs = some vs
  | [], vs, h => h
  | .tmp t :: r, vs, h => by
    simp only [resO] at h
    split at h
    · rename_i us hu; cases h; simp only [resV, resO_sound hu]
    · cases h
  | .cell t n ag :: r, vs, h => by
    simp only [resO] at h
    split at h
    · rename_i l o ht
      split at h
      · rename_i cs hl
        split at h
        · rename_i hle
          split at h
          · rename_i v us hv hu
            cases h
            simp only [resV, loadV, cellsAt, ht, lowS_at hl, So.low]
            rw [if_pos hle]
            simp only [hv, resO_sound hu]
          · cases h
        · cases h
      · cases h
    · cases h

/-- How a run is to end. -/
structure End where
  n : Nat
  rs : List Rv
  res : Vv
  st : Sto
def End.Q (E : End) : Env → Store → Prop := Ends E.n E.rs E.res (lowS E.st)
def finP (E : End) (sel : List Nat) (e : Env) (σ : Sto) : Prop := match resO e σ E.rs with
  | some vs => if okGc E.n sel σ.length = true then (((packV vs).gc sel, gcSo sel σ) = (E.res, E.st)) else False
  | Option.none => False
theorem finP_sound {E : End} {sel : List Nat} {e : Env} {σ : Sto} (h : finP E sel e σ) : E.Q e (lowS σ) := by
  unfold finP at h
  split at h
  · rename_i vs hv
    split at h
    · rename_i hc
      simp only [okGc, Bool.and_eq_true] at hc
      simp only [Prod.mk.injEq] at h
      refine ⟨vs, vs, _, resO_sound hv, .inl rfl, .inr ⟨sel, eqNs_eq hc.1.1, nodupN_eq hc.1.2, by rw [lowS_length]; exact allLt_eq hc.2, h.1, ?_⟩⟩
      rw [← lowS_gc, h.2]
    · exact h.elim
  · exact h.elim

def isAdm : Ora → Bool
  | .gc _ | .keep _ | .mkown .. | .mkcell .. | .mv _ | .cut .. | .elen .. | .clen .. | .lit .. | .clit .. | .fza .. | .owna .. | .fz .. | .fzc .. => true
  | _ => false

/-- An operation, guarded or not. -/
def guardO (g : Option (Nat × Bool)) (ors : List Ora) (e : Env) (Ky Kn : List Ora → Env → Prop) : Prop := match g with
  | Option.none => Ky ors e
  | some (t, b) => (match getE e t with
    | .one (.p (.bool q)) => (match ors with
      | .b q' :: r => (q = q' ∧ (match q', b with
        | true, true => Ky r ((t, b1 true) :: e)
        | false, false => Ky r ((t, b1 false) :: e)
        | true, false => Kn r ((t, b1 true) :: e)
        | false, true => Kn r ((t, b1 false) :: e)))
      | _ => (match q, b with
        | true, true => Ky ors e
        | false, false => Ky ors e
        | _, _ => Kn ors e))
    | .tup [] => Kn ors e
    | _ => False)

/-- So many steps are done ahead of the next word. -/
def decO : List Ora → List Ora
  | .i 0 :: r => r
  | .i (n + 1) :: r => .i n :: r
  | l => l
def evP (P : Program) (E : End) : Nat → List Ora → Ko → Env → Sto → (Ko → Env → Sto → Prop) → Prop
  | 0, _, _, _, _, _ => False
  | f + 1, ors0, k, e, σ, K => match decO ors0 with
    | .stop :: _ => K k e σ
    | a :: r => if isAdm a = true then admP E.n a r e σ (fun o e' σ' => evP P E f o k e' σ' K) else
      (match k with
      | .done => (match a with | .fin sel => finP E sel e σ | _ => False)
      | .st .ret _ => (match a with | .fin sel => finP E sel e σ | _ => False)
      | .st .skip k => evP P E f (a :: r) k e σ K
      | .st (.seq x y) k => evP P E f (a :: r) (.st x (.st y k)) e σ K
      | .st (.cond c x y) k => (match ev e c with
        | .one (.p (.bool q)) => (match a with
          | .b q' => (q = q' ∧ evP P E f r (.st (match q' with | true => x | false => y) k) e σ K)
          | _ => evP P E f (a :: r) (.st (match q with | true => x | false => y) k) e σ K)
        | _ => False)
      | .st (.block id b) k => evP P E f (a :: r) (.st b (.blk id k)) e σ K
      | .st (.loop b) k => evP P E f (a :: r) (.loop b k) e σ K
      | .st (.exit id) k => (match k.pop id with
        | some k' => evP P E f (a :: r) k' e σ K
        | Option.none => False)
      | .st (.ops l live) k => evP P E f (a :: r) (.ops l live k) e σ K
      | .st (.drawn D st live) k => (match a with
        | .dr m os vs fx => if (eqNs (st.getD 0 [0]) [] && eqNs (st.getD (idxS st (eaAll D 0)) []) (eaAll D 0)) = true then
            dAll P D st e (fun i => vs.getD i .top) (fun s => stB fx (σ ++ List.replicate m .res) (st.getD s [])) os (pairsD D st 0 D) (fun l =>
              l = dExp D st (fun i => vs.getD i .top) (fun s => stB fx (σ ++ List.replicate m .res) (st.getD s [])) (pairsD D st 0 D) ∧
              evP P E f r k (keepE live (envAll (fun i => vs.getD i .top) D 0 e)) (stB fx (σ ++ List.replicate m .res) (eaAll D 0)) K)
          else False
        | _ => False)
      | .blk _ k => evP P E f (a :: r) k e σ K
      | .loop b k => evP P E f (a :: r) (.st b (.loop b k)) e σ K
      | .ops [] live k => evP P E f (a :: r) k (keepE live e) σ K
      | .ops (o :: l) live k => guardO o.guard (a :: r) e
          (fun ors e => match o.op with
            | .call g args => (match ors with
              | .call sel res σC :: r => callO P g (args.map (ev e)) σ sel res σC (fun v σ' => evP P E f r (.ops l live k) (setE e o.dst v) σ' K)
              | _ => False)
            | .callv fx args => (match ev e fx with
              | .one (.fn g cap) => (match ors with
                | .call sel res σC :: r => callO P g (args.map (ev e) ++ cap.map .one) σ sel res σC (fun v σ' => evP P E f r (.ops l live k) (setE e o.dst v) σ' K)
                | _ => False)
              | _ => False)
            | op => (match isX op with
              | true => evX op (ev e) ors σ (fun ors v σ' => evP P E f ors (.ops l live k) (setE e o.dst v) σ' K)
              | false => evI op (ev e) ors σ (fun ors v σ' => evP P E f ors (.ops l live k) (setE e o.dst v) σ' K)))
          (fun ors e => evP P E f ors (.ops l live k) (setE e o.dst (.tup [])) σ K))
    | [] => False

theorem getE_same {e : Env} {t : Nat} {v : Vv} (h : getE e t = v) (n : Nat) : getE ((t, v) :: e) n = getE e n := by
  simp only [getE]
  split
  · rename_i hn; subst hn; exact h.symm
  · rfl
theorem run_same {P : Program} {n : Nat} {Q : Env → Store → Prop} {k : Ko} {e : Env} {σ : Store} {t : Nat} {v : Vv} (h : getE e t = v) (hr : Run P n Q k ((t, v) :: e) σ) : Run P n Q k e σ := .weak (Weak.refl' (getE_same h)) hr

theorem guardO_sound {g : Option (Nat × Bool)} {ors : List Ora} {e : Env} {Ky Kn : List Ora → Env → Prop} (h : guardO g ors e Ky Kn) :
    ∃ o e', (∀ {P : Program} {n : Nat} {Q : Env → Store → Prop} {k : Ko} {σ : Store}, Run P n Q k e' σ → Run P n Q k e σ) ∧ ((wantE g e' = some true ∧ Ky o e') ∨ (wantE g e' = some false ∧ Kn o e')) := by
  unfold guardO at h
  split at h
  · exact ⟨_, _, fun hr => hr, .inl ⟨rfl, h⟩⟩
  · rename_i t b
    split at h
    · rename_i q ht
      split at h
      · rename_i q' r
        obtain ⟨rfl, h⟩ := h
        split at h
        · exact ⟨_, _, run_same ht, .inl ⟨by simp [wantE, getE], h⟩⟩
        · exact ⟨_, _, run_same ht, .inl ⟨by simp [wantE, getE], h⟩⟩
        · exact ⟨_, _, run_same ht, .inr ⟨by simp [wantE, getE], h⟩⟩
        · exact ⟨_, _, run_same ht, .inr ⟨by simp [wantE, getE], h⟩⟩
      · have w : wantE (some (t, b)) e = some (q == b) := by simp [wantE, ht]
        split at h
        · exact ⟨_, _, fun hr => hr, .inl ⟨by rw [w]; rfl, h⟩⟩
        · exact ⟨_, _, fun hr => hr, .inl ⟨by rw [w]; rfl, h⟩⟩
        · rename_i h1 h2
          refine ⟨_, _, fun hr => hr, .inr ⟨?_, h⟩⟩
          rw [w]
          congr 1
          exact Bool.eq_false_iff.2 (fun hq => by
            have := eq_of_beq hq
            subst this
            cases q
            · exact h2 rfl rfl
            · exact h1 rfl rfl)
    · rename_i ht
      exact ⟨_, _, fun hr => hr, .inr ⟨by simp [wantE, ht], h⟩⟩
    · exact h.elim

theorem evP_sound {P : Program} {E : End} : ∀ (f : Nat) (ors : List Ora) (k : Ko) (e : Env) (σ : Sto) (K : Ko → Env → Sto → Prop), (∀ k e σ, K k e σ → Run P E.n E.Q k e (lowS σ)) → evP P E f ors k e σ K → Run P E.n E.Q k e (lowS σ) := by
  intro f
  induction f with
  | zero => intro ors k e σ K hK h; exact h.elim
  | succ f ih =>
    intro ors0 k e σ K hK h
    simp only [evP] at h
    revert h
    generalize decO ors0 = ors
    intro h
    split at h
    · exact hK _ _ _ h
    · rename_i a r _
      split at h
      · obtain ⟨o, e', σ', h1, h2⟩ := admP_sound h
        exact h2 (ih _ _ _ _ _ hK h1)
      · split at h
        · split at h
          · exact .done (finP_sound h)
          · exact h.elim
        · split at h
          · exact .ret (finP_sound h)
          · exact h.elim
        · exact .skip (ih _ _ _ _ _ hK h)
        · exact .seq (ih _ _ _ _ _ hK h)
        · split at h
          · rename_i q hq
            split at h
            · rename_i q'
              obtain ⟨rfl, h⟩ := h
              refine .cond q hq ?_
              have := ih _ _ _ _ _ hK h
              cases q <;> exact this
            · refine .cond q hq ?_
              have := ih _ _ _ _ _ hK h
              cases q <;> exact this
          · exact h.elim
        · exact .block (ih _ _ _ _ _ hK h)
        · exact .loop (ih _ _ _ _ _ hK h)
        · split at h
          · rename_i k' hk; exact .exit hk (ih _ _ _ _ _ hK h)
          · exact h.elim
        · exact .start (ih _ _ _ _ _ hK h)
        · rename_i D st live k
          split at h
          · rename_i m os vs fx _ _
            split at h
            · rename_i hc
              simp only [Bool.and_eq_true] at hc
              obtain ⟨l, ⟨h1, h2⟩, h3⟩ := dAll_ok h
              have hr := ih _ _ _ _ _ hK h2
              refine .pad m ?_
              have e0 : lowS σ ++ List.replicate m .res = lowS (stB fx (σ ++ List.replicate m .res) []) := by simp [stB, lowS, So.low]
              rw [e0]
              have e1 := eqNs_eq hc.1
              have e2 := eqNs_eq hc.2
              have := Run.drawn (n := E.n) (Q := E.Q) _ _ (h3 h1) (live := live) (k := k) (by rw [e2]; exact hr)
              have e3 : stB fx (σ ++ List.replicate m .res) (st.getD 0 []) = stB fx (σ ++ List.replicate m .res) [] := by
                congr 1
                cases st with
                | nil => rfl
                | cons a r => exact e1
              rw [e3] at this
              exact this
            · exact h.elim
          · exact h.elim
        · exact .blk (ih _ _ _ _ _ hK h)
        · exact .again (ih _ _ _ _ _ hK h)
        · exact .fin (ih _ _ _ _ _ hK h)
        · rename_i o l live k _ _
          obtain ⟨ors', e', hr, h'⟩ := guardO_sound h
          refine hr ?_
          rcases h' with ⟨hw, h'⟩ | ⟨hw, h'⟩
          · split at h'
            · rename_i g args ho
              split at h'
              · obtain ⟨v, σ', hok, h1⟩ := callO_sound h'
                exact .call hw ho hok (ih _ _ _ _ _ hK h1)
              · exact h'.elim
            · rename_i fx args ho
              split at h'
              · rename_i g cap hf
                split at h'
                · obtain ⟨v, σ', hok, h1⟩ := callO_sound h'
                  exact .callv hw ho hf hok (ih _ _ _ _ _ hK h1)
                · exact h'.elim
              · exact h'.elim
            · split at h'
              · obtain ⟨o', v, σ', hs, h1⟩ := evX_sound h'
                exact .opx hw hs (ih _ _ _ _ _ hK h1)
              · obtain ⟨o', v, σ', hs, h1⟩ := evI_sound h'
                exact .op hw hs (ih _ _ _ _ _ hK h1)
          · exact .no hw (ih _ _ _ _ _ hK h')
    · exact h.elim

/-- A path, told by what it asks. -/
theorem path {P : Program} {E : End} {k : Ko} {e : Env} {σ : Sto} {A : Prop} (f : Nat) (ors : List Ora) (h : A) (he : evP P E f ors k e σ (fun k e σ => Run P E.n E.Q k e (lowS σ)) = A) : Run P E.n E.Q k e (lowS σ) :=
  evP_sound f ors k e σ _ (fun _ _ _ h => h) (he ▸ h)

/-- Where code goes on. -/
def koOf : Sx → Ko → List Nat → Ko
  | s, k, [] => .st s k
  | .seq a b, k, 0 :: p => koOf a (.st b k) p
  | .seq a b, k, _ :: p => koOf b k p
  | .cond _ a b, k, 0 :: p => koOf a k p
  | .cond _ a b, k, _ :: p => koOf b k p
  | .block id b, k, _ :: p => koOf b (.blk id k) p
  | .loop b, k, _ :: p => koOf b (.loop b k) p
  | s, k, _ => .st s k
def koLoop (b : Sx) (p : List Nat) : Ko := match koOf b .done p with
  | .st (.loop b) k => .loop b k
  | k => k
def koPop (b : Sx) (p : List Nat) (id : Nat) : Ko := match (koLoop b p).pop id with
  | some k => k
  | Option.none => .done
/-- A contract, told with pure rows. -/
def OkS (P : Program) (f : FuncId) (args : List Vv) (σ : Sto) (res : Vv) (σ' : Sto) : Prop := Ok P f args (lowS σ) res (lowS σ')
theorem okS_of_run {P : Program} {d : FnDef} {fn : Func} {f : Nat} {args : List Vv} {σ σ' : Sto} {res : Vv} (hf : P.funcs[f]? = some fn) (hm : mFn P d fn = true)
    (h : Run P σ.length (Ends σ.length d.res res (lowS σ')) (.st d.body .done) (argE 0 args) (lowS σ)) : OkS P f args σ res σ' := by
  refine ok_of_run hf hm ?_
  rw [lowS_length]; exact h
end Go.Proofs.Dl

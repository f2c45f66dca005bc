/- A logic of plain data over the model, proved sound: part Q; conditions stand in each theorem. -/
import Derived.Test.YtajaolmagnldaaaDlO
set_option linter.unusedVariables false
/-! Closed calls are run. -/
namespace Go.Proofs.Dl

/-! ## alike -/
mutual
def Pd.eqb : Pd → Pd → Bool
  | .bool a, .bool b => a == b
  | .int k a, .int k' b => decide (k = k') && a == b
  | .str a, .str b => a == b
  | .sl s a, .sl s' b => s == s' && Pd.eqbLL a b
  | _, _ => false
def Pd.eqbL : List Pd → List Pd → Bool
  | [], [] => true
  | a :: r, b :: s => a.eqb b && Pd.eqbL r s
  | _, _ => false
def Pd.eqbLL : List (List Pd) → List (List Pd) → Bool
  | [], [] => true
  | a :: r, b :: s => Pd.eqbL a b && Pd.eqbLL r s
  | _, _ => false
end
mutual
theorem Pd.eqb_eq : ∀ {a b : Pd}, a.eqb b = true → a = b
  | .bool a, .bool b, h => by simp only [Pd.eqb, beq_iff_eq] at h; rw [h]
  | .int k a, .int k' b, h => by simp only [Pd.eqb, Bool.and_eq_true, decide_eq_true_eq, beq_iff_eq] at h; rw [h.1, h.2]
  | .str a, .str b, h => by simp only [Pd.eqb, beq_iff_eq] at h; rw [h]
  | .sl s a, .sl s' b, h => by simp only [Pd.eqb, Bool.and_eq_true, beq_iff_eq] at h; rw [h.1, Pd.eqbLL_eq h.2]
  | .bool _, .int _ _, h | .bool _, .str _, h | .bool _, .sl _ _, h | .int _ _, .bool _, h | .int _ _, .str _, h | .int _ _, .sl _ _, h | .str _, .bool _, h | .str _, .int _ _, h | .str _, .sl _ _, h | .sl _ _, .bool _, h | .sl _ _, .int _ _, h | .sl _ _, .str _, h => by simp [Pd.eqb] at h
theorem Pd.eqbL_eq : ∀ {a b : List Pd}, Pd.eqbL a b = true → a = b
  | [], [], _ => rfl
  | a :: r, b :: s, h => by simp only [Pd.eqbL, Bool.and_eq_true] at h; rw [Pd.eqb_eq h.1, Pd.eqbL_eq h.2]
  | [], _ :: _, h | _ :: _, [], h => by simp [Pd.eqbL] at h
theorem Pd.eqbLL_eq : ∀ {a b : List (List Pd)}, Pd.eqbLL a b = true → a = b
  | [], [], _ => rfl
  | a :: r, b :: s, h => by simp only [Pd.eqbLL, Bool.and_eq_true] at h; rw [Pd.eqbL_eq h.1, Pd.eqbLL_eq h.2]
  | [], _ :: _, h | _ :: _, [], h => by simp [Pd.eqbLL] at h
end
mutual
def Dd.eqb : Dd → Dd → Bool
  | .top, .top | .null, .null | .nullm, .nullm | .nullf, .nullf => true
  | .p a, .p b => a.eqb b
  | .nil a, .nil b => a == b
  | .ptr a b, .ptr a' b' => a == a' && b == b'
  | .cptr a, .cptr b => Pd.eqbL a b
  | .eptr a b c d, .eptr a' b' c' d' => a == a' && b == b' && c == c' && d == d'
  | .own a b c d, .own a' b' c' d' => a == a' && b == b' && c == c' && d == d'
  | .cown a b c d, .cown a' b' c' d' => a == a' && b == b' && c == c' && d == d'
  | .mp a, .mp b => a == b
  | .fn f a, .fn g b => f == g && Dd.eqbL a b
  | _, _ => false
def Dd.eqbL : List Dd → List Dd → Bool
  | [], [] => true
  | a :: r, b :: s => a.eqb b && Dd.eqbL r s
  | _, _ => false
end
mutual
theorem Dd.eqb_eq {a b : Dd} (h : a.eqb b = true) : a = b := by
  cases a <;> cases b <;> simp only [Dd.eqb, Bool.and_eq_true, beq_iff_eq, Bool.false_eq_true] at h <;> first
    | rfl
    | exact h.elim
    | (rename_i x y; rw [Pd.eqb_eq h])
    | (rw [h])
    | (rw [h.1, h.2])
    | (rw [Pd.eqbL_eq h])
    | (rw [h.1.1.1, h.1.1.2, h.1.2, h.2])
    | (rw [h.1, Dd.eqbL_eq h.2])
theorem Dd.eqbL_eq : ∀ {a b : List Dd}, Dd.eqbL a b = true → a = b
  | [], [], _ => rfl
  | a :: r, b :: s, h => by simp only [Dd.eqbL, Bool.and_eq_true] at h; rw [Dd.eqb_eq h.1, Dd.eqbL_eq h.2]
  | [], _ :: _, h | _ :: _, [], h => by simp [Dd.eqbL] at h
end
def eqbList {α : Type} (f : α → α → Bool) : List α → List α → Bool
  | [], [] => true
  | a :: r, b :: s => f a b && eqbList f r s
  | _, _ => false
theorem eqbList_eq {α : Type} {f : α → α → Bool} (hf : ∀ {a b : α}, f a b = true → a = b) : ∀ {l m : List α}, eqbList f l m = true → l = m
  | [], [], _ => rfl
  | a :: r, b :: s, h => by simp only [eqbList, Bool.and_eq_true] at h; rw [hf h.1, eqbList_eq hf h.2]
  | [], _ :: _, h | _ :: _, [], h => by simp [eqbList] at h
mutual
def Vv.eqb : Vv → Vv → Bool
  | .top, .top => true
  | .one a, .one b => a.eqb b
  | .agg a, .agg b => Dd.eqbL a b
  | .tup a, .tup b => Vv.eqbL a b
  | _, _ => false
def Vv.eqbL : List Vv → List Vv → Bool
  | [], [] => true
  | a :: r, b :: s => a.eqb b && Vv.eqbL r s
  | _, _ => false
end
mutual
theorem Vv.eqb_eq : ∀ {a b : Vv}, a.eqb b = true → a = b
  | .top, .top, _ => rfl
  | .one a, .one b, h => by simp only [Vv.eqb] at h; rw [Dd.eqb_eq h]
  | .agg a, .agg b, h => by simp only [Vv.eqb] at h; rw [Dd.eqbL_eq h]
  | .tup a, .tup b, h => by simp only [Vv.eqb] at h; rw [Vv.eqbL_eq h]
  | .top, .one _, h | .top, .agg _, h | .top, .tup _, h | .one _, .top, h | .one _, .agg _, h | .one _, .tup _, h | .agg _, .top, h | .agg _, .one _, h | .agg _, .tup _, h | .tup _, .top, h | .tup _, .one _, h | .tup _, .agg _, h => by simp [Vv.eqb] at h
theorem Vv.eqbL_eq : ∀ {a b : List Vv}, Vv.eqbL a b = true → a = b
  | [], [], _ => rfl
  | a :: r, b :: s, h => by simp only [Vv.eqbL, Bool.and_eq_true] at h; rw [Vv.eqb_eq h.1, Vv.eqbL_eq h.2]
  | [], _ :: _, h | _ :: _, [], h => by simp [Vv.eqbL] at h
end
def Ob.eqb : Ob → Ob → Bool
  | .none, .none => true
  | .res, .res => true
  | .box a, .box b => Dd.eqbL a b
  | .row e s k a, .row e' s' k' b => e == e' && s == s' && k == k' && eqbList Dd.eqbL a b
  | .fro s a, .fro s' b => s == s' && Pd.eqbLL a b
  | .map a, .map b => eqbList (fun x y : Pd × List Pd => x.1.eqb y.1 && Pd.eqbL x.2 y.2) a b
  | _, _ => false
theorem Ob.eqb_eq {a b : Ob} (h : a.eqb b = true) : a = b := by
  cases a <;> cases b <;> simp only [Ob.eqb, Bool.and_eq_true, beq_iff_eq, Bool.false_eq_true] at h
  · rfl
  · rfl
  · rw [Dd.eqbL_eq h]
  · rw [h.1.1.1, h.1.1.2, h.1.2, eqbList_eq Dd.eqbL_eq h.2]
  · rw [h.1, Pd.eqbLL_eq h.2]
  · rw [eqbList_eq (f := fun x y : Pd × List Pd => x.1.eqb y.1 && Pd.eqbL x.2 y.2) (fun {a b} h => by
      simp only [Bool.and_eq_true] at h
      exact Prod.ext (Pd.eqb_eq h.1) (Pd.eqbL_eq h.2)) h]
def eqS (a b : Store) : Bool := eqbList Ob.eqb a b
theorem eqS_eq {a b : Store} (h : eqS a b = true) : a = b := eqbList_eq Ob.eqb_eq h

/-! ## the run -/
/-- Contracts made by hand, and code. -/
structure Cx (P : Program) where
  hand : Nat → List Vv → Store → Option (Vv × Store)
  code : Nat → Option FnDef

/-- One instruction, call or not, of a drawn region. -/
def sD (callF : Nat → List Vv → Store → Option (Vv × Store)) (x : Opx) (e : Env) (σ : Store) : Option (Vv × Store) := match wantE x.guard e with
  | some false => some (.tup [], σ)
  | some true => match x.op with
    | .call f args => callF f (args.map (ev e)) σ
    | op => match stepv op (ev e) σ with
      | some (v, σ', []) => some (v, σ')
      | _ => stepx op (ev e) σ
  | Option.none => Option.none
/-- Values and stages, in the order of the text. -/
def goD (callF : Nat → List Vv → Store → Option (Vv × Store)) (D : List Dop) (st : List (List Nat)) (e : Env) : Nat → List Dop → List Nat → List Vv → List Store → Store → Option (List Vv × List Store)
  | _, [], _, vs, bs, _ => some (vs, bs)
  | i, d :: r, T, vs, bs, σ => match sD callF d.x (envD (fun j => vs.getD j .top) i d.b D 0 e) σ with
    | some (v, σ') => if d.ea then goD callF D st e (i + 1) r (insS T i) (vs ++ [v]) (bs ++ [σ']) σ' else goD callF D st e (i + 1) r T (vs ++ [v]) bs σ'
    | Option.none => Option.none
def chkD (callF : Nat → List Vv → Store → Option (Vv × Store)) (D : List Dop) (st : List (List Nat)) (e : Env) (vs : List Vv) (bs : List Store) : Bool :=
  (List.range D.length).all fun i => (List.range st.length).all fun s => match D[i]?, st[s]? with
    | some d, some T => !enab D i d T || (match sD callF d.x (envD (fun j => vs.getD j .top) i d.b D 0 e) (bs.getD s []) with
      | some (v, σ') => v.eqb (vs.getD i .top) && eqS σ' (bs.getD (nextS st s T i d) [])
      | Option.none => false)
    | _, _ => false

def callOf {P : Program} (C : Cx P) (go : Ko → Env → Store → Option (Env × Store)) (f : Nat) (args : List Vv) (σ : Store) : Option (Vv × Store) := match C.hand f args σ with
  | some r => some r
  | Option.none => match C.code f with
    | some d => match go (.st d.body .done) (argE 0 args) σ with
      | some (e1, σ1) => match resV e1 σ1 d.res with
        | some vs => some (packV vs, σ1)
        | Option.none => Option.none
      | Option.none => Option.none
    | Option.none => Option.none
def stR (callF : Nat → List Vv → Store → Option (Vv × Store)) (go : Ko → Env → Store → Option (Env × Store)) (k : Ko) (e : Env) (σ : Store) : Option (Env × Store) := match k with
  | .done => some (e, σ)
  | .st .ret _ => some (e, σ)
  | .st .skip k => go k e σ
  | .st (.seq a b) k => go (.st a (.st b k)) e σ
  | .st (.cond c a b) k => match ev e c with
    | .one (.p (.bool q)) => go (.st (if q then a else b) k) e σ
    | _ => Option.none
  | .st (.block id b) k => go (.st b (.blk id k)) e σ
  | .st (.loop b) k => go (.loop b k) e σ
  | .st (.exit id) k => match k.pop id with
    | some k' => go k' e σ
    | Option.none => Option.none
  | .st (.ops l live) k => go (.ops l live k) e σ
  | .st (.drawn l st live) k => match goD callF l st e 0 l [] [] [σ] σ with
    | some (vs, bs) => if chkD callF l st e vs bs = true then go k (keepE live (envAll (fun j => vs.getD j .top) l 0 e)) (bs.getD (idxS st (eaAll l 0)) []) else Option.none
    | Option.none => Option.none
  | .blk _ k => go k e σ
  | .loop b k => go (.st b (.loop b k)) e σ
  | .ops [] live k => go k (keepE live e) σ
  | .ops (o :: r) live k => match wantE o.guard e with
    | some false => go (.ops r live k) (setE e o.dst (.tup [])) σ
    | some true => match o.op with
      | .call f args => match callF f (args.map (ev e)) σ with
        | some (v, σ') => go (.ops r live k) (setE e o.dst v) σ'
        | Option.none => Option.none
      | .callv fx args => match ev e fx with
        | .one (.fn f cap) => match callF f (args.map (ev e) ++ cap.map .one) σ with
          | some (v, σ') => go (.ops r live k) (setE e o.dst v) σ'
          | Option.none => Option.none
        | _ => Option.none
      | op => match stepv op (ev e) σ with
        | some (v, σ', []) => go (.ops r live k) (setE e o.dst v) σ'
        | _ => match stepx op (ev e) σ with
          | some (v, σ') => go (.ops r live k) (setE e o.dst v) σ'
          | Option.none => Option.none
    | Option.none => Option.none
def evR {P : Program} (C : Cx P) : Nat → Ko → Env → Store → Option (Env × Store)
  | 0, _, _, _ => Option.none
  | n + 1, k, e, σ => stR (callOf C (evR C n)) (evR C n) k e σ
def evF {P : Program} (C : Cx P) (n : Nat) (f : Nat) (args : List Vv) (σ : Store) : Option (Vv × Store) := callOf C (evR C n) f args σ

theorem Run.mono {P : Program} {n : Nat} {Q Q' : Env → Store → Prop} (hQ : ∀ e σ, Q e σ → Q' e σ) {k : Ko} {e : Env} {σ : Store} (h : Run P n Q k e σ) : Run P n Q' k e σ := by
  induction h with
  | done h => exact .done (hQ _ _ h)
  | ret h => exact .ret (hQ _ _ h)
  | skip _ ih => exact .skip ih
  | seq _ ih => exact .seq ih
  | cond q h _ ih => exact .cond q h ih
  | block _ ih => exact .block ih
  | blk _ ih => exact .blk ih
  | loop _ ih => exact .loop ih
  | again _ ih => exact .again ih
  | exit h _ ih => exact .exit h ih
  | start _ ih => exact .start ih
  | fin _ ih => exact .fin ih
  | no h _ ih => exact .no h ih
  | op h h' _ ih => exact .op h h' ih
  | opx h h' _ ih => exact .opx h h' ih
  | call h h' h'' _ ih => exact .call h h' h'' ih
  | callv h h' h'' h3 _ ih => exact .callv h h' h'' h3 ih
  | eqnil h h' h'' _ ih => exact .eqnil h h' h'' ih
  | pad m _ ih => exact .pad m ih
  | drawn V B h _ ih => exact .drawn V B h ih
  | keep ks _ ih => exact .keep ks ih
  | gc sel h h' h'' _ ih => exact .gc sel h h' h'' ih
  | mkown t ty sz h h' _ ih => exact .mkown t ty sz h h' ih
  | weak h _ ih => exact .weak h ih
  | mkcell l i ty sz cs h h' h'' _ ih => exact .mkcell l i ty sz cs h h' h'' ih

structure Cx.Good {P : Program} (C : Cx P) : Prop where
  hand : ∀ (f : Nat) (args : List Vv) (σ : Store) (r : Vv) (σ' : Store), C.hand f args σ = some (r, σ') → Ok P f args σ r σ'
  code : ∀ (f : Nat) (d : FnDef), C.code f = some d → ∃ fn, P.funcs[f]? = some fn ∧ mFn P d fn = true

theorem sD_sound {P : Program} {callF : Nat → List Vv → Store → Option (Vv × Store)} (hc : ∀ f args σ v σ', callF f args σ = some (v, σ') → Ok P f args σ v σ') {x : Opx} {e : Env} {σ σ' : Store} {v : Vv} (h : sD callF x e σ = some (v, σ')) : DStep P x e σ v σ' := by
  unfold sD at h
  split at h
  · rename_i hw; cases h; exact .no hw
  · rename_i hw
    split at h
    · rename_i f args he; exact .call hw he (hc _ _ _ _ _ h)
    · split at h
      · rename_i v0 σ0 hs; cases h; exact .op hw hs
      · exact .opx hw h
  · cases h
theorem chkD_sound {P : Program} {callF : Nat → List Vv → Store → Option (Vv × Store)} (hc : ∀ f args σ v σ', callF f args σ = some (v, σ') → Ok P f args σ v σ') {D : List Dop} {st : List (List Nat)} {e : Env} {vs : List Vv} {bs : List Store} (h : chkD callF D st e vs bs = true) :
    DOk P D st e (fun j => vs.getD j .top) (fun s => bs.getD s []) := by
  intro i d s T hd hs hen
  unfold chkD at h
  rw [List.all_eq_true] at h
  have := h i (List.mem_range.2 (List.getElem?_eq_some_iff.1 hd).1)
  rw [List.all_eq_true] at this
  have := this s (List.mem_range.2 (List.getElem?_eq_some_iff.1 hs).1)
  rw [hd, hs] at this
  simp only [hen, Bool.not_true, Bool.false_or] at this
  split at this
  · rename_i v σ' hsd
    simp only [Bool.and_eq_true] at this
    have k := sD_sound hc hsd
    rw [Vv.eqb_eq this.1, eqS_eq this.2] at k
    exact k
  · cases this
theorem goD_head {callF : Nat → List Vv → Store → Option (Vv × Store)} {D : List Dop} {st : List (List Nat)} {e : Env} : ∀ (l : List Dop) (i : Nat) (T : List Nat) (vs : List Vv) (bs : List Store) (σ : Store) {vs' : List Vv} {bs' : List Store}, goD callF D st e i l T vs bs σ = some (vs', bs') → ∃ r, bs' = bs ++ r
  | [], _, _, vs, bs, _, vs', bs', h => by simp only [goD, Option.some.injEq, Prod.mk.injEq] at h; exact ⟨[], by simp [h.2]⟩
  | d :: r, i, T, vs, bs, σ, vs', bs', h => by
    simp only [goD] at h
    split at h
    · split at h
      · obtain ⟨r', h'⟩ := goD_head r _ _ _ _ _ h; exact ⟨_ , by rw [h', List.append_assoc]⟩
      · exact goD_head r _ _ _ _ _ h
    · cases h

theorem callOf_sound {P : Program} {C : Cx P} (hC : C.Good) {go : Ko → Env → Store → Option (Env × Store)} (ih : ∀ (m : Nat) (k : Ko) (e : Env) (σ : Store) (e' : Env) (σ' : Store), go k e σ = some (e', σ') → Run P m (fun e2 σ2 => e2 = e' ∧ σ2 = σ') k e σ)
    (f : Nat) (args : List Vv) (σ : Store) (v : Vv) (σ' : Store) (h : callOf C go f args σ = some (v, σ')) : Ok P f args σ v σ' := by
  unfold callOf at h
  split at h
  · rename_i r hr; cases h; exact hC.hand _ _ _ _ _ hr
  · split at h
    · rename_i d hd
      split at h
      · rename_i e1 σ1 he
        split at h
        · rename_i vs hv
          cases h
          obtain ⟨fn, hf, hm⟩ := hC.code f d hd
          refine ok_of_run hf hm (Run.mono (fun e2 σ2 hq => ?_) (ih σ.length _ _ _ _ _ he))
          obtain ⟨rfl, rfl⟩ := hq
          exact ⟨vs, vs, σ2, hv, .inl rfl, .inl ⟨rfl, rfl⟩⟩
        · cases h
      · cases h
    · cases h
theorem evR_sound {P : Program} {C : Cx P} (hC : C.Good) : ∀ (n : Nat) (m : Nat) (k : Ko) (e : Env) (σ : Store) (e' : Env) (σ' : Store), evR C n k e σ = some (e', σ') → Run P m (fun e2 σ2 => e2 = e' ∧ σ2 = σ') k e σ := by
  intro n
  induction n with
  | zero => intro m k e σ e' σ' h; simp [evR] at h
  | succ n ih =>
    intro m k e σ e' σ' h
    have hc := callOf_sound hC ih
    simp only [evR] at h
    revert hc h
    generalize callOf C (evR C n) = callF
    intro h hc
    unfold stR at h
    split at h
    · cases h; exact .done ⟨rfl, rfl⟩
    · cases h; exact .ret ⟨rfl, rfl⟩
    · exact .skip (ih _ _ _ _ _ _ h)
    · exact .seq (ih _ _ _ _ _ _ h)
    · split at h
      · rename_i q hq; exact .cond q hq (ih _ _ _ _ _ _ h)
      · cases h
    · exact .block (ih _ _ _ _ _ _ h)
    · exact .loop (ih _ _ _ _ _ _ h)
    · split at h
      · rename_i k' hk; exact .exit hk (ih _ _ _ _ _ _ h)
      · cases h
    · exact .start (ih _ _ _ _ _ _ h)
    · split at h
      · rename_i vs bs hg
        split at h
        · rename_i hk
          obtain ⟨r, hb⟩ := goD_head _ _ _ _ _ _ hg
          have h0 : bs.getD 0 [] = σ := by rw [hb]; rfl
          have := Run.drawn (n := m) (Q := fun e2 σ2 => e2 = e' ∧ σ2 = σ') _ _ (chkD_sound hc hk) (ih m _ _ _ _ _ h)
          rw [h0] at this
          exact this
        · cases h
      · cases h
    · exact .blk (ih _ _ _ _ _ _ h)
    · exact .again (ih _ _ _ _ _ _ h)
    · exact .fin (ih _ _ _ _ _ _ h)
    · split at h
      · rename_i hw; exact .no hw (ih _ _ _ _ _ _ h)
      · rename_i hw
        split at h
        · rename_i f args he
          split at h
          · rename_i v σ1 hv; exact .call hw he (hc _ _ _ _ _ hv) (ih _ _ _ _ _ _ h)
          · cases h
        · rename_i fx args he
          split at h
          · rename_i f cap hf
            split at h
            · rename_i v σ1 hv; exact .callv hw he hf (hc _ _ _ _ _ hv) (ih _ _ _ _ _ _ h)
            · cases h
          · cases h
        · split at h
          · rename_i v σ1 hv; exact .op hw hv (ih _ _ _ _ _ _ h)
          · split at h
            · rename_i v σ1 hv; exact .opx hw hv (ih _ _ _ _ _ _ h)
            · cases h
      · cases h
theorem evF_sound {P : Program} {C : Cx P} (hC : C.Good) {n f : Nat} {args : List Vv} {σ σ' : Store} {v : Vv} (h : evF C n f args σ = some (v, σ')) : Ok P f args σ v σ' :=
  callOf_sound hC (evR_sound hC n) _ _ _ _ _ h
end Go.Proofs.Dl

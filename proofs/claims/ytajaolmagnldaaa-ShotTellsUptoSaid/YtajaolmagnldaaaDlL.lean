/- A logic of plain data over the model, proved sound: part L; conditions stand in each theorem. -/
import Derived.Test.YtajaolmagnldaaaDlK3
set_option linter.unusedVariables false
namespace Go.Proofs.Dl
variable {F : Nat → Prop}

/-! ## the machine's steps -/
section
variable {P : Program} {b : Frame} {a : Act} {k : List Item} {cs : List Frame} {w w' : World} {ops : Array Oper} {i : Nat} {rest : List Nat} {o : Oper}

theorem step_val {d : Option Nat} (hdd : d = o.dst) (ho : ops[i]? = some o) (hw : Region.wanted o (yielded ops a.tmps) = true) {v : Value} (hr : (execOp a.eval o).run P w = .ok (.value v) w') :
    step P (lone (b.at a (.inRegion ops (i :: rest) :: k)) cs w) = .next (lone (b.at (a.put d v) (.inRegion ops rest :: k)) cs w') := by
  subst hdd
  have hg := stepG_op (P := P) (b := b) (k := k) (cs := cs) (w := w) (rest := rest) ho hw
  have hfin : (b.at a (.inRegion ops (i :: rest) :: k)).finish v = b.at (a.put o.dst v) (.inRegion ops rest :: k) := by rw [Frame.finish_at, ho]; rfl
  exact step_lone_go (by rw [hg, ← hfin]; simp [stepG.apply, hr])
theorem step_skp {d : Option Nat} (hdd : d = o.dst) (ho : ops[i]? = some o) (hw : Region.wanted o (yielded ops a.tmps) = true) (hr : (execOp a.eval o).run P w = .ok .skip w') :
    step P (lone (b.at a (.inRegion ops (i :: rest) :: k)) cs w) = .next (lone (b.at (a.put d undef) (.inRegion ops rest :: k)) cs w') := by
  subst hdd
  have hg := stepG_op (P := P) (b := b) (k := k) (cs := cs) (w := w) (rest := rest) ho hw
  have hfin : (b.at a (.inRegion ops (i :: rest) :: k)).finish undef = b.at (a.put o.dst undef) (.inRegion ops rest :: k) := by rw [Frame.finish_at, ho]; rfl
  exact step_lone_go (by rw [hg, ← hfin]; simp [stepG.apply, hr])
theorem step_ent {d : Option Nat} (hdd : d = o.dst) (ho : ops[i]? = some o) (hw : Region.wanted o (yielded ops a.tmps) = true) {f : FuncId} {args : Array Value} (hr : (execOp a.eval o).run P w = .ok (.enter f args) w') {R : Value → World → Prop}
    (hc : Calls P f args w' fun e w'' => ∃ v, e = .returned v ∧ R v w'') :
    ∃ v w'', R v w'' ∧ Steps P (lone (b.at a (.inRegion ops (i :: rest) :: k)) cs w) (lone (b.at (a.put d v) (.inRegion ops rest :: k)) cs w'') := by
  subst hdd
  have hg := stepG_op (P := P) (b := b) (k := k) (cs := cs) (w := w) (rest := rest) ho hw
  obtain ⟨e, w'', fr, ⟨v, rfl, hR⟩, hsteps, _, hleave⟩ := hc (b.at a (.inRegion ops (i :: rest) :: k) :: cs)
  have hfin : (b.at a (.inRegion ops (i :: rest) :: k)).finish v = b.at (a.put o.dst v) (.inRegion ops rest :: k) := by rw [Frame.finish_at, ho]; rfl
  have henter : step P (lone (b.at a (.inRegion ops (i :: rest) :: k)) cs w) = .next (lone (Frame.enter P f args .normal) (b.at a (.inRegion ops (i :: rest) :: k) :: cs) w') :=
    step_lone_go (by rw [hg]; simp [stepG.apply, hr, Frame.at])
  refine ⟨v, w'', hR, .head henter (hsteps.trans (.one ?_))⟩
  rw [← hfin]; exact step_leave_returned hleave
theorem step_not {d : Option Nat} (hdd : d = o.dst) (ho : ops[i]? = some o) (hw : Region.wanted o (yielded ops a.tmps) = false) :
    step P (lone (b.at a (.inRegion ops (i :: rest) :: k)) cs w) = .next (lone (b.at (a.put d undef) (.inRegion ops rest :: k)) cs w) := by
  subst hdd
  have hs := step_op_skip (P := P) (b := b) (a := a) (k := k) (cs := cs) (w := w) (ops := ops) (i := i) (rest := rest) (by simp [ho]; simpa using hw)
  simpa [ho] using hs
end

/-! ## code and what is to be done -/
inductive MI (P : Program) (N : Nat) (ops : Array Oper) : List Opx → List Nat → Prop
  | nil : MI P N ops [] []
  | cons {x : Opx} {r : List Opx} {i : Nat} {is : List Nat} {o : Oper} (ho : ops[i]? = some o) (hm : mOp P N ops x o = true) (h : MI P N ops r is) : MI P N ops (x :: r) (i :: is)
inductive MK (P : Program) (N : Nat) : Ko → List Item → Prop
  | done : MK P N .done []
  | ops {l : List Opx} {live : List Nat} {k : Ko} {os : Array Oper} {is : List Nat} {t : List Item} (hm : MI P N os l is) (h : MK P N k t) : MK P N (.ops l live k) (.inRegion os is :: t)
  | st {s : Sx} {c : Code} {k : Ko} {t : List Item} (hm : mS P N s c = true) (h : MK P N k t) : MK P N (.st s k) (.code c :: t)
  | blk {id : Nat} {k : Ko} {t : List Item} (h : MK P N k t) : MK P N (.blk id k) (.inBlock id :: t)
  | loop {s : Sx} {c : Code} {k : Ko} {t : List Item} (hm : mS P N s c = true) (h : MK P N k t) : MK P N (.loop s k) (.inLoop c :: t)

theorem MI.of_list {P : Program} {N : Nat} {ops : Array Oper} : ∀ (l : List Opx) (os : List Oper) (j : Nat), mOps P N ops l os = true → (∀ i, os[i]? = ops[j + i]?) → ops.size = j + os.length → MI P N ops l (List.range' j os.length)
  | [], [], j, _, _, _ => .nil
  | [], _ :: _, j, h, _, _ => by simp [mOps] at h
  | _ :: _, [], j, h, _, _ => by simp [mOps] at h
  | x :: r, o :: s, j, h, hi, hs => by
    simp only [mOps, Bool.and_eq_true] at h
    have h0 := hi 0
    simp only [List.getElem?_cons_zero, Nat.add_zero] at h0
    refine .cons h0.symm h.1 (MI.of_list r s (j + 1) h.2 (fun i => ?_) (by simp at hs; omega))
    have := hi (i + 1)
    simp only [List.getElem?_cons_succ] at this
    rw [this]; congr 1; omega
theorem MI.start {P : Program} {N : Nat} {ops : Array Oper} {l : List Opx} (h : mOps P N ops l ops.toList = true) : MI P N ops l (List.range ops.size) := by
  have := MI.of_list l ops.toList 0 h (fun i => by simp) (by simp)
  rw [List.range_eq_range']
  simpa using this

theorem MK.pop {P : Program} {N : Nat} {id : Nat} : ∀ {k : Ko} {t : List Item}, MK P N k t → ∀ {k' : Ko}, k.pop id = some k' → ∃ t', exitTo id t = some t' ∧ MK P N k' t'
  | _, _, .done, k', h => by simp [Ko.pop] at h
  | _, _, .ops _ hk, k', h => by simp only [Ko.pop] at h; obtain ⟨t', e, m⟩ := hk.pop h; exact ⟨t', by simpa [exitTo] using e, m⟩
  | _, _, .st _ hk, k', h => by simp only [Ko.pop] at h; obtain ⟨t', e, m⟩ := hk.pop h; exact ⟨t', by simpa [exitTo] using e, m⟩
  | _, _, .loop _ hk, k', h => by simp only [Ko.pop] at h; obtain ⟨t', e, m⟩ := hk.pop h; exact ⟨t', by simpa [exitTo] using e, m⟩
  | _, _, .blk (id := i) hk, k', h => by
    simp only [Ko.pop] at h
    split at h
    · rename_i e; cases h; exact ⟨_, by simp [exitTo, e], hk⟩
    · rename_i e
      obtain ⟨t', e', m⟩ := hk.pop h
      have : (i == id) = false := by simpa using e
      exact ⟨t', by simpa [exitTo, this] using e', m⟩

theorem steps_from {P : Program} {m m1 m' : Machine} (h : Steps P m m') (hne : m ≠ m') (hs : step P m = .next m1) : Steps P m1 m' := by
  obtain ⟨n, hn⟩ := h
  cases n with
  | zero => simp [runN] at hn; exact absurd hn hne
  | succ n => simp only [runN, hs] at hn; exact ⟨n, hn⟩

theorem want_spec {φ : List G} {ok : Nat → Prop} {w : World} {e : Env} {a : Act} (E : ER φ ok w e a.tmps) {ops : Array Oper} {x : Opx} {o : Oper} (hg : mG ops x.guard o.guard = true) {q : Bool} (hq : wantE x.guard e = some q) :
    Region.wanted o (yielded ops a.tmps) = q := by
  unfold wantE at hq
  unfold mG at hg
  split at hg
  · rename_i h1 h2
    rw [h1] at hq
    cases hq
    simp [Region.wanted, h2]
  · rename_i t b j b' h1 h2
    rw [h1] at hq
    simp only [Bool.and_eq_true, beq_iff_eq] at hg
    obtain ⟨rfl, hj⟩ := hg
    simp only at hq
    split at hq
    · rename_i q' hq'
      cases hq
      have hv := E t
      rw [hq'] at hv
      have hb := hv.bool
      have : a.tmps[t]? = some (.bool q') := by
        rw [Array.getD_eq_getD_getElem?] at hb
        cases hx : a.tmps[t]? with
        | none => rw [hx] at hb; simp [undef] at hb
        | some y => rw [hx] at hb; simpa using hb
      simp [Region.wanted, h2, yielded, hj, this]
    · rename_i hq'
      cases hq
      have hv := E t
      rw [hq'] at hv
      have hb : a.tmps.getD t undef = .tuple #[] := by
        generalize a.tmps.getD t undef = u at hv
        cases hv with | tup _ cs us hl hu hd =>
        have : cs = #[] := by simpa using hl
        rw [this]
      have hy : yielded ops a.tmps j = none := by
        rw [Array.getD_eq_getD_getElem?] at hb
        simp only [yielded, hj, Option.bind_some]
        cases hx : a.tmps[t]? with
        | none => rfl
        | some y => rw [hx] at hb; simp at hb; subst hb; rfl
      simp [Region.wanted, h2, hy]
    · cases hq
  · cases hg
theorem vr_undef {φ : List G} {ok : Nat → Prop} {w : World} : VR φ ok w (.tup []) undef := .tup [] #[] (fun _ => undef) rfl (fun i h => by simp at h) (fun i v h => by simp at h)

theorem exec_call {o : Oper} {f : FuncId} {as : Array Operand} {ats : Array TypeId} {a : Act} {P : Program} {w : World} {y : Operand} {cap : Array Value} (ho : o.op = .call { callee := .value y, args := as, argTypes := ats }) (hy : a.eval y = .func (.func f) #[] cap)
    (hg : goodFn P f = true) : (execOp a.eval o).run P w = .ok (.enter f (as.map a.eval ++ cap)) w := by
  unfold goodFn at hg
  split at hg
  · rename_i fn hf
    simp only [Bool.and_eq_true, bne_iff_ne] at hg
    have hn : (fn.name == "runtime.NumGoroutine") = false := by simpa using hg.1
    have hb : fn.body.isNone = false := by
      cases h : fn.body with
      | none => rw [h] at hg; cases hg.2
      | some c => rfl
    simp only [execOp, ho, resolve, hy, Deferred.ofValue, invoke, callFunc, Sem.run_bind, Sem.run_pure, Result.andThen_ok, run_program, hf, hn, hb, Bool.false_eq_true, if_false]
    simp
  · cases hg

theorem args_sound {φ : List G} {ok : Nat → Prop} {w : World} {e : Env} {a : Act} (E : ER φ ok w e a.tmps) : ∀ (xs : List Oo) (os : List Operand), mOs xs os = true → VRs φ ok w (xs.map (ev e)) (os.map a.eval)
  | [], [], _ => ⟨rfl, fun i x v h => by simp at h⟩
  | [], _ :: _, h => by simp [mOs] at h
  | _ :: _, [], h => by simp [mOs] at h
  | x :: r, o :: s, h => by
    simp only [mOs, Bool.and_eq_true] at h
    obtain ⟨h1, h2⟩ := args_sound E r s h.2
    refine ⟨by simpa using h1, fun i y v hy hv => ?_⟩
    cases i with
    | zero => simp at hy hv; subst hy hv; exact mO_sound E h.1
    | succ i => exact h2 i y v (by simpa using hy) (by simpa using hv)

/-- What a run comes to. -/
def Comes' (P : Program) (F : Nat → Prop) (φ0 : List G) (σ0 : Store) (w0 : World) (Q : Env → Store → Prop) (t : List Item) (a : Act) (w : World) : Prop :=
  ∀ (b : Frame) (cs : List Frame), ∃ a' w' t' e' σ' φ', Steps P (lone (b.at a t) cs w) (lone { b.at a' t' with mode := .returning } cs w') ∧ Q e' σ' ∧ a'.defers = [] ∧ ER φ' (Okb F φ' σ' w') w' e' a'.tmps ∧ Rel F φ' σ' w' ∧ Adv [] φ0 σ0 w0 φ' σ' w'

theorem Comes'.step {P : Program} {φ0 : List G} {σ0 : Store} {w0 w w1 : World} {Q : Env → Store → Prop} {t t1 : List Item} {a a1 : Act} (h : Comes' P F φ0 σ0 w0 Q t1 a1 w1) (hs : ∀ (b : Frame) (cs : List Frame), Steps P (lone (b.at a t) cs w) (lone (b.at a1 t1) cs w1)) : Comes' P F φ0 σ0 w0 Q t a w := by
  intro b cs
  obtain ⟨a', w', t', e', σ', φ', h1, rest⟩ := h b cs
  exact ⟨a', w', t', e', σ', φ', (hs b cs).trans h1, rest⟩

theorem put_size (a : Act) (d : Option Nat) (v : Value) : (a.put d v).tmps.size = a.tmps.size := by cases d <;> simp [Act.put]
theorem put_defers (a : Act) (d : Option Nat) (v : Value) : (a.put d v).defers = a.defers := by cases d <;> rfl

theorem VRs.append {φ : List G} {ok : Nat → Prop} {w : World} {xs ys : List Vv} {vs us : List Value} (h : VRs φ ok w xs vs) (k : VRs φ ok w ys us) : VRs φ ok w (xs ++ ys) (vs ++ us) := by
  refine ⟨by simp [h.1, k.1], fun i x v hx hv => ?_⟩
  rcases Nat.lt_or_ge i xs.length with hi | hi
  · rw [List.getElem?_append_left hi] at hx
    rw [List.getElem?_append_left (by rw [h.1]; exact hi)] at hv
    exact h.2 i x v hx hv
  · rw [List.getElem?_append_right hi] at hx
    rw [List.getElem?_append_right (by rw [h.1]; exact hi), h.1] at hv
    exact k.2 _ x v hx hv
theorem vr_fn {φ : List G} {ok : Nat → Prop} {w : World} {f : Nat} {cap : List Dd} {v : Value} (h : VR φ ok w (.one (.fn f cap)) v) :
    ∃ (cs : Array Value) (us : Nat → Value), v = .func (.func f) #[] cs ∧ cs.size = cap.length ∧ (∀ i, i < cap.length → cs[i]? = some (us i)) ∧ ∀ (i : Nat) (d : Dd), cap[i]? = some d → DR φ ok w d (us i) := by
  cases h with | one d v h => cases h with | fn f cap cs us hl hu hd => exact ⟨cs, us, rfl, hl, hu, hd⟩
theorem vr_nil {φ : List G} {ok : Nat → Prop} {w : World} {sz : Nat} {v : Value} (h : VR φ ok w (.one (.nil sz)) v) : ∃ a, v = .slice a 0 0 := by
  cases h with | one d v h => cases h with | nil sz a => exact ⟨a, rfl⟩
theorem mI_call {P : Program} {f : Nat} {args : List Oo} {op : Go.Op} (h : mI P (.call f args) op = true) : ∃ (as : Array Operand) (ats : Array TypeId) (g : FuncId), op = .call { callee := .value (.func g), args := as, argTypes := ats } ∧ f = g ∧ mOs args as.toList = true ∧ goodFn P f = true := by
  cases op with
  | call c =>
    obtain ⟨callee, as, ats⟩ := c
    cases callee with
    | value y => cases y with
      | func g => simp only [mI, Bool.and_eq_true, beq_iff_eq] at h; exact ⟨as, ats, g, rfl, h.1.1, h.1.2, h.2⟩
      | _ => simp [mI] at h
    | _ => simp [mI] at h
  | _ => simp [mI] at h
theorem mI_callv {P : Program} {x : Oo} {args : List Oo} {op : Go.Op} (h : mI P (.callv x args) op = true) : ∃ (as : Array Operand) (ats : Array TypeId) (y : Operand), op = .call { callee := .value y, args := as, argTypes := ats } ∧ mO x y = true ∧ mOs args as.toList = true := by
  cases op with
  | call c =>
    obtain ⟨callee, as, ats⟩ := c
    cases callee with
    | value y => simp only [mI, Bool.and_eq_true] at h; exact ⟨as, ats, y, rfl, h.1, h.2⟩
    | _ => simp [mI] at h
  | _ => simp [mI] at h
theorem mX_stepv {P : Program} {i : In} {op : Go.Op} {ρ : Oo → Vv} {σ : Store} (h : mX P i op = true) : stepv i ρ σ = none := by
  cases i <;> first | rfl | (simp [mX] at h)
theorem mX_eqnil {P : Program} {ne : Bool} {x : Oo} {op : Go.Op} (h : mX P (.eqnil ne x) op = true) : ∃ (t : TypeId) (y : Operand) (yt e : TypeId), op = .binOp (if ne then .neq else .eql) t y (.const (.slice none 0 0)) yt ∧ mO x y = true ∧ P.underlying t = some (.slice e) := by
  unfold mX at h
  split at h
  · rename_i he
    cases he
    simp only [Bool.and_eq_true, decide_eq_true_eq] at h
    obtain ⟨⟨rfl, h2⟩, h3⟩ := h
    obtain ⟨e, he⟩ := Option.isSome_iff_exists.1 h3
    exact ⟨_, _, _, e, rfl, h2, sliceOf_spec he⟩
  · exact absurd ‹In.eqnil ne x = In.copy _ _ _› (by simp)
  · exact absurd ‹In.eqnil ne x = In.clear _ _› (by simp)
  · exact absurd ‹In.eqnil ne x = In.xidx _ _› (by simp)
  · cases h
theorem CR.put1 {φ : List G} {ok : Nat → Prop} {w : World} {ds : List Dd} {cs : List Value} (h : CR φ ok w ds cs) (i : Nat) (d : Dd) (hd : ∀ v, cs[i]? = some v → DR φ ok w d v) : CR φ ok w (ds.set i d) cs := by
  refine ⟨by rw [List.length_set]; exact h.1, fun j x v hx hv => ?_⟩
  rw [List.getElem?_set] at hx
  split at hx
  · rename_i e; subst e
    split at hx
    · cases hx; exact hd v hv
    · cases hx
  · exact h.2 j x v hx hv
theorem Rel.cell {φ : List G} {σ : Store} {w : World} (R : Rel F φ σ w) {l i : Nat} {cs : List Dd} (hs : σ[l]? = some (.box cs)) (d : Dd) (g : G) (hg : φ[l]? = some g)
    (hd : ∀ v, (∀ d0, cs[i]? = some d0 → DR φ (Okb F φ σ w) w d0 v) → cs[i]?.isSome → DR φ (Okb F φ σ w) w d v) :
    Rel F φ (σ.set l (.box (cs.set i d))) w ∧ Adv [] φ σ w φ (σ.set l (.box (cs.set i d))) w := by
  have hset : φ.set l g = φ := by
    obtain ⟨h1, h2⟩ := List.getElem?_eq_some_iff.1 hg
    rw [← h2]; exact List.set_getElem_self h1
  have := R.upd (w' := w) [] l (.box cs) (.box (cs.set i d)) g g hs hg (.inr (.inl rfl)) (by simp) (Kept.refl _ _) (fun b hb => .inl hb) (fun M => ?_)
  · rw [hset, killS_nil] at this; exact this
  · rw [hset] at M ⊢
    simp only [obkill_nil]
    obtain ⟨c, e, h1, h2⟩ := R.obj l _ g hs hg
    refine ⟨c, e, h1, (h2.still M).put1 i d (fun v hv => ?_)⟩
    cases hc : cs[i]? with
    | none =>
      exfalso
      have h3 := (List.getElem?_eq_none_iff.1 hc)
      have h4 := (List.getElem?_eq_some_iff.1 hv).1
      have := h2.1; omega
    | some d0 => exact (hd v (fun d1 h => by rw [hc] at h; cases h; exact h2.2 i d0 v hc hv) (by simp [hc])).still M

theorem equalIn_sl {P : Program} {w : World} {d : Nat} {t e : TypeId} (hu : P.underlying t = some (.slice e)) (a : Option Addr) (n c : Nat) : (Op.equalIn (d + 1) t (.slice a n c) (.slice none 0 0)).run P w = .ok a.isNone w := by
  cases a <;> simp [Op.equalIn, run_underlying hu]
theorem slen_val {φ : List G} {ok : Nat → Prop} {w : World} {x : Vv} {v : Value} (h : VR φ ok w x v) {len : Int} (hl : slenV x = some len) : ∃ (a : Option Addr) (n c : Nat), v = .slice a n c ∧ len = n ∧ (a.isNone = true → len = 0) := by
  unfold slenV at hl
  split at hl
  · cases hl
    cases h with
    | one _ _ h => cases h with
      | p _ _ h => cases h with
        | sl sz xs a cap b o us n hn hc ha hs hm hp =>
          refine ⟨a, n, cap, rfl, by omega, fun h0 => ?_⟩
          by_cases hx : n = 0
          · omega
          · obtain ⟨k, _⟩ := ha (by intro e; rw [e] at hn; simp at hn; omega)
            rw [k] at h0; simp at h0
  · cases hl
    cases h with
    | one _ _ h => cases h with
      | nil sz a => exact ⟨a, 0, 0, rfl, rfl, fun _ => rfl⟩
  · cases hl
    cases h with
    | one _ _ h => cases h with
      | own l sz off n g a h hc ha =>
        refine ⟨a, _, _, rfl, rfl, fun h0 => ?_⟩
        exact Classical.byContradiction fun hne => by rw [ha (by omega)] at h0; simp at h0
  · cases hl
    cases h with
    | one _ _ h => cases h with
      | cown l sz off n g a h hc ha =>
        refine ⟨a, _, _, rfl, rfl, fun h0 => ?_⟩
        exact Classical.byContradiction fun hne => by rw [ha (by omega)] at h0; simp at h0
  · cases hl
theorem exec_eqnil {P : Program} {w : World} {a : Act} {o : Oper} {t e yt : TypeId} {y : Operand} {ne : Bool} (ho : o.op = .binOp (if ne then .neq else .eql) t y (.const (.slice none 0 0)) yt) (hu : P.underlying t = some (.slice e)) {ad : Option Addr} {n c : Nat} (hy : a.eval y = .slice ad n c) :
    (execOp a.eval o).run P w = .ok (.value (.bool (if ne then !ad.isNone else ad.isNone))) w := by
  have k : (binOp .eql t (.slice ad n c) (.slice none 0 0)).run P w = .ok (.bool ad.isNone) w ∧ (binOp .neq t (.slice ad n c) (.slice none 0 0)).run P w = .ok (.bool (!ad.isNone)) w := by
    constructor <;> simp only [binOp, Op.equal, Op.maxDepth, Sem.run_bind, show (10000 : Nat) = 9999 + 1 from rfl, equalIn_sl hu, Result.andThen_ok, Sem.run_pure]
  have he : a.eval (.const (.slice none 0 0)) = .slice none 0 0 := rfl
  have h : (execOp a.eval o).run P w = (do let r ← binRun (if ne then .neq else .eql) t y (.const (.slice none 0 0)) (a.eval y) (a.eval (.const (.slice none 0 0))); pure (Next.value r) : Sem Next).run P w := by simp only [execOp, ho]; rfl
  rw [h, hy, he]
  cases ne with
  | true =>
    have := run_guarded (P := P) (w := w) (op := .neq) (t := t) (x := y) (y := .const (.slice none 0 0)) (by simp) (by simp) k.2
    simp only [if_true, Sem.run_bind, this, Result.andThen_ok, Sem.run_pure]
  | false =>
    have := run_guarded (P := P) (w := w) (op := .eql) (t := t) (x := y) (y := .const (.slice none 0 0)) (by simp) (by simp) k.1
    simp only [Bool.false_eq_true, if_false, Sem.run_bind, this, Result.andThen_ok, Sem.run_pure]

theorem Rel.pushNil {φ : List G} {σ : Store} {w : World} (R : Rel F φ σ w) (ty sz : Nat) (hp : 0 < sz) :
    Rel F (φ ++ [⟨0, 0, true⟩]) (σ ++ [.row ty sz 0 []]) w ∧ Adv [] φ σ w (φ ++ [⟨0, 0, true⟩]) (σ ++ [.row ty sz 0 []]) w :=
  R.push _ _ (Kept.refl _ _) (fun b hb => absurd hb.1 (by simp)) (fun _ => ⟨hp, by simp, by simp, by simp [maxLen], fun h => absurd h (by simp)⟩)
theorem own_nil {φ : List G} {ok : Nat → Prop} {w : World} {sz : Nat} {a : Option Addr} {l : Nat} (h : At φ l ⟨0, 0, true⟩) : DR φ ok w (.own l sz 0 0) (.slice a 0 0) :=
  .own l sz 0 0 ⟨0, 0, true⟩ a h (by simp) (fun h => absurd h (by simp))

theorem enter_sound {P : Program} {Q : Env → Store → Prop} {φ0 : List G} {σ0 : Store} {w0 : World} {φ : List G} {σ σ' : Store} {w : World} {a : Act} {e : Env} {ops : Array Oper} {is : List Nat} {i : Nat} {t : List Item} {o : Oper} {d : Option Nat} {f : FuncId} {xs : List Vv} {vals : Array Value} {res : Vv} {N : Nat}
    (ho : ops[i]? = some o) (hw : Region.wanted o (yielded ops a.tmps) = true) (hr : (execOp a.eval o).run P w = .ok (.enter f vals) w) (hok : Ok P f xs σ res σ') (hv : VRs φ (Okb F φ σ w) w xs vals.toList) (hdst : d = o.dst) (hlt : ∀ t, d = some t → t < a.tmps.size)
    (E : ER φ (Okb F φ σ w) w e a.tmps) (R : Rel F φ σ w) (A : Adv [] φ0 σ0 w0 φ σ w) (hd : a.defers = []) (hN : N ≤ a.tmps.size)
    (ih : ∀ (φ : List G) (w : World) (a : Act), N ≤ a.tmps.size → a.defers = [] → ER φ (Okb F φ σ' w) w (setE e d res) a.tmps → Rel F φ σ' w → Adv [] φ0 σ0 w0 φ σ' w → Comes' P F φ0 σ0 w0 Q (.inRegion ops is :: t) a w) :
    Comes' P F φ0 σ0 w0 Q (.inRegion ops (i :: is) :: t) a w := by
  intro b cs
  have hc : Calls P f vals w fun ev w' => ∃ v, ev = .returned v ∧ ∃ φ', VR φ' (Okb F φ' σ' w') w' res v ∧ Rel F φ' σ' w' ∧ Adv [] φ σ w φ' σ' w' :=
    (hok.2 F φ w vals R hv).mono fun e w' ⟨v, φ', h1, h2⟩ => ⟨v, h1, φ', h2⟩
  obtain ⟨v, w', ⟨φ', h1, h2, h3⟩, hs⟩ := step_ent (b := b) (k := t) (cs := cs) (rest := is) hdst ho hw hr hc
  have E' := (E.still h3.mono).set (d := d) h1 hlt
  obtain ⟨a', w'', t', e', σ'', φ'', k1, rest⟩ := ih φ' w' (a.put d v) (by rw [put_size]; exact hN) (by rw [put_defers]; exact hd) E' h2 (A.then h3) b cs
  exact ⟨a', w'', t', e', σ'', φ'', hs.trans k1, rest⟩

theorem Rel.pad : ∀ (m : Nat) {φ : List G} {σ : Store} {w : World}, Rel F φ σ w → ∃ φ', Rel F φ' (σ ++ List.replicate m .res) w ∧ Adv [] φ σ w φ' (σ ++ List.replicate m .res) w
  | 0, φ, σ, w, R => ⟨φ, by simpa using R, by simpa using Adv.refl φ σ w⟩
  | m + 1, φ, σ, w, R => by
    obtain ⟨R1, A1⟩ := R.push (w' := w) .res ⟨0, 0, false⟩ (Kept.refl _ _) (fun b hb => hb.elim) (fun _ => rfl)
    obtain ⟨φ', R2, A2⟩ := Rel.pad m R1
    rw [List.append_assoc] at R2 A2
    exact ⟨φ', R2, A1.then A2⟩
theorem Kept.drew (own : Nat → Prop) (w : World) : Kept own w { w with drawn := w.drawn + 1 } := ⟨rfl, rfl, rfl, Nat.le_refl _, fun _ _ _ => rfl⟩
theorem Adv.drew (φ : List G) (σ : Store) (w : World) : Adv [] φ σ w φ σ { w with drawn := w.drawn + 1 } := ⟨Kept.drew _ _, fun b h => .inl h, fun l g h _ => h⟩
theorem Rel.drew {φ : List G} {σ : Store} {w : World} (R : Rel F φ σ w) : Rel F φ σ { w with drawn := w.drawn + 1 } := by
  have M := (Adv.drew φ σ w).mono (F := F)
  refine ⟨R.len, fun l o g h1 h2 => ?_, R.inj, R.dis, R.fb⟩
  have := (OR.kill M (g := g) (o := o) (fun ⟨b, hb⟩ => rfl) (R.obj l o g h1 h2))
  simpa using this

theorem stepx_sound {P : Program} {e : Env} {σ σ' : Store} {v : Vv} {φ : List G} {w : World} {a : Act} (R : Rel F φ σ w) (E : ER φ (Okb F φ σ w) w e a.tmps) {i : In} {o : Oper} (hm : mI P i o.op = true ∨ mX P i o.op = true) (h : stepx i (ev e) σ = some (v, σ')) :
    ∃ x w', (execOp a.eval o).run P w = .ok (.value x) w' ∧ VR φ (Okb F φ σ' w') w' v x ∧ Rel F φ σ' w' ∧ Adv [] φ σ w φ σ' w' := by
  unfold stepx at h
  split at h
  · rename_i sz d s
    rcases hm with hm | hm
    · cases hop : o.op <;> rw [hop] at hm <;> simp [mI] at hm
    unfold mX at hm
    split at hm
    · rename_i he _; cases he
    · rename_i args ats he hop
      cases he
      split at hm
      · rename_i y z t u ha ht
        simp only [Bool.and_eq_true] at hm
        obtain ⟨⟨m1, m2⟩, m3⟩ := hm
        split at m3
        · rename_i el hel
          have hs := eq_of_beq m3
          split at h
          · rename_i l sz' off len hd
            split at h
            · rename_i e1 sz2 kc xs ys hl hy
              split at h
              · rename_i hc
                obtain ⟨rfl, rfl, rfl, ho⟩ := hc
                cases h
                have vd := mO_sound E m1
                rw [hd] at vd
                obtain ⟨w', k1, k2, k3⟩ := copy_sound (P := P) (dT := t) (sT := u) (ty := o.type) R (sliceOf_spec hel) hs vd (mO_sound E m2) hl hy ho
                have e1 := two ha
                have e2 := two ht
                subst e1 e2
                refine ⟨_, w', ?_, .one _ _ (.p _ _ (.int _ _)), k2, k3⟩
                rw [exec_builtin hop]
                simp only [builtin, List.map_toArray, List.map_cons, List.map_nil]
                simp only [Sem.run_bind, k1, Result.andThen_ok, Sem.run_pure]
                rfl
              · cases h
            · cases h
          · cases h
        · cases m3
      · cases hm
    · rename_i he _; cases he
    · rename_i he _; cases he
    · cases hm
  · rename_i zs x
    rcases hm with hm | hm
    · cases hop : o.op <;> rw [hop] at hm <;> simp [mI] at hm
    unfold mX at hm
    split at hm
    · rename_i he _; cases he
    · rename_i he _; cases he
    · rename_i args ats he hop
      cases he
      split at hm
      · rename_i y t ha ht
        simp only [Bool.and_eq_true] at hm
        obtain ⟨m1, m3⟩ := hm
        split at m3
        · rename_i el hel
          simp only [Bool.and_eq_true] at m3
          obtain ⟨m3, m4⟩ := m3
          have hs := eq_of_beq m3
          split at m4
          · rename_i z hz
            split at h
            · rename_i l sz off len hd
              split at h
              · rename_i e1 sz2 kc xs hl
                split at h
                · rename_i hc
                  obtain ⟨rfl, rfl, ho⟩ := hc
                  cases h
                  have vd := mO_sound E m1
                  rw [hd] at vd
                  obtain ⟨w', k1, k2, k3⟩ := clear_sound (P := P) (t := t) (ty := o.type) R (sliceOf_spec hel) hs hz m4 vd hl rfl ho
                  have e1 := one ha
                  have e2 := one ht
                  subst e1 e2
                  refine ⟨_, w', ?_, .tup [] #[] (fun _ => undef) rfl (fun i h => by simp at h) (fun i v h => by simp at h), k2, k3⟩
                  rw [exec_builtin hop]
                  simp only [builtin, List.map_toArray, List.map_cons, List.map_nil]
                  simp only [Sem.run_bind, k1, Result.andThen_ok, Sem.run_pure]
                · cases h
              · cases h
            · cases h
          · cases m4
        · cases m3
      · cases hm
    · rename_i he _; cases he
    · cases hm
  · rename_i x c
    rcases hm with hm | hm
    · cases hop : o.op <;> rw [hop] at hm <;> simp [mI] at hm
    unfold mX at hm
    split at hm
    · rename_i he _; cases he
    · rename_i he _; cases he
    · rename_i he _; cases he
    · rename_i f args ats he hop
      cases he
      split at hm
      · rename_i y z ha
        simp only [Bool.and_eq_true] at hm
        obtain ⟨⟨m1, m2⟩, m3⟩ := hm
        split at m3
        · rename_i fn hf
          simp only [Bool.and_eq_true, beq_iff_eq] at m3
          obtain ⟨⟨b1, b2⟩, b3⟩ := m3
          split at h
          · rename_i s n hx hc
            cases h
            have v1 := mO_sound E m1
            rw [hx] at v1
            have v2 := mO_sound E m2
            rw [hc] at v2
            have e1 := two ha
            subst e1
            cases v1 with | one _ _ v1 => cases v1 with | p _ _ v1 => 
            cases v2 with | one _ _ v2 => cases v2 with | p _ _ v2 =>
            generalize h1 : a.eval y = u1 at v1
            generalize h2 : a.eval z = u2 at v2
            cases v1
            cases v2
            have hrun : (execOp a.eval o).run P w = .ok (.value (goInt (Go.Lib.indexByte s n.toNat.toUInt8))) w := by
              have hn : (fn.name == "runtime.NumGoroutine") = false := by rw [b2]; decide
              have hfn : Extern.findNext fn = none := by simpa using b3
              have hcf := run_callFunc_extern (w := w) hf hn b1 hfn (find_idx b2) #[.string ⟨s.toArray⟩, .int .u8 n]
              rw [Go.Lib.run_indexByteString] at hcf
              have hargs : (#[y, z] : Array Operand).map a.eval = #[.string ⟨s.toArray⟩, .int .u8 n] := by simp [h1, h2]
              have hfe : a.eval (.func f) = .func (.func f) #[] #[] := rfl
              simp only [execOp, hop, resolve, hfe, hargs, Deferred.ofValue, invoke, Sem.run_bind, Sem.run_pure, Result.andThen_ok, Array.append_empty]
              exact hcf
            exact ⟨_, w, hrun, .one _ _ (.p _ _ (.int _ _)), R, Adv.refl _ _ _⟩
          · cases h
        · cases m3
      · cases hm
    · cases hm
  · cases h

/-! ## drawn regions -/
theorem Rel.reslot {φ : List G} {σ : Store} {ob : Ob} {w : World} (R : Rel F φ (σ ++ [ob]) w) {slot : Nat} (hs : σ[slot]? = some .res) :
    ∃ φ', Rel F φ' ((σ.set slot ob).map (Ob.ren (toN σ.length slot))) w ∧
      (∀ (x : Vv) (v : Value), VR φ (Okb F φ (σ ++ [ob]) w) w x v → VR φ' (Okb F φ' ((σ.set slot ob).map (Ob.ren (toN σ.length slot))) w) w (x.ren (toN σ.length slot)) v) ∧
      (∀ (l : Nat) (g : G), l < σ.length → l ≠ slot → φ[l]? = some g → φ'[l]? = some g) ∧ (∀ b, Own φ' ((σ.set slot ob).map (Ob.ren (toN σ.length slot))) b → Own φ (σ ++ [ob]) b) := by
  have hlen : φ.length = σ.length + 1 := by have := R.len; simpa using this
  have hlt : slot < σ.length := (List.getElem?_eq_some_iff.1 hs).1
  have hgN : ∃ g, φ[σ.length]? = some g := ⟨_, List.getElem?_eq_getElem (by omega)⟩
  obtain ⟨g, hg⟩ := hgN
  have hgs : ∃ g0, φ[slot]? = some g0 := ⟨_, List.getElem?_eq_getElem (by omega)⟩
  obtain ⟨g0, hg0⟩ := hgs
  have hoff : g0.on = false := R.obj slot .res g0 (by rw [List.getElem?_append_left hlt]; exact hs) hg0
  let φ' := (φ.take σ.length).set slot g
  have hlen' : φ'.length = σ.length := by simp [φ', hlen]
  have at_slot : φ'[slot]? = some g := by simp only [φ']; rw [List.getElem?_set_self (by simp [hlen]; omega)]
  have at_ne : ∀ l, l < σ.length → l ≠ slot → φ'[l]? = φ[l]? := by
    intro l h1 h2
    simp only [φ']
    rw [List.getElem?_set_ne (Ne.symm h2), List.getElem?_take, if_pos h1]
  let ρ := toN σ.length slot
  have hφ : ∀ (i : Nat) (q : G), At φ i q → φ'[ρ i]? = some q := by
    intro i q hq
    have hi : i < φ.length := (List.getElem?_eq_some_iff.1 hq.1).1
    simp only [ρ, toN]
    split
    · rename_i e; subst e; have h1 := hq.1; rw [hg] at h1; cases h1; exact at_slot
    · rename_i e
      have hne : i ≠ slot := by
        rintro rfl
        obtain ⟨h1, h2⟩ := hq
        rw [hg0] at h1
        cases h1
        rw [hoff] at h2; cases h2
      rw [at_ne i (by omega) hne]; exact hq.1
  let σ' := (σ.set slot ob).map (Ob.ren ρ)
  have parts : ∀ (l : Nat) (o : Ob) (q : G), σ'[l]? = some o → φ'[l]? = some q → ∃ l0 o0, (σ ++ [ob])[l0]? = some o0 ∧ φ[l0]? = some q ∧ o = o0.ren ρ ∧ ((l0 = σ.length ∧ l = slot) ∨ (l0 = l ∧ l ≠ slot ∧ l < σ.length)) := by
    intro l o q h1 h2
    have hl : l < σ.length := by rw [← hlen']; exact (List.getElem?_eq_some_iff.1 h2).1
    simp only [σ', List.getElem?_map] at h1
    by_cases e : l = slot
    · subst e
      rw [List.getElem?_set_self hl] at h1
      cases h1
      rw [at_slot] at h2; cases h2
      exact ⟨σ.length, ob, by simp, hg, rfl, .inl ⟨rfl, rfl⟩⟩
    · rw [List.getElem?_set_ne (Ne.symm e)] at h1
      cases ho : σ[l]? with
      | none => rw [ho] at h1; cases h1
      | some o0 =>
        rw [ho] at h1; cases h1
        rw [at_ne l hl e] at h2
        exact ⟨l, o0, by rw [List.getElem?_append_left hl]; exact ho, h2, rfl, .inr ⟨rfl, e, hl⟩⟩
  have hown : ∀ b, Own φ' σ' b → Own φ (σ ++ [ob]) b := by
    rintro b ⟨l, o, q, h1, h2, h3⟩
    obtain ⟨l0, o0, k1, k2, rfl, _⟩ := parts l o q h1 h2
    exact ⟨l0, o0, q, k1, k2, owns_ren.1 h3⟩
  have hok : ∀ b, Okb F φ (σ ++ [ob]) w b → Okb F φ' σ' w b := fun b h => ⟨h.1, fun k => h.2.1 (hown b k), h.2.2⟩
  refine ⟨φ', ⟨by simp [hlen'], fun l o q h1 h2 => ?_, fun l l' o o' q q' b h1 h1' h2 h2' h3 h3' => ?_, fun b hb => R.dis b (hown b hb), R.fb⟩, fun x v h => h.ren hφ hok, fun l q h1 h2 h3 => by rw [at_ne l h1 h2]; exact h3, hown⟩
  · obtain ⟨l0, o0, k1, k2, rfl, _⟩ := parts l o q h1 h2
    exact (R.obj l0 o0 q k1 k2).ren hφ hok
  · obtain ⟨l0, o0, k1, k2, rfl, k3⟩ := parts l o q h1 h2
    obtain ⟨l0', o0', k1', k2', rfl, k3'⟩ := parts l' o' q' h1' h2'
    have := R.inj l0 l0' o0 o0' q q' b k1 k1' k2 k2' (owns_ren.1 h3) (owns_ren.1 h3')
    rcases k3 with ⟨e1, e2⟩ | ⟨e1, e2, e3⟩ <;> rcases k3' with ⟨e1', e2'⟩ | ⟨e1', e2', e3'⟩ <;> omega

theorem DStep.sound {P : Program} {N : Nat} {x : Opx} {e : Env} {σ σ' : Store} {v : Vv} (h : DStep P x e σ v σ') {ops : Array Oper} {i : Nat} {o : Oper} (ho : ops[i]? = some o) (hm : mOp P N ops x o = true) {a : Act} {φ : List G} {w : World}
    (E : ER φ (Okb F φ σ w) w e a.tmps) (R : Rel F φ σ w) (b : Frame) (k : List Item) (cs : List Frame) (rest : List Nat) :
    ∃ val w' φ', Steps P (lone (b.at a (.inRegion ops (i :: rest) :: k)) cs w) (lone (b.at (a.put x.dst val) (.inRegion ops rest :: k)) cs w') ∧ VR φ' (Okb F φ' σ' w') w' v val ∧ Rel F φ' σ' w' ∧ Adv [] φ σ w φ' σ' w' := by
  simp only [mOp, Bool.and_eq_true, beq_iff_eq, Bool.or_eq_true] at hm
  obtain ⟨⟨⟨m1, m2⟩, m3⟩, m4⟩ := hm
  induction h with
  | re slot _ hln hs hs1 ih =>
    obtain ⟨val, w', φ', hst, hv, R', A'⟩ := ih
    obtain ⟨φ2, R2, V2, f2, o2⟩ := R'.reslot hs1
    rw [hln] at R2 V2 f2 o2
    refine ⟨val, w', φ2, hst, V2 _ _ hv, R2, A'.kept, fun b hb => A'.own b (o2 b hb), fun l g hg hm => ?_⟩
    have hl : l < φ.length := (List.getElem?_eq_some_iff.1 hg.1).1
    have hlR := R.len
    have hg0 := A'.fix l g hg hm
    have hne : l ≠ slot := by
      rintro rfl
      have : g.on = false := R.obj l .res g hs hg.1
      rw [hg.2] at this; cases this
    exact ⟨f2 l g (by omega) hne hg0.1, hg0.2⟩
  | no hw =>
    have hwant := want_spec E m3 hw
    exact ⟨undef, w, φ, .one (step_not m1 ho hwant), vr_undef, R, Adv.refl _ _ _⟩
  | op hw hs =>
    have hwant := want_spec E m3 hw
    have m4' := m4.resolve_right (fun h => by rw [mX_stepv h] at hs; cases hs)
    obtain ⟨y, w', φ', hrun, hv, R', A'⟩ := step_sound (P := P) R E m4' hs
    rw [killS_nil] at hv R' A'
    rcases hrun with hrun | ⟨hrun, rfl⟩
    · exact ⟨y, w', φ', .one (step_val m1 ho hwant hrun), hv, R', A'⟩
    · exact ⟨undef, w', φ', .one (step_skp m1 ho hwant hrun), hv, R', A'⟩
  | opx hw hs =>
    have hwant := want_spec E m3 hw
    obtain ⟨y, w', hrun, hv, R', A'⟩ := stepx_sound (P := P) R E m4 hs
    exact ⟨y, w', φ, .one (step_val m1 ho hwant hrun), hv, R', A'⟩
  | @call σ' f args v hw he hok =>
    have hwant := want_spec E m3 hw
    rw [he] at m4
    rcases m4 with m4 | m4
    · obtain ⟨as, ats, g, hop, hf, has, hg⟩ := mI_call m4
      subst hf
      have hv := args_sound E args as.toList has
      have hc : Calls P f (as.map a.eval ++ #[]) w fun ev w' => ∃ v', ev = .returned v' ∧ ∃ φ', VR φ' (Okb F φ' σ' w') w' v v' ∧ Rel F φ' σ' w' ∧ Adv [] φ σ w φ' σ' w' :=
        (hok.2 F φ w (as.map a.eval ++ #[]) R (by simpa using hv)).mono fun e w' ⟨v, φ', h1, h2⟩ => ⟨v, h1, φ', h2⟩
      obtain ⟨v', w', ⟨φ', h1, h2, h3⟩, hs⟩ := step_ent (b := b) (k := k) (cs := cs) (rest := rest) m1 ho hwant (exec_call hop rfl hg) hc
      exact ⟨v', w', φ', hs, h1, h2, h3⟩
    · simp [mX] at m4

theorem memL_iff {s : List Nat} {j : Nat} : memL s j = true ↔ j ∈ s := by
  unfold memL
  rw [List.any_eq_true]
  exact ⟨fun ⟨x, h1, h2⟩ => by have := eq_of_beq h2; subst this; exact h1, fun h => ⟨j, h, beq_self_eq_true j⟩⟩
theorem memL_ins {j : Nat} : ∀ (T : List Nat) (i : Nat), memL (insS T i) j = true ↔ memL T j = true ∨ j = i
  | [], i => by simp [insS, memL_iff]
  | x :: r, i => by
    have ih := memL_ins (j := j) r i
    simp only [memL_iff] at ih ⊢
    simp only [insS]
    split
    · simp only [List.mem_cons]; exact ⟨fun h => h.elim .inr .inl, fun h => h.elim .inr .inl⟩
    · split
      · rename_i h; subst h; simp only [List.mem_cons]; constructor
        · intro h; exact .inl h
        · rintro (h | h); exact h; exact .inl h
      · simp only [List.mem_cons, ih]; constructor
        · rintro (h | h | h) <;> simp [h]
        · rintro ((h | h) | h) <;> simp [h]
theorem envD_cases {V : Nat → Vv} {i : Nat} {b : List Nat} {e : Env} {t : Nat} : ∀ (D : List Dop) (j0 : Nat),
    (∃ (j : Nat) (d : Dop), D[j]? = some d ∧ d.x.dst = some t ∧ getE (envD V i b D j0 e) t = if memL b (j0 + j) then V (j0 + j) else if memL d.b i then getE e t else .top) ∨ ((∀ (j : Nat) (d : Dop), D[j]? = some d → d.x.dst ≠ some t) ∧ getE (envD V i b D j0 e) t = getE e t)
  | [], j0 => .inr ⟨fun j d h => by simp at h, rfl⟩
  | d :: r, j0 => by
    by_cases hd : d.x.dst = some t
    · exact .inl ⟨0, d, rfl, hd, by simp [envD, setE, hd, getE, oldD]⟩
    · have hset : getE (envD V i b (d :: r) j0 e) t = getE (envD V i b r (j0 + 1) e) t := by
        simp only [envD]
        cases hdd : d.x.dst with
        | none => rfl
        | some u =>
          have : u ≠ t := by rintro rfl; exact hd hdd
          simp [setE, getE, this]
      rw [hset]
      rcases envD_cases (V := V) (i := i) (b := b) (e := e) (t := t) r (j0 + 1) with ⟨j, d', h1, h2, h3⟩ | ⟨h1, h2⟩
      · exact .inl ⟨j + 1, d', by simpa using h1, h2, by rw [h3, show j0 + 1 + j = j0 + (j + 1) by omega]⟩
      · refine .inr ⟨fun j d' hj => ?_, h2⟩
        cases j with
        | zero => simp at hj; subst hj; exact hd
        | succ j => exact h1 j d' (by simpa using hj)
theorem envAll_cases {V : Nat → Vv} {e : Env} {t : Nat} : ∀ (D : List Dop) (j0 : Nat),
    (∃ (j : Nat) (d : Dop), D[j]? = some d ∧ d.x.dst = some t ∧ getE (envAll V D j0 e) t = V (j0 + j)) ∨ ((∀ (j : Nat) (d : Dop), D[j]? = some d → d.x.dst ≠ some t) ∧ getE (envAll V D j0 e) t = getE e t)
  | [], j0 => .inr ⟨fun j d h => by simp at h, rfl⟩
  | d :: r, j0 => by
    by_cases hd : d.x.dst = some t
    · exact .inl ⟨0, d, rfl, hd, by simp [envAll, setE, hd, getE]⟩
    · have hset : getE (envAll V (d :: r) j0 e) t = getE (envAll V r (j0 + 1) e) t := by
        simp only [envAll]
        cases hdd : d.x.dst with
        | none => rfl
        | some u =>
          have : u ≠ t := by rintro rfl; exact hd hdd
          simp [setE, getE, this]
      rw [hset]
      rcases envAll_cases (V := V) (e := e) (t := t) r (j0 + 1) with ⟨j, d', h1, h2, h3⟩ | ⟨h1, h2⟩
      · exact .inl ⟨j + 1, d', by simpa using h1, h2, by rw [h3, show j0 + 1 + j = j0 + (j + 1) by omega]⟩
      · refine .inr ⟨fun j d' hj => ?_, h2⟩
        cases j with
        | zero => simp at hj; subst hj; exact hd
        | succ j => exact h1 j d' (by simpa using hj)
theorem eaAll_mem {j : Nat} : ∀ (D : List Dop) (j0 : Nat), j ∈ eaAll D j0 → ∃ (i : Nat) (d : Dop), j = j0 + i ∧ D[i]? = some d ∧ d.ea = true
  | [], j0, h => by simp [eaAll] at h
  | d :: r, j0, h => by
    simp only [eaAll] at h
    split at h
    · rename_i hd
      rcases List.mem_cons.1 h with h | h
      · exact ⟨0, d, by omega, rfl, hd⟩
      · obtain ⟨i, d', h1, h2, h3⟩ := eaAll_mem r (j0 + 1) h
        exact ⟨i + 1, d', by omega, by simpa using h2, h3⟩
    · obtain ⟨i, d', h1, h2, h3⟩ := eaAll_mem r (j0 + 1) h
      exact ⟨i + 1, d', by omega, by simpa using h2, h3⟩
theorem countP_less {p : Nat → Bool} {i : Nat} : ∀ (L : List Nat), (L.countP fun j => p j && j != i) ≤ L.countP p ∧ (i ∈ L → p i = true → (L.countP fun j => p j && j != i) + 1 ≤ L.countP p)
  | [] => ⟨by simp, by simp⟩
  | x :: r => by
    obtain ⟨h1, h2⟩ := countP_less (p := p) (i := i) r
    simp only [List.countP_cons]
    by_cases hx : x = i
    · subst hx
      refine ⟨?_, fun _ hp => ?_⟩
      · simp; omega
      · simp [hp]; omega
    · have hne : (x != i) = true := by simpa using hx
      simp only [hne, Bool.and_true]
      refine ⟨by omega, fun hm hp => ?_⟩
      have := h2 (by simpa [Ne.symm hx] using hm) hp
      omega
theorem mOps_at {P : Program} {N : Nat} {ops : Array Oper} : ∀ (l : List Opx) (os : List Oper), mOps P N ops l os = true → ∀ (i : Nat) (x : Opx) (o : Oper), l[i]? = some x → os[i]? = some o → mOp P N ops x o = true
  | [], [], _, i, x, o, h, _ => by simp at h
  | [], _ :: _, h, _, _, _, _, _ => by simp [mOps] at h
  | _ :: _, [], h, _, _, _, _, _ => by simp [mOps] at h
  | x :: r, o :: s, h, i, x', o', h1, h2 => by
    simp only [mOps, Bool.and_eq_true] at h
    cases i with
    | zero => simp at h1 h2; subst h1 h2; exact h.1
    | succ i => exact mOps_at r s h.2 i x' o' (by simpa using h1) (by simpa using h2)

/-- What holds while some of the region is listed. -/
structure DInv (F : Nat → Prop) (D : List Dop) (st : List (List Nat)) (e : Env) (V : Nat → Vv) (B : Nat → Store) (listed : Array Bool) (a : Act) (w : World) (φ : List G) (s : Nat) (T : List Nat) : Prop where
  size : listed.size = D.length
  st : st[s]? = some T
  mem : ∀ j, memL T j = true ↔ listed.getD j false = true ∧ ∃ d : Dop, D[j]? = some d ∧ d.ea = true
  down : ∀ (i : Nat) (d : Dop), D[i]? = some d → listed.getD i false = true → ∀ j ∈ d.b, listed.getD j false = true
  val : ∀ (j t : Nat) (d : Dop), D[j]? = some d → d.x.dst = some t → listed.getD j false = true → VR φ (Okb F φ (B s) w) w (V j) (a.tmps.getD t undef)
  old : ∀ t : Nat, (∀ (j : Nat) (d : Dop), D[j]? = some d → d.x.dst = some t → listed.getD j false = false) → VR φ (Okb F φ (B s) w) w (getE e t) (a.tmps.getD t undef)
  rel : Rel F φ (B s) w

theorem getD_set (listed : Array Bool) (i j : Nat) (h : i < listed.size) : (listed.setIfInBounds i true).getD j false = if i = j then true else listed.getD j false := by
  simp only [Array.getD_eq_getD_getElem?, Array.getElem?_setIfInBounds]
  split
  · rename_i e; subst e; simp
  · rfl

set_option maxHeartbeats 2000000 in
theorem drawn_go {P : Program} {Q : Env → Store → Prop} {φ0 : List G} {σ0 : Store} {w0 : World} {N : Nat} {ops : Array Oper} {D : List Dop} {st : List (List Nat)} {e : Env} {V : Nat → Vv} {B : Nat → Store} {tl : List Item}
    (hm : mOps P N ops (D.map (·.x)) ops.toList = true) (hok : okD D st ops = true) (hD : DOk P D st e V B)
    (ih : ∀ (φ : List G) (w : World) (a : Act), N ≤ a.tmps.size → a.defers = [] → ER φ (Okb F φ (B (idxS st (eaAll D 0))) w) w (envAll V D 0 e) a.tmps → Rel F φ (B (idxS st (eaAll D 0))) w → Adv [] φ0 σ0 w0 φ (B (idxS st (eaAll D 0))) w → Comes' P F φ0 σ0 w0 Q tl a w) :
    ∀ (fuel t : Nat) (listed : Array Bool) (a : Act) (w : World) (φ : List G) (s : Nat) (T : List Nat), DInv F D st e V B listed a w φ s T → ((List.range D.length).countP fun j => !listed.getD j false) ≤ fuel → N ≤ a.tmps.size → a.defers = [] → Adv [] φ0 σ0 w0 φ (B s) w →
      Comes' P F φ0 σ0 w0 Q (.inRegion ops (Region.linearise.go .any ops fuel t listed []) :: tl) a w := by
  simp only [okD, Bool.and_eq_true, decide_eq_true_eq] at hok
  obtain ⟨⟨⟨hlen, _⟩, hloc⟩, hfin⟩ := hok
  have loc : ∀ i, i < D.length → okD1 D st ops i = true := fun i hi => by
    rw [List.all_eq_true] at hloc; exact hloc i (List.mem_range.2 hi)
  -- all is listed: go on
  have done : ∀ (listed : Array Bool) (a : Act) (w : World) (φ : List G) (s : Nat) (T : List Nat), DInv F D st e V B listed a w φ s T → (∀ j, j < D.length → listed.getD j false = true) → N ≤ a.tmps.size → a.defers = [] → Adv [] φ0 σ0 w0 φ (B s) w → Comes' P F φ0 σ0 w0 Q (.inRegion ops [] :: tl) a w := by
    intro listed a w φ s T I hall hN hd A
    have hs : s = idxS st (eaAll D 0) := by
      rw [List.all_eq_true] at hfin
      have := hfin s (List.mem_range.2 (List.getElem?_eq_some_iff.1 I.st).1)
      rw [I.st] at this
      simp only [Bool.or_eq_true, Bool.not_eq_true', beq_iff_eq] at this
      refine this.resolve_left (fun hf => ?_)
      have ht : ((eaAll D 0).all fun j => memL T j) = true := by
        rw [List.all_eq_true]
        intro j hj
        obtain ⟨i, d, h1, h2, h3⟩ := eaAll_mem D 0 hj
        have : j = i := by omega
        subst this
        exact (I.mem j).2 ⟨hall j (List.getElem?_eq_some_iff.1 h2).1, d, h2, h3⟩
      rw [ht] at hf; cases hf
    have E' : ER φ (Okb F φ (B s) w) w (envAll V D 0 e) a.tmps := by
      intro t
      rcases envAll_cases (V := V) (e := e) (t := t) D 0 with ⟨j, d, h1, h2, h3⟩ | ⟨h1, h2⟩
      · rw [h3, Nat.zero_add]; exact I.val j t d h1 h2 (hall j (List.getElem?_eq_some_iff.1 h1).1)
      · rw [h2]; exact I.old t (fun j d hj hd => absurd hd (h1 j d hj))
    have R := I.rel
    rw [hs] at E' R A
    exact (ih φ w a hN hd E' R A).step fun b cs => .one step_region_end
  intro fuel
  induction fuel with
  | zero =>
    intro t listed a w φ s T I hc hN hd A
    refine done listed a w φ s T I (fun j hj => ?_) hN hd A
    have h0 : ((List.range D.length).countP fun j => !listed.getD j false) = 0 := by omega
    rw [List.countP_eq_zero] at h0
    have := h0 j (List.mem_range.2 hj)
    simpa using this
  | succ fuel ihf =>
    intro t listed a w φ s T I hc hN hd A
    simp only [Region.linearise.go]
    change Comes' P F φ0 σ0 w0 Q (.inRegion ops (match (Region.ready .any ops listed)[t % (Region.ready .any ops listed).length]? with
      | some i => Region.linearise.go .any ops fuel (t / (Region.ready .any ops listed).length) (listed.setIfInBounds i true) [i]
      | none => [].reverse) :: tl) a w
    have getD_true : ∀ i, i < D.length → listed.getD i true = listed.getD i false := fun i hi => by
      have : i < listed.size := by rw [I.size]; exact hi
      simp [Array.getD, this]
    cases hi : (Region.ready .any ops listed)[t % (Region.ready .any ops listed).length]? with
    | none =>
      have hnil : Region.ready .any ops listed = [] := by
        cases hr : Region.ready .any ops listed with
        | nil => rfl
        | cons x xs =>
          rw [hr] at hi
          have hlt : t % (x :: xs).length < (x :: xs).length := Nat.mod_lt _ (by simp)
          simp at hi
          simp at hlt
          omega
      refine done listed a w φ s T I (fun j hj => ?_) hN hd A
      induction j using Nat.strongRecOn with
      | _ j ihj =>
        cases hb : listed.getD j false with
        | true => rfl
        | false =>
          exfalso
          have hmem : j ∈ Region.ready .any ops listed := by
            unfold Region.ready
            rw [List.mem_filter]
            refine ⟨List.mem_range.2 (by omega), ?_⟩
            have hok1 := loc j hj
            unfold okD1 at hok1
            split at hok1
            · rename_i d o h1 h2
              simp only [Bool.and_eq_true] at hok1
              obtain ⟨⟨⟨k1, k2⟩, k3⟩, k4⟩ := hok1
              simp only [h2, getD_true j hj, hb, Option.map_some, Option.getD_some, Bool.not_false, Bool.true_and]
              rw [← Array.all_toList]
              rw [List.all_eq_true] at k1 ⊢
              intro ed hed
              have := k1 ed hed
              simp only [Bool.or_eq_true, Bool.and_eq_true, decide_eq_true_eq] at this
              rcases this with this | this
              · rw [this]; rfl
              · rw [ihj ed.on this.1 (by omega)]; simp
            · cases hok1
          rw [hnil] at hmem; cases hmem
    | some i =>
      simp only []
      rw [linearise_go_acc, List.reverse_singleton, List.singleton_append]
      have hmem := List.mem_of_getElem? hi
      unfold Region.ready at hmem
      rw [List.mem_filter] at hmem
      obtain ⟨hir, hready⟩ := hmem
      have hi' : i < D.length := by rw [hlen]; exact List.mem_range.1 hir
      simp only [Bool.and_eq_true, Bool.not_eq_true'] at hready
      obtain ⟨hun, hafter⟩ := hready
      rw [getD_true i hi'] at hun
      have hok1 := loc i hi'
      unfold okD1 at hok1
      split at hok1
      · rename_i d o h1 h2
        simp only [Bool.and_eq_true] at hok1
        obtain ⟨⟨⟨k1, k2⟩, k3⟩, k4⟩ := hok1
        simp only [h2, Option.map_some, Option.getD_some] at hafter
        rw [← Array.all_toList] at hafter
        rw [List.all_eq_true] at hafter k1 k2 k3
        -- what is ahead is listed
        have hb : ∀ j ∈ d.b, listed.getD j false = true := by
          intro j hj
          have := k2 j hj
          simp only [Bool.and_eq_true, decide_eq_true_eq] at this
          obtain ⟨_, h5⟩ := this
          rw [List.any_eq_true] at h5
          obtain ⟨ed, h6, h7⟩ := h5
          simp only [Bool.and_eq_true, Bool.or_eq_true, beq_iff_eq] at h7
          have h8 := hafter ed h6
          simp only [Bool.or_eq_true, Bool.not_eq_true'] at h8
          have h9 : listed.getD ed.on false = true := by
            rcases h8 with h8 | h8
            · rw [h7.1] at h8; cases h8
            · exact h8
          rcases h7.2 with h10 | h10
          · rw [← h10]; exact h9
          · split at h10
            · rename_i x hx; exact I.down ed.on x hx h9 j (memL_iff.1 h10)
            · cases h10
        have hen : enab D i d T = true := by
          unfold enab
          simp only [Bool.and_eq_true, Bool.not_eq_true']
          refine ⟨⟨?_, ?_⟩, ?_⟩
          · rw [List.all_eq_true]
            intro j hj
            cases hx : D[j]? with
            | none => simp
            | some x =>
              cases hxe : x.ea with
              | false => simp [hxe]
              | true => simp only [hxe, Bool.not_true, Bool.or_false]; exact (I.mem j).2 ⟨hb j hj, x, hx, hxe⟩
          · cases hT : memL T i with
            | false => rfl
            | true => have := ((I.mem i).1 hT).1; rw [hun] at this; cases this
          · rw [List.all_eq_true]
            intro j hj
            obtain ⟨q1, x, q2, q3⟩ := (I.mem j).1 (memL_iff.2 hj)
            simp only [q2, Bool.not_eq_true']
            cases hx : memL x.b i with
            | false => rfl
            | true => have := I.down j x q2 q1 i (memL_iff.1 hx); rw [hun] at this; cases this
        have hstep := hD i d s T h1 I.st hen
        have key : ∀ (i j : Nat) (d x : Dop) (u : Nat), D[i]? = some d → D[j]? = some x → j < i → x.x.dst = some u → d.x.dst = some u → False := by
          intro i j d x u g1 g2 g3 g4 g5
          have := loc i (List.getElem?_eq_some_iff.1 g1).1
          unfold okD1 at this
          split at this
          · rename_i d' o' g6 g7
            rw [g1] at g6; cases g6
            simp only [Bool.and_eq_true] at this
            have := this.1.2
            rw [List.all_eq_true] at this
            have := this j (List.mem_range.2 g3)
            rw [g2] at this
            simp [g4, g5] at this
          · cases this
        have E' : ER φ (Okb F φ (B s) w) w (envD V i d.b D 0 e) a.tmps := by
          intro u
          rcases envD_cases (V := V) (i := i) (b := d.b) (e := e) (t := u) D 0 with ⟨j, d', q1, q2, q3⟩ | ⟨q1, q2⟩
          · rw [q3, Nat.zero_add]
            split
            · rename_i hj; exact I.val j u d' q1 q2 (hb j (memL_iff.1 hj))
            · split
              · rename_i hi2
                refine I.old u (fun j' d'' g1 g2 => ?_)
                have hjj : j' = j := by
                  rcases Nat.lt_trichotomy j' j with h | h | h
                  · exact (key j j' d' d'' u q1 g1 h g2 q2).elim
                  · exact h
                  · exact (key j' j d'' d' u g1 q1 h q2 g2).elim
                subst hjj
                rw [q1] at g1; cases g1
                cases hl : listed.getD j' false with
                | false => rfl
                | true =>
                  have := I.down j' d' q1 hl i (memL_iff.1 hi2)
                  rw [hun] at this; cases this
              · exact .top _
          · rw [q2]; exact I.old u (fun j d hj hd => absurd hd (q1 j d hj))
        intro b cs
        have hmop : mOp P N ops d.x o = true := mOps_at _ _ hm i d.x o (by rw [List.getElem?_map, h1]; rfl) (by rw [Array.getElem?_toList]; exact h2)
        obtain ⟨val, w', φ', hs, hv, R', A'⟩ := hstep.sound h2 hmop E' I.rel b tl cs (Region.linearise.go .any ops fuel (t / (Region.ready .any ops listed).length) (listed.setIfInBounds i true) [])
        have hlsz : i < listed.size := by rw [I.size]; exact hi'
        have hset := fun j => getD_set listed i j hlsz
        have hdst : ∀ u, d.x.dst = some u → u < a.tmps.size := by
          intro u hu
          simp only [mOp, Bool.and_eq_true] at hmop
          have := hmop.1.1.2
          rw [hu] at this
          exact Nat.lt_of_lt_of_le (by simpa using this) hN
        have put_at : ∀ u, d.x.dst = some u → (a.put d.x.dst val).tmps.getD u undef = val := by
          intro u hu
          rw [hu]; simp only [Act.put]
          simp [Array.getD_eq_getD_getElem?, hdst u hu]
        have put_ne : ∀ u, d.x.dst ≠ some u → (a.put d.x.dst val).tmps.getD u undef = a.tmps.getD u undef := by
          intro u hu
          cases hdd : d.x.dst with
          | none => rfl
          | some q =>
            have : q ≠ u := by rintro rfl; exact hu hdd
            simp [Act.put, Array.getD_eq_getD_getElem?, Array.getElem?_setIfInBounds_ne this]
        have dist : ∀ (j : Nat) (x : Dop) (u : Nat), D[j]? = some x → x.x.dst = some u → d.x.dst = some u → j = i := by
          intro j x u g1 g2 g3
          rcases Nat.lt_trichotomy j i with h | h | h
          · exact (key i j d x u h1 g1 h g2 g3).elim
          · exact h
          · exact (key j i x d u g1 h1 h g3 g2).elim
        have I' : ∃ T', DInv F D st e V B (listed.setIfInBounds i true) (a.put d.x.dst val) w' φ' (nextS st s T i d) T' := by
          have hbase : ∀ T', st[nextS st s T i d]? = some T' → (∀ j, memL T' j = true ↔ memL T j = true ∨ (j = i ∧ d.ea = true)) → DInv F D st e V B (listed.setIfInBounds i true) (a.put d.x.dst val) w' φ' (nextS st s T i d) T' := by
            intro T' e1 e2
            refine ⟨by simpa using I.size, e1, fun j => ?_, fun j x hx hl k hk => ?_, fun j u x hx hxd hl => ?_, fun u hu => ?_, R'⟩
            · rw [e2, hset j]
              constructor
              · rintro (h | ⟨rfl, h⟩)
                · have := (I.mem j).1 h
                  exact ⟨by rw [this.1]; simp, this.2⟩
                · exact ⟨by simp, d, h1, h⟩
              · rintro ⟨hl, x, hx, hxe⟩
                by_cases hij : i = j
                · subst hij; rw [h1] at hx; cases hx; exact .inr ⟨rfl, hxe⟩
                · rw [if_neg hij] at hl; exact .inl ((I.mem j).2 ⟨hl, x, hx, hxe⟩)
            · rw [hset j] at hl
              rw [hset k]
              by_cases hij : i = j
              · subst hij; rw [h1] at hx; cases hx
                rw [hb k hk]; simp
              · rw [if_neg hij] at hl
                rw [I.down j x hx hl k hk]; simp
            · rw [hset j] at hl
              by_cases hij : i = j
              · subst hij; rw [h1] at hx; cases hx
                rw [put_at u hxd]; exact hv
              · rw [if_neg hij] at hl
                have : d.x.dst ≠ some u := fun h => hij (dist j x u hx hxd h).symm
                rw [put_ne u this]
                exact (I.val j u x hx hxd hl).still A'.mono
            · have hne : d.x.dst ≠ some u := fun h => by
                have := hu i d h1 h
                rw [hset i] at this; simp at this
              rw [put_ne u hne]
              refine (I.old u (fun j x hx hxd => ?_)).still A'.mono
              have := hu j x hx hxd
              rw [hset j] at this
              split at this
              · cases this
              · exact this
          cases hea : d.ea with
          | false => exact ⟨T, hbase T (by simp [nextS, hea, I.st]) (fun j => by simp [hea])⟩
          | true =>
            rw [hea] at k4
            simp only [Bool.not_true, Bool.false_or] at k4
            rw [List.all_eq_true] at k4
            have := k4 s (List.mem_range.2 (List.getElem?_eq_some_iff.1 I.st).1)
            rw [I.st] at this
            simp only [hen, Bool.not_true, Bool.false_or, beq_iff_eq] at this
            exact ⟨insS T i, hbase _ (by simp only [nextS, hea, if_true]; exact this) (fun j => by rw [memL_ins]; simp [hea])⟩
        obtain ⟨T', I'⟩ := I'
        have hcount : ((List.range D.length).countP fun j => !(listed.setIfInBounds i true).getD j false) ≤ fuel := by
          have := (countP_less (p := fun j => !listed.getD j false) (i := i) (List.range D.length)).2 (List.mem_range.2 hi') (by simp [hun])
          have heq : ((List.range D.length).countP fun j => !(listed.setIfInBounds i true).getD j false) = ((List.range D.length).countP fun j => (!listed.getD j false) && j != i) := by
            congr 1
            funext j
            rw [hset j]
            by_cases hij : i = j
            · subst hij; simp
            · have : (j != i) = true := by simpa using fun h => hij h.symm
              rw [if_neg hij, this, Bool.and_true]
          omega
        obtain ⟨a', w'', t', e', σ'', φ'', q1, rest⟩ := ihf (t / (Region.ready .any ops listed).length) (listed.setIfInBounds i true) (a.put d.x.dst val) w' φ' _ T' I' hcount (by rw [put_size]; exact hN) (by rw [put_defers]; exact hd) (A.then A') b cs
        exact ⟨a', w'', t', e', σ'', φ'', hs.trans q1, rest⟩
      · cases hok1

set_option maxHeartbeats 4000000 in
theorem Run.sound {P : Program} {Q : Env → Store → Prop} {φ0 : List G} {σ0 : Store} {w0 : World} {k : Ko} {e : Env} {σ : Store} (h : Run P σ0.length Q k e σ) :
    ∀ (N : Nat) (t : List Item) (φ : List G) (w : World) (a : Act), MK P N k t → N ≤ a.tmps.size → a.defers = [] → φ0.length = σ0.length → ER φ (Okb F φ σ w) w e a.tmps → Rel F φ σ w → Adv [] φ0 σ0 w0 φ σ w → Comes' P F φ0 σ0 w0 Q t a w := by
  induction h with
  | done hq =>
    intro N t φ w a M hN hd hl E R A
    cases M
    exact fun b cs => ⟨a, w, _, _, _, φ, .one step_end, hq, hd, E, R, A⟩
  | ret hq =>
    intro N t φ w a M hN hd hl E R A
    cases M with | st hm hk =>
    rename_i c _
    cases c <;> simp [mS] at hm
    exact fun b cs => ⟨a, w, _, _, _, φ, .one step_ret, hq, hd, E, R, A⟩
  | skip _ ih =>
    intro N t φ w a M hN hd hl E R A
    cases M with | st hm hk =>
    rename_i c _
    cases c <;> simp [mS] at hm
    exact (ih N _ φ w a hk hN hd hl E R A).step fun b cs => .one step_skip
  | seq _ ih =>
    intro N t φ w a M hN hd hl E R A
    cases M with | st hm hk =>
    rename_i c _
    cases c <;> simp [mS] at hm
    exact (ih N _ φ w a (.st hm.1 (.st hm.2 hk)) hN hd hl E R A).step fun b cs => .one step_seq
  | cond q hq _ ih =>
    intro N t φ w a M hN hd hl E R A
    cases M with | st hm hk =>
    rename_i c _
    cases c <;> simp [mS] at hm
    have hc := mO_sound E hm.1.1
    rw [hq] at hc
    refine (ih N _ φ w a (.st ?_ hk) hN hd hl E R A).step fun b cs => .one (step_cond hc.bool)
    cases q
    · exact hm.2
    · exact hm.1.2
  | block _ ih =>
    intro N t φ w a M hN hd hl E R A
    cases M with | st hm hk =>
    rename_i c _
    cases c <;> simp [mS] at hm
    obtain ⟨rfl, hm⟩ := hm
    exact (ih N _ φ w a (.st hm (.blk hk)) hN hd hl E R A).step fun b cs => .one step_block
  | blk _ ih =>
    intro N t φ w a M hN hd hl E R A
    cases M with | blk hk =>
    exact (ih N _ φ w a hk hN hd hl E R A).step fun b cs => .one step_inBlock
  | loop _ ih =>
    intro N t φ w a M hN hd hl E R A
    cases M with | st hm hk =>
    rename_i c _
    cases c <;> simp [mS] at hm
    have h := ih N _ φ w a (.loop hm hk) hN hd hl E R A
    intro b cs
    obtain ⟨a', w', t', e', σ', φ', h1, rest⟩ := h b cs
    refine ⟨a', w', t', e', σ', φ', .head step_loop (steps_from h1 ?_ step_inLoop), rest⟩
    intro he
    have := congrArg (fun m : Machine => (m.gs[0]?).map fun g => g.frame.mode) he
    simp [lone, Frame.at] at this
  | again _ ih =>
    intro N t φ w a M hN hd hl E R A
    cases M with | loop hm hk =>
    exact (ih N _ φ w a (.st hm (.loop hm hk)) hN hd hl E R A).step fun b cs => .one step_inLoop
  | exit hp _ ih =>
    intro N t φ w a M hN hd hl E R A
    cases M with | st hm hk =>
    rename_i c _
    cases c <;> simp [mS] at hm
    subst hm
    obtain ⟨t', e1, m⟩ := hk.pop hp
    exact (ih N _ φ w a m hN hd hl E R A).step fun b cs => .one (step_exit e1)
  | start _ ih =>
    intro N t φ w a M hN hd hl E R A
    cases M with | st hm hk =>
    rename_i c _
    cases c with
    | region id ops draw =>
      cases draw with
      | true => simp [mS] at hm
      | false =>
        simp only [mS] at hm
        exact (ih N _ φ w a (.ops (MI.start hm) hk) hN hd hl E R A).step fun b cs => .one step_region
    | _ => simp [mS] at hm
  | fin _ ih =>
    intro N t φ w a M hN hd hl E R A
    cases M with | ops hm hk =>
    cases hm
    exact (ih N _ φ w a hk hN hd hl (E.keep _) R A).step fun b cs => .one step_region_end
  | @no o l live k e σ hw _ ih =>
    intro N t φ w a M hN hd hl E R A
    cases M with | ops hm hk =>
    cases hm with | cons ho hm hr =>
    simp only [mOp, Bool.and_eq_true, beq_iff_eq] at hm
    obtain ⟨⟨⟨m1, m2⟩, m3⟩, m4⟩ := hm
    have hwant := want_spec E m3 hw
    refine (ih N _ φ w (a.put o.dst undef) (.ops hr hk) (by rw [put_size]; exact hN) (by rw [put_defers]; exact hd) hl (E.set vr_undef (fun t ht => ?_)) R A).step fun b cs => .one ?_
    · exact Nat.lt_of_lt_of_le (by rw [ht] at m2; simpa using m2) hN
    · exact step_not m1 ho hwant
  | @op o l live k e σ σ' v hw hs _ ih =>
    intro N t φ w a M hN hd hl E R A
    cases M with | ops hm hk =>
    cases hm with | cons ho hm hr =>
    simp only [mOp, Bool.and_eq_true, beq_iff_eq, Bool.or_eq_true] at hm
    obtain ⟨⟨⟨m1, m2⟩, m3⟩, m4⟩ := hm
    have hwant := want_spec E m3 hw
    have m4' := m4.resolve_right (fun h => by rw [mX_stepv h] at hs; cases hs)
    obtain ⟨x, w', φ', hrun, hv, R', A'⟩ := step_sound (P := P) R E m4' hs
    rw [killS_nil] at hv R' A'
    have E' := (E.still A'.mono).set (d := o.dst) hv (fun t ht => Nat.lt_of_lt_of_le (by rw [ht] at m2; simpa using m2) hN)
    refine (ih N _ φ' w' (a.put o.dst x) (.ops hr hk) (by rw [put_size]; exact hN) (by rw [put_defers]; exact hd) hl E' R' (A.then A')).step fun b cs => .one ?_
    rcases hrun with hrun | ⟨hrun, rfl⟩
    · exact step_val m1 ho hwant hrun
    · exact step_skp m1 ho hwant hrun
  | @opx o l live k e σ σ' v hw hs _ ih =>
    intro N t φ w a M hN hd hl E R A
    cases M with | ops hm hk =>
    cases hm with | cons ho hm hr =>
    simp only [mOp, Bool.and_eq_true, beq_iff_eq, Bool.or_eq_true] at hm
    obtain ⟨⟨⟨m1, m2⟩, m3⟩, m4⟩ := hm
    have hwant := want_spec E m3 hw
    obtain ⟨x, w', hrun, hv, R', A'⟩ := stepx_sound (P := P) R E m4 hs
    have E' := (E.still A'.mono).set (d := o.dst) hv (fun t ht => Nat.lt_of_lt_of_le (by rw [ht] at m2; simpa using m2) hN)
    exact (ih N _ φ w' (a.put o.dst x) (.ops hr hk) (by rw [put_size]; exact hN) (by rw [put_defers]; exact hd) hl E' R' (A.then A')).step fun b cs => .one (step_val m1 ho hwant hrun)
  | @call o l live k e σ σ' f args res hw he hok _ ih =>
    intro N t φ w a M hN hd hl E R A
    cases M with | ops hm hk =>
    cases hm with | cons ho hm hr =>
    simp only [mOp, Bool.and_eq_true, beq_iff_eq, Bool.or_eq_true] at hm
    obtain ⟨⟨⟨m1, m2⟩, m3⟩, m4⟩ := hm
    have hwant := want_spec E m3 hw
    rw [he] at m4
    rcases m4 with m4 | m4
    · rename_i o' _ _
      obtain ⟨as, ats, g, hop, hf, has, hg⟩ := mI_call m4
      subst hf
      have hv := args_sound E args as.toList has
      refine enter_sound (vals := as.map a.eval ++ #[]) ho hwant (exec_call hop rfl hg) hok (by simpa using hv) m1 (fun t ht => Nat.lt_of_lt_of_le (by rw [ht] at m2; simpa using m2) hN) E R A hd hN ?_
      exact fun φ' w' a' q1 q2 q3 q4 q5 => ih N _ φ' w' a' (.ops hr hk) q1 q2 hl q3 q4 q5
    · simp [mX] at m4
  | @callv o l live k e σ σ' fx f cap args res hw he hf hok _ ih =>
    intro N t φ w a M hN hd hl E R A
    cases M with | ops hm hk =>
    cases hm with | cons ho hm hr =>
    simp only [mOp, Bool.and_eq_true, beq_iff_eq, Bool.or_eq_true] at hm
    obtain ⟨⟨⟨m1, m2⟩, m3⟩, m4⟩ := hm
    have hwant := want_spec E m3 hw
    rw [he] at m4
    rcases m4 with m4 | m4
    · obtain ⟨as, ats, y, hop, hy, has⟩ := mI_callv m4
      have hv := args_sound E args as.toList has
      have hfx := mO_sound E hy
      rw [hf] at hfx
      obtain ⟨caps, us, q1, q2, q3, q4⟩ := vr_fn hfx
      refine enter_sound (vals := as.map a.eval ++ caps) ho hwant (exec_call hop q1 hok.1) hok ?_ m1 (fun t ht => Nat.lt_of_lt_of_le (by rw [ht] at m2; simpa using m2) hN) E R A hd hN ?_
      · have h2 : VRs φ (Okb F φ σ w) w (cap.map .one) caps.toList := ⟨by simpa using q2, fun i x v hx hv => by
          rw [List.getElem?_map] at hx
          cases hc : cap[i]? with
          | none => rw [hc] at hx; cases hx
          | some d =>
            rw [hc] at hx; cases hx
            have hi := (List.getElem?_eq_some_iff.1 hc).1
            have := q3 i hi
            have hv' : caps[i]? = some v := by simpa using hv
            rw [hv'] at this; cases this
            exact .one _ _ (q4 i d hc)⟩
        simpa using hv.append h2
      · exact fun φ' w' a' q1 q2 q3 q4 q5 => ih N _ φ' w' a' (.ops hr hk) q1 q2 hl q3 q4 q5
    · simp [mX] at m4
  | @eqnil o l live k e σ ne x len hw he hl' _ ih =>
    intro N t φ w a M hN hd hl E R A
    cases M with | ops hm hk =>
    cases hm with | cons ho hm hr =>
    simp only [mOp, Bool.and_eq_true, beq_iff_eq, Bool.or_eq_true] at hm
    obtain ⟨⟨⟨m1, m2⟩, m3⟩, m4⟩ := hm
    have hwant := want_spec E m3 hw
    rw [he] at m4
    rcases m4 with m4 | m4
    · simp [mI] at m4
    · obtain ⟨t', y, yt, e', hop, hy, hu⟩ := mX_eqnil m4
      obtain ⟨ad, n, c, q1, q2, q3⟩ := slen_val (mO_sound E hy) hl'
      have hrun := exec_eqnil (P := P) (w := w) hop hu q1
      have E' := E.set (a := a) (d := o.dst) (VR.b1 (φ := φ) (ok := Okb F φ σ w) (w := w) (if ne then !ad.isNone else ad.isNone)) (fun t ht => Nat.lt_of_lt_of_le (by rw [ht] at m2; simpa using m2) hN)
      refine (ih ad.isNone q3 N _ φ w (a.put o.dst (.bool (if ne then !ad.isNone else ad.isNone))) (.ops hr hk) (by rw [put_size]; exact hN) (by rw [put_defers]; exact hd) hl E' R A).step fun b cs => .one ?_
      exact step_val m1 ho hwant hrun
  | @pad k e σ m _ ih =>
    intro N t φ w a M hN hd hl E R A
    obtain ⟨φ', R', A'⟩ := R.pad m
    exact ih N t φ' w a M hN hd hl (E.still A'.mono) R' (A.then A')
  | @drawn l st live k e V B hD _ ih =>
    intro N t φ w a M hN hd hl E R A
    cases M with | st hm hk =>
    rename_i c tl
    cases c with
    | region id ops draw =>
      cases draw with
      | false => simp [mS] at hm
      | true =>
        simp only [mS, Bool.and_eq_true] at hm
        obtain ⟨⟨m1, m2⟩, m3⟩ := hm
        have hst : st[0]? = some [] := by
          simp only [okD, Bool.and_eq_true, beq_iff_eq] at m2
          have := m2.1.1.2
          rw [List.head?_eq_getElem?] at this; exact this
        have hsz : l.length = ops.size := by
          simp only [okD, Bool.and_eq_true, decide_eq_true_eq] at m2
          exact m2.1.1.1
        have hsch : ∀ q, Region.schedule (P.follows .mixedOrders) ops q = Region.linearise .any ops q := fun q => by
          unfold Region.schedule
          rw [if_pos m3]
        have R0 : Rel F φ (B 0) { w with drawn := w.drawn + 1 } := R.drew
        have D0 : Adv [] φ (B 0) w φ (B 0) { w with drawn := w.drawn + 1 } := Adv.drew _ _ _
        have E0 := E.still (D0.mono (F := F))
        have go := drawn_go (Q := Q) (tl := tl) (σ0 := σ0) (φ0 := φ0) (w0 := w0) (F := F) m1 m2 hD (fun φ' w' a' q1 q2 q3 q4 q5 => ih N tl φ' w' a' hk q1 q2 hl (q3.keep _) q4 q5) ops.size
        have I0 : DInv F l st e V B (Array.replicate ops.size false) a { w with drawn := w.drawn + 1 } φ 0 [] := by
          have hf : ∀ j, (Array.replicate ops.size false).getD j false = false := fun j => by
            simp only [Array.getD_eq_getD_getElem?, Array.getElem?_replicate]
            split <;> rfl
          refine ⟨by simp [hsz], hst, fun j => ?_, fun i d _ h => ?_, fun j u d _ _ h => ?_, fun u _ => E0 u, R0⟩
          · rw [hf j]; simp [memL]
          · rw [hf i] at h; cases h
          · rw [hf j] at h; cases h
        have := fun q => go q (Array.replicate ops.size false) a { w with drawn := w.drawn + 1 } φ 0 [] I0 (by
          refine Nat.le_trans (List.countP_le_length) ?_
          rw [List.length_range, hsz]; exact Nat.le_refl _) hN hd (A.then D0)
        intro b cs
        obtain ⟨a', w', t', e', σ', φ', h1, rest⟩ := this (w.tape w.drawn (.order b.fn id)) b cs
        refine ⟨a', w', t', e', σ', φ', .head step_region_draw ?_, rest⟩
        rw [hsch]; exact h1
    | _ => simp [mS] at hm
  | keep ks _ ih =>
    intro N t φ w a M hN hd hl E R A
    exact ih N t φ w a M hN hd hl (E.keep _) R A
  | gc sel hs hn hlt _ ih =>
    intro N t φ w a M hN hd hl E R A
    obtain ⟨φ', R', f1, f2, f3⟩ := R.gc sel hn hlt
    refine ih N t φ' w a M hN hd hl (fun n => ?_) R' ?_
    · rw [getE_gc]; exact f3 _ _ (E n)
    · refine ⟨A.kept, fun b hb => A.own b (f2 b hb), fun l g hg hm => ?_⟩
      have hlt' : l < σ0.length := by rw [← hl]; exact (List.getElem?_eq_some_iff.1 hg.1).1
      have := A.fix l g hg hm
      have hsel : sel[l]? = some l := by
        have h1 : (sel.take σ0.length)[l]? = (List.range σ0.length)[l]? := by rw [hs]
        rw [List.getElem?_take, if_pos hlt', List.getElem?_range hlt'] at h1
        exact h1
      exact ⟨by rw [f1 l l hsel]; exact this.1, this.2⟩
  | @mkown k e σ t ty sz hp ht _ ih =>
    intro N t' φ w a M hN hd hl E R A
    obtain ⟨R', A'⟩ := R.pushNil ty sz hp
    refine ih N t' _ w a M hN hd hl (fun n => ?_) R' (A.then A')
    have E' := E.still A'.mono
    simp only [getE]
    split
    · rename_i hn; subst hn
      have h0 := E t
      rw [ht] at h0
      obtain ⟨ad, q⟩ := vr_nil h0
      rw [q]
      exact .one _ _ (own_nil ⟨by rw [← R.len]; simp, rfl⟩)
    · exact E' n
  | weak hw _ ih =>
    intro N t φ w a M hN hd hl E R A
    obtain ⟨φ', R', E', A'⟩ := hw F φ w a.tmps R E
    exact ih N t φ' w a M hN hd hl E' R' (A.then A')
  | @mkcell k e σ l i ty sz cs hp hs hc _ ih =>
    intro N t' φ w a M hN hd hl E R A
    obtain ⟨R', A'⟩ := R.pushNil ty sz hp
    have hl1 : l < σ.length := (List.getElem?_eq_some_iff.1 hs).1
    have hs' : (σ ++ [Ob.row ty sz 0 []])[l]? = some (.box cs) := by rw [List.getElem?_append_left hl1]; exact hs
    have hg : ∃ g, (φ ++ [(⟨0, 0, true⟩ : G)])[l]? = some g := ⟨_, List.getElem?_eq_getElem (by have := R.len; simp; omega)⟩
    obtain ⟨g, hg⟩ := hg
    obtain ⟨R2, A2⟩ := R'.cell (i := i) hs' (.own σ.length sz 0 0) g hg (fun v hv _ => by
      have := hv _ hc
      cases this with
      | nil _ a => exact own_nil ⟨by rw [← R.len]; simp, rfl⟩)
    rw [List.set_append_left _ _ hl1] at R2 A2
    exact ih N t' _ w a M hN hd hl ((E.still A'.mono).still A2.mono) R2 ((A.then A').then A2)

end Go.Proofs.Dl

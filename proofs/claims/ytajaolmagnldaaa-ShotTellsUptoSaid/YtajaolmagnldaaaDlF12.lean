/- A logic of plain data over the model, proved sound: part F12; conditions stand in each theorem. -/
import Derived.Test.YtajaolmagnldaaaDlF11
set_option linter.unusedVariables false
set_option linter.unusedSimpArgs false
/-! Each instruction is sound. -/
namespace Go.Proofs.Dl
variable {F : Nat → Prop}
section
variable {P : Program} {o : Oper} {a : Act} {φ : List G} {σ : Store} {w : World} {en : Env}

theorem snd_val (R : Rel F φ σ w) {s : Sem Value} {x : Value} {v : Vv} (he : execOp a.eval o = (do pure (.value (← s)) : Sem Next)) (hs : s.run P w = .ok x w) (hv : VR φ (Okb F φ σ w) w v x) : Res P F o a φ σ w v σ [] :=
  Res.same R (by rw [he]; simp only [Sem.run_bind, hs, Result.andThen_ok, Sem.run_pure]) hv

/-- A value, a world in which what was there stands. -/
theorem snd_ext {s : Sem Value} {x : Value} {v : Vv} {w' : World} {φ' : List G} {σ' : Store} {mv : List Nat} (he : execOp a.eval o = (do pure (.value (← s)) : Sem Next)) (hs : s.run P w = .ok x w')
    (hv : VR φ' (Okb F φ' (killS mv σ') w') w' v x) (R' : Rel F φ' (killS mv σ') w') (A : Adv mv φ σ w φ' (killS mv σ') w') : Res P F o a φ σ w v σ' mv :=
  ⟨x, w', φ', .inl (by rw [he]; simp only [Sem.run_bind, hs, Result.andThen_ok, Sem.run_pure]), hv, R', A⟩

theorem mOpt {x : Option Oo} {y : Option Operand} (hv : ∀ x o, mO x o = true → VR φ (Okb F φ σ w) w (ev en x) (a.eval o)) {d n : Int} (h : asOpt (ev en) x d = some n) (hm : mOo x y = true) :
    (y.map a.eval = none ∧ n = d) ∨ ∃ k, y.map a.eval = some (.int k n) := asOpt_spec h hm hv

theorem exec_builtin {b : Builtin} {args : Array Operand} {ats : Array TypeId} (ho : o.op = .call { callee := .builtin b, args := args, argTypes := ats }) :
    execOp a.eval o = builtin b ats o.type (args.map fun | .const _ => true | _ => false) (args.map a.eval) := by
  simp only [execOp, ho, resolve]
  rfl

theorem two {α : Type} {xs : Array α} {x y : α} (h : xs.toList = [x, y]) : xs = #[x, y] := by cases xs; simpa using h
theorem one {α : Type} {xs : Array α} {x : α} (h : xs.toList = [x]) : xs = #[x] := by cases xs; simpa using h

theorem snd_pick (R : Rel F φ σ w) {c' a' b' : Operand} {q : Bool} {va vb : Vv} (ho : o.op = .pick c' a' b') (hc : a.eval c' = .bool q) (ha : VR φ (Okb F φ σ w) w va (a.eval a')) (hb : VR φ (Okb F φ σ w) w vb (a.eval b')) :
    Res P F o a φ σ w (if q then va else vb) σ [] := by
  refine Res.same R (x := if q then a.eval a' else a.eval b') (by simp only [execOp, ho, hc, asBool, Sem.run_bind, Sem.run_pure, Result.andThen_ok]) ?_
  cases q
  · exact hb
  · exact ha
theorem snd_nilck (R : Rel F φ σ w) {y : Operand} {d : Dd} (ho : o.op = .nilCheck y) (hx : VR φ (Okb F φ σ w) w (.one d) (a.eval y)) (hd : (∃ l off, d = .ptr l off) ∨ (∃ cs, d = .cptr cs) ∨ ∃ l sz i j, d = .eptr l sz i j) :
    Res P F o a φ σ w (.one d) σ [] := by
  obtain ⟨b, off, e⟩ : ∃ b off, a.eval y = .pointer (some ⟨b, off, none⟩) := by
    generalize a.eval y = u at hx
    cases hx with | one d v hx =>
    rcases hd with ⟨_, _, rfl⟩ | ⟨_, rfl⟩ | ⟨_, _, _, _, rfl⟩ <;> cases hx <;> exact ⟨_, _, rfl⟩
  exact Res.same R (x := a.eval y) (by simp only [execOp, ho, e, Sem.run_pure]) hx

theorem snd_bin (R : Rel F φ σ w) {op : BinOp} {t yt : TypeId} {x' y' : Operand} {cl : Nat} {vx vy v : Vv} (ho : o.op = .binOp op t x' y' yt) (hu : binV cl op vx vy = some v) (hc : clsOk P cl op t = true) (ha : VR φ (Okb F φ σ w) w vx (a.eval x')) (hb : VR φ (Okb F φ σ w) w vy (a.eval y')) :
    Res P F o a φ σ w v σ [] := by
  obtain ⟨r, k1, k2⟩ := run_binV (P := P) (w := w) hu hc x' y' ha hb
  exact snd_val R (s := binRun op t x' y' (a.eval x') (a.eval y')) (by simp only [execOp, ho]; rfl) k1 k2
theorem snd_eqs (R : Rel F φ σ w) {ne : Bool} {t yt : TypeId} {x' y' : Operand} {ks : List Nat} {as bs : List Dd} {q : Bool} (ho : o.op = .binOp (if ne then .neq else .eql) t x' y' yt) (hu : flatEq ks as bs = some q) (hc : flatStruct P ks t = true)
    (ha : VR φ (Okb F φ σ w) w (.agg as) (a.eval x')) (hb : VR φ (Okb F φ σ w) w (.agg bs) (a.eval y')) : Res P F o a φ σ w (b1 (if ne then !q else q)) σ [] := by
  have k1 := run_eqs (P := P) (w := w) (ne := ne) hu hc x' y' ha hb
  exact snd_val R (s := binRun (if ne then .neq else .eql) t x' y' (a.eval x') (a.eval y')) (by simp only [execOp, ho]; rfl) k1 (.b1 _)

theorem snd_slc3 (R : Rel F φ σ w) {t e : TypeId} {y hi' mx' : Operand} {lo' : Option Operand} {p q c : Int} {l sz off len : Nat} (ho : o.op = .slice t y lo' (some hi') (some mx')) (hp : (lo'.map a.eval = none ∧ p = 0) ∨ ∃ k, lo'.map a.eval = some (.int k p))
    (hq : ∃ k, a.eval hi' = .int k q) (hc : ∃ k, a.eval mx' = .int k c) (hx : VR φ (Okb F φ σ w) w (.one (.own l sz off len)) (a.eval y)) (h0 : 0 ≤ p) (h1 : p ≤ q) (h2 : q = c) (h3 : c ≤ len) (ht : P.underlying t = some (.slice e)) (hs : szOf P e = some sz) :
    Res P F o a φ σ w (.one (.cown l sz (off + p.toNat) (q.toNat - p.toNat))) σ [] := by
  subst h2
  obtain ⟨k1, hq⟩ := hq
  obtain ⟨k2, hc⟩ := hc
  generalize hy : a.eval y = vy at hx
  cases hx with | one d vy hx => cases hx with | own _ _ _ _ g ad hg hgc had =>
  have hsz := szOf_run hs w
  have b1 : ∀ cc, (Instr.sliceBound (.int k2 q) (g.cap - off) cc).run P w = .ok q.toNat w := fun cc => run_bound cc (by omega) (by omega)
  have b2 : ∀ cc, (Instr.sliceBound (.int k1 q) q.toNat cc).run P w = .ok q.toNat w := fun cc => run_bound cc (by omega) (by omega)
  have hbd : (Instr.sliceBounds true len (g.cap - off) (lo'.map a.eval) (some (.int k1 q)) (some (.int k2 q))).run P w = .ok (p.toNat, q.toNat, q.toNat) w := by
    rcases hp with ⟨e1, rfl⟩ | ⟨k, e1⟩
    · rw [e1]; simp [Instr.sliceBounds, b1, b2]
    · have b3 : ∀ cc, (Instr.sliceBound (.int k p) q.toNat cc).run P w = .ok p.toNat w := fun cc => run_bound cc h0 (by omega)
      rw [e1]; simp [Instr.sliceBounds, b1, b2, b3]
  refine snd_val R (by simp only [execOp, ho, Option.map_some, hy, hq, hc]; rfl) (x := .slice (if q.toNat = p.toNat then ad else ad.map (·.add (p.toNat * sz))) (q.toNat - p.toNat) (q.toNat - p.toNat)) ?_ (.one _ _ ?_)
  · simp only [Instr.sliceAt, Sem.run_bind, run_underlying ht, Result.andThen_ok, Instr.slice, hbd, Sem.run_pure, hsz]
  · refine .cown l sz (off + p.toNat) (q.toNat - p.toNat) g _ hg (by omega) (fun hpos => ?_)
    rw [if_neg (by omega), had (by omega)]
    simp [Addr.add_mid, Nat.add_mul]
theorem snd_ext1 (R : Rel F φ σ w) {y : Operand} {i : Nat} {vs : List Vv} {u : Vv} (ho : o.op = .extract y i) (hx : VR φ (Okb F φ σ w) w (.tup vs) (a.eval y)) (hu : vs[i]? = some u) : Res P F o a φ σ w u σ [] := by
  generalize hy : a.eval y = vy at hx
  cases hx with | tup _ cs us hl hus hd =>
  have hlt : i < vs.length := (List.getElem?_eq_some_iff.1 hu).1
  exact snd_val R (s := Instr.extract (.tuple cs) i) (by simp only [execOp, ho, hy]) (x := us i) (by simp only [Instr.extract, hus i hlt, Sem.run_pure]) (hd i u hu)
theorem snd_app (R : Rel F φ σ w) {t u e : TypeId} {y z : Operand} {sz bytes : Nat} (ho : o.op = .call { callee := .builtin .append, args := #[y, z], argTypes := #[t, u] }) (ht : P.underlying t = some (.slice e)) (hu : (∃ e', P.underlying u = some (.slice e')) ∨ P.underlying u = some .string)
    (hs : szOf P e = some sz) (hb : byOf P e = some bytes) (hp : 0 < sz) (hb0 : 0 < bytes) {zz : List Value} (hz : zeroOf P e = some zz) (hzl : zz.length = sz) {ys : List (List Dd)} {c : List Value} (N : News P F φ σ w sz (a.eval z) ys c) {vs : Vv} (hv : VR φ (Okb F φ σ w) w vs (a.eval y))
    {v : Vv} {σ' : Store} {mv : List Nat} (h : appV σ e sz bytes ys vs = some (v, σ', mv)) : Res P F o a φ σ w v σ' mv := by
  obtain ⟨i, zv, z1, z2, z3⟩ := zeroOf_spec hz
  have hsz : i.size = sz := by have := hs; unfold szOf at this; rw [z1] at this; simpa using this
  have hby : i.bytes = bytes := by have := hb; unfold byOf at this; rw [z1] at this; simpa using this
  have hzs : zv.cells.size = sz := by rw [← hzl, ← z3]; simp
  unfold appV at h
  split at h
  · split at h
    · rename_i hh
      cases h
      generalize hy : a.eval y = vy at hv
      cases hv with | one d vy hv => cases hv with | nil _ base =>
      obtain ⟨r, w', φ', k1, k2, k3, k4⟩ := app_new (P := P) R o.type ht hu z1 z2 hsz hzs hp (by omega) (base := base) N (by rw [hby]; exact hh.2)
      exact snd_ext (s := Builtin.append_ #[t, u] o.type #[.slice base 0 0, a.eval z]) (by rw [exec_builtin ho]; simp only [List.map_toArray, List.map_cons, List.map_nil, hy]; rfl) k1 (by simpa using k2) (by simpa using k3) (by simpa using k4)
    · cases h
  · split at h
    · rename_i l sz' off n _ e' sz'' kc xs hs'
      split at h
      · rename_i hh
        obtain ⟨rfl, rfl, rfl, rfl, h5, h6⟩ := hh
        cases h
        obtain ⟨r, w', φ', k1, k2, k3, k4⟩ := app_own (P := P) R o.type ht hu z1 z2 hsz hzs (by omega) hs' h5 hv N (by rw [hby]; exact h6)
        exact snd_ext (s := Builtin.append_ #[t, u] o.type #[a.eval y, a.eval z]) (by rw [exec_builtin ho]; simp only [List.map_toArray, List.map_cons, List.map_nil]; rfl) k1 (by simpa using k2) (by simpa using k3) (by simpa using k4)
      · cases h
    · cases h
  · split at h
    · rename_i l sz' off n _ e' sz'' kc xs hs'
      split at h
      · rename_i hh
        obtain ⟨rfl, rfl, rfl, h5, h7, h6⟩ := hh
        cases h
        obtain ⟨r, w', φ', k1, k2, k3, k4⟩ := app_cown (P := P) R o.type ht hu z1 z2 hsz hzs (by omega) hs' h5 hv N h7 (by rw [hby]; exact h6)
        exact snd_ext (s := Builtin.append_ #[t, u] o.type #[a.eval y, a.eval z]) (by rw [exec_builtin ho]; simp only [List.map_toArray, List.map_cons, List.map_nil]; rfl) k1 (by simpa using k2) (by simpa using k3) (by simpa using k4)
      · cases h
    · cases h
  · cases h
theorem snd_mkfn (R : Rel F φ σ w) {f : Nat} {first cs : Array Operand} {ds : List Dd} (ho : o.op = .makeFunc (.func f) first cs) (h0 : first.size = 0) (hc : CR φ (Okb F φ σ w) w ds (cs.toList.map a.eval)) : Res P F o a φ σ w (.one (.fn f ds)) σ [] := by
  have : first = #[] := by cases first; simpa using h0
  subst this
  refine snd_val R (s := Instr.makeFunc (.func f) #[] (cs.map a.eval)) (by simp only [execOp, ho, List.map_toArray, List.map_nil]) (x := .func (.func f) #[] (cs.map a.eval)) rfl (.one _ _ ?_)
  refine .fn f ds (cs.map a.eval) (fun i => ((cs.toList.map a.eval)[i]?).getD undef) (by have := hc.1; simpa using this) (fun i hi => ?_) (fun i d hd => ?_)
  · have hlt : i < cs.size := by have := hc.1; simp at this; omega
    simp [hlt]
  · have hlt : i < (cs.toList.map a.eval).length := by rw [hc.1]; exact (List.getElem?_eq_some_iff.1 hd).1
    rw [List.getElem?_eq_getElem hlt]
    exact hc.2 i d _ hd (List.getElem?_eq_getElem hlt)
theorem snd_mkmap (R : Rel F φ σ w) {t : TypeId} (ho : o.op = .makeMap t none) : Res P F o a φ σ w (.one (.mp σ.length)) (σ ++ [.map []]) [] := by
  have hrun : (execOp a.eval o).run P w = .ok (.value (.map (some w.heap.size))) (w.alloc (.map #[] 0)) := by
    simp only [execOp, ho, Option.map_none, Instr.makeMap]
    rfl
  refine Res.new R (.map []) ⟨w.heap.size, 0, true⟩ hrun (kept_alloc _ _) (fun b hb => by cases hb; exact Nat.le_refl _) (fun M => ?_) (.one _ _ (.mp _ _ (last_get φ _ _ R.len)))
  exact ⟨#[], 0, heap_alloc_new w _, rfl, fun i k v m hi => by simp at hi⟩
theorem snd_look (R : Rel F φ σ w) {t : TypeId} {y j : Operand} {ok' : Bool} (ho : o.op = .lookup t y j ok') {n : Int} (hk : a.eval j = .int .i64 n) {u : Value} {ok : Bool} {es : List (Pd × List Pd)} {zero : List Dd}
    (k1 : ∀ commaOk, (Instr.lookup t (a.eval y) (.int .i64 n) commaOk).run P w = .ok (if commaOk then .tuple #[u, .bool ok] else u) w)
    (k2 : match mapAt es n with | some x => ok = true ∧ VR φ (Okb F φ σ w) w (.agg (x.map .p)) u | Option.none => ok = false ∧ VR φ (Okb F φ σ w) w (.agg zero) u)
    {v : Vv} {σ' : Store} {mv : List Nat} (h : (match mapAt es n with
        | some v => some (if ok' then Vv.tup [.agg (v.map .p), b1 true] else .agg (v.map .p), σ, [])
        | Option.none => some (if ok' then .tup [.agg zero, b1 false] else .agg zero, σ, [])) = some (v, σ', mv)) : Res P F o a φ σ w v σ' mv := by
  have fin : ∀ (x : Vv) (q : Bool), ok = q → VR φ (Okb F φ σ w) w x u → Res P F o a φ σ w (if ok' then Vv.tup [x, b1 q] else x) σ [] := by
    intro x q hq hx
    subst hq
    refine snd_val R (by simp only [execOp, ho, hk]) (k1 ok') ?_
    cases ok' with
    | false => exact hx
    | true => exact .tup _ _ (fun i => if i = 0 then u else .bool ok) rfl (fun i hi => by
        match i, hi with
        | 0, _ => rfl
        | 1, _ => rfl) (fun i v hi => by
        match i with
        | 0 => simp at hi; subst hi; exact hx
        | 1 => simp at hi; subst hi; exact .b1 _
        | i + 2 => simp at hi)
  split at h
  · rename_i x hx
    rw [hx] at k2
    cases h
    exact fin _ true k2.1 k2.2
  · rename_i hx
    rw [hx] at k2
    cases h
    exact fin _ false k2.1 k2.2
theorem snd_mset (R : Rel F φ σ w) {t kt et : TypeId} {y j z : Operand} (ho : o.op = .mapUpdate t y j z) {l : Nat} (hx : VR φ (Okb F φ σ w) w (.one (.mp l)) (a.eval y)) {n : Int} (hk : a.eval j = .int .i64 n) {ds ds' : List Dd} (hval : VR φ (Okb F φ σ w) w (.agg ds) (a.eval z))
    {σ1 : Store} (hset : settle σ ds = some (ds', σ1)) {ps : List Pd} (hps : mapO (pureD σ1) ds' = some ps) {es : List (Pd × List Pd)} (hs : σ1[l]? = some (.map es)) (ht : P.underlying t = some (.map kt et)) (hkt : P.underlying kt = some (.int .i64)) :
    Res P F o a φ σ w .top (σ1.set l (.map (mapPut es n ps))) [] := by
  generalize hz : a.eval z = vz at hval
  cases hval with | agg _ cs hc =>
  obtain ⟨R1, C1, A1⟩ := settle_sound ds R hc hset
  obtain ⟨w', k1, k2, k3⟩ := mset_sound (P := P) R1 hs (hx.still A1.mono) ht hkt n (pure_cells R1 hps C1)
  refine ⟨undef, w', φ, .inr ⟨?_, rfl⟩, .top _, by simpa using k2, by simpa using A1.trans k3⟩
  simp only [execOp, ho, hk, hz, Sem.run_bind, k1, Result.andThen_ok, Sem.run_pure]
theorem snd_mdel (R : Rel F φ σ w) {t kt et : TypeId} {ts : List TypeId} {ats : Array TypeId} {y z : Operand} (ho : o.op = .call { callee := .builtin .delete, args := #[y, z], argTypes := ats }) (hat : ats.toList = t :: ts) {l : Nat} (hx : VR φ (Okb F φ σ w) w (.one (.mp l)) (a.eval y)) {n : Int}
    (hk : a.eval z = .int .i64 n) {es : List (Pd × List Pd)} (hs : σ[l]? = some (.map es)) (ht : P.underlying t = some (.map kt et)) (hkt : P.underlying kt = some (.int .i64)) : Res P F o a φ σ w (.tup []) (σ.set l (.map (mapDel es n))) [] := by
  have : ats = (t :: ts).toArray := by cases ats; simp at hat; simp [hat]
  subst this
  obtain ⟨w', k1, k2, k3⟩ := mdel_sound (P := P) R hs hx (ty := o.type) (ts := ts) ht hkt n
  refine snd_ext (φ' := φ) (s := Builtin.delete_ (t :: ts).toArray o.type #[a.eval y, .int .i64 n]) (by rw [exec_builtin ho]; simp only [List.map_toArray, List.map_cons, List.map_nil, hk]; rfl) k1 ?_ (by simpa using k2) (by simpa using k3)
  exact .tup [] #[] (fun _ => undef) rfl (fun i hi => by simp at hi) (fun i v hi => by simp at hi)

set_option maxHeartbeats 1000000 in
theorem step_sound {i : In} (R : Rel F φ σ w) (E : ER φ (Okb F φ σ w) w en a.tmps) (hm : mI P i o.op = true) {v : Vv} {σ' : Store} {mv : List Nat} (h : stepv i (ev en) σ = some (v, σ', mv)) : Res P F o a φ σ w v σ' mv := by
  have hv : ∀ x o, mO x o = true → VR φ (Okb F φ σ w) w (ev en x) (a.eval o) := fun x o => mO_sound E
  unfold mI at hm
  split at hm
  all_goals (try (rename_i ho; simp only [stepv] at h))
  all_goals (try simp only [Bool.and_eq_true, beq_iff_eq, decide_eq_true_eq] at hm)
  case h_1 =>
    cases h
    exact Res.same R (by simp only [execOp, ho, Sem.run_pure]) (hv _ _ hm)
  case h_2 =>
    cases h
    exact Res.same R (by simp only [execOp, ho, Sem.run_pure]) (hv _ _ hm)
  case h_3 =>
    split at h
    · rename_i q hq
      cases h
      obtain ⟨⟨m1, m2⟩, m3⟩ := hm
      have hc := hv _ _ m1
      rw [hq] at hc
      exact snd_pick R ho hc.bool (hv _ _ m2) (hv _ _ m3)
    · cases h
  case h_4 =>
    cases h
    split at hm
    · rename_i z hz; exact snd_alloc R ho ⟨z, hz, hm⟩
    · cases hm
  case h_5 =>
    split at h
    · rename_i ds hds; cases h; exact snd_box R E ho hm hds
    · cases h
  case h_6 =>
    split at h
    · rename_i ds hds
      cases h
      obtain ⟨⟨m1, m2⟩, m3⟩ := hm
      split at m1
      · rename_i z hz
        split at m3
        · rename_i fs hu
          obtain ⟨r, k1, k2⟩ := run_build (P := P) (w := w) hv hds hz m1 m2 hu (fun f hf => Array.all_eq_true_iff_forall_mem.1 m3 f hf)
          exact snd_val R (by simp only [execOp, ho]) k1 k2
        · cases m3
      · cases m1
    · cases h
  case h_7 =>
    split at h
    · rename_i xs σ1 hx
      cases h
      obtain ⟨⟨⟨⟨⟨⟨m1, m2⟩, m3⟩, m4⟩, m5⟩, m6⟩, m7⟩ := hm
      split at m7
      · rename_i z hz
        exact snd_bslice R hv (sliceOf_spec m1) m2 m3 m4 m5 m6 hz (by simpa using m7) hx ho
      · cases m7
    · cases h
  case h_8 =>
    split at h
    · rename_i u hu
      cases h
      obtain ⟨⟨m1, m2⟩, m3⟩ := hm
      exact snd_load R E ho m1 m2 m3 hu
    · cases h
  case h_9 =>
    split at h
    · rename_i σ1 hs
      cases h
      obtain ⟨⟨m1, m2⟩, m3⟩ := hm
      obtain ⟨w', k1, k2, k3⟩ := storeV_sound (P := P) R hs (hv _ _ m1) (hv _ _ m2) m3
      refine ⟨undef, w', φ, .inr ⟨?_, rfl⟩, .top _, by simpa using k2, by simpa using k3⟩
      simp only [execOp, ho, Sem.run_bind, k1, Result.andThen_ok, Sem.run_pure]
    · cases h
  case h_10 =>
    split at h
    · rename_i l off hx
      cases h
      have := hv _ _ hm
      rw [hx] at this
      exact snd_nilck R ho this (.inl ⟨_, _, rfl⟩)
    · rename_i cs hx
      cases h
      have := hv _ _ hm
      rw [hx] at this
      exact snd_nilck R ho this (.inr (.inl ⟨_, rfl⟩))
    · rename_i l sz i j hx
      cases h
      have := hv _ _ hm
      rw [hx] at this
      exact snd_nilck R ho this (.inr (.inr ⟨_, _, _, _, rfl⟩))
    · cases h
  case h_11 =>
    split at h
    · rename_i u hu
      cases h
      obtain ⟨⟨⟨rfl, m2⟩, m3⟩, m4⟩ := hm
      exact snd_bin R ho hu m4 (hv _ _ m2) (hv _ _ m3)
    · cases h
  case h_12 =>
    split at h
    · rename_i as bs ha hb
      split at h
      · rename_i q hq
        cases h
        obtain ⟨⟨⟨rfl, m2⟩, m3⟩, m4⟩ := hm
        have h1 := hv _ _ m2
        have h2 := hv _ _ m3
        rw [ha] at h1
        rw [hb] at h2
        exact snd_eqs R ho hq m4 h1 h2
      · cases h
    · cases h
  case h_13 =>
    split at h
    · rename_i u hu
      cases h
      obtain ⟨rfl, m2⟩ := hm
      obtain ⟨r, k1, k2⟩ := run_unV (P := P) (w := w) hu (hv _ _ m2)
      exact snd_val R (by simp only [execOp, ho]) k1 k2
    · cases h
  case h_14 =>
    split at h
    · rename_i k' n hx
      cases h
      obtain ⟨⟨m1, m2⟩, m3⟩ := hm
      have := hv _ _ m1
      rw [hx] at this
      have hd := intOf_spec m2
      obtain ⟨ds, hs⟩ := Option.isSome_iff_exists.1 m3
      refine snd_val R (by simp only [execOp, ho]; rfl) (x := .int _ (IntKind.wrap _ n)) ?_ (.intk _ _)
      rw [this.int]
      simp only [convert, Sem.run_bind, run_underlying hs, run_underlying hd, Result.andThen_ok, Conv.intToInt, Sem.run_pure]
    · cases h
  case h_15 =>
    split at h
    · rename_i s hx
      cases h
      obtain ⟨⟨m1, m2⟩, m3⟩ := hm
      have := hv _ _ m1
      rw [hx] at this
      refine snd_val R (by simp only [execOp, ho]; rfl) (x := a.eval _) ?_ this
      rw [this.str]
      simp only [convert, Sem.run_bind, run_underlying (isStr_spec m3), run_underlying (isStr_spec m2), Result.andThen_ok, Sem.run_pure]
    · cases h
  case h_16 =>
    split at h
    · rename_i s hx
      cases h
      obtain ⟨⟨m1, m2⟩, m3⟩ := hm
      split at m3
      · rename_i e he
        have := hv _ _ m1
        rw [hx] at this
        obtain ⟨r, w', k1, k2, k3, k4⟩ := run_s2b (P := P) R (s := s) (isStr_spec m2) (sliceOf_spec he) (intOf_spec (by simpa using m3))
        rw [← this.str] at k1
        exact snd_ext (φ' := φ) (by simp only [execOp, ho]) k1 (by simpa using k2) (by simpa using k3) (by simpa using k4)
      · cases m3
    · cases h
  case h_17 =>
    split at h
    · rename_i xs hxs
      split at h
      · rename_i s hs
        cases h
        obtain ⟨⟨m1, m2⟩, m3⟩ := hm
        split at m3
        · rename_i e he
          have := run_b2s (P := P) R hxs hs (hv _ _ m1) (sliceOf_spec he) (intOf_spec (by simpa using m3)) (isStr_spec m2)
          exact snd_val R (by simp only [execOp, ho]) this (.one _ _ (.p _ _ (.str _)))
        · cases m3
      · cases h
    · cases h
  case h_18 =>
    split at h
    · rename_i u hu
      cases h
      obtain ⟨m1, m2⟩ := hm
      split at m2
      · rename_i off' ft hf
        simp only [Bool.and_eq_true, beq_iff_eq] at m2
        obtain ⟨rfl, m3⟩ := m2
        split at m3
        · rename_i n hn
          obtain ⟨r, k1, k2⟩ := run_faddr (P := P) (w := w) hu hf hn (by simpa using m3) (hv _ _ m1)
          exact snd_val R (by simp only [execOp, ho]) k1 k2
        · cases m3
      · cases m2
    · cases h
  case h_19 =>
    split at h
    · rename_i ds hds
      split at h
      · rename_i hle
        split at h
        · rename_i u hu
          cases h
          obtain ⟨m1, m2⟩ := hm
          split at m2
          · rename_i off' ft hf
            simp only [Bool.and_eq_true, beq_iff_eq, Bool.or_eq_true] at m2
            obtain ⟨⟨⟨rfl, m3⟩, m4⟩, m5⟩ := m2
            have := hv _ _ m1
            rw [hds] at this
            obtain ⟨r, k1, k2⟩ := run_field (P := P) (w := w) hle hu hf m3 m4 m5 this
            exact snd_val R (by simp only [execOp, ho]) k1 k2
          · cases m2
        · cases h
      · cases h
    · cases h
  case h_20 =>
    split at h
    · rename_i n hn
      split at h
      · rename_i u hu
        cases h
        obtain ⟨⟨m1, m2⟩, m3⟩ := hm
        split at m3
        · rename_i e he
          obtain ⟨k, hk⟩ := asI_spec (hv _ _ m2) hn
          obtain ⟨r, k1, k2⟩ := run_iaddr (P := P) (w := w) hu (sliceOf_spec he) (by simpa using m3) (hv _ _ m1) hk
          exact snd_val R (by simp only [execOp, ho]) k1 k2
        · cases m3
      · cases h
    · cases h
  case h_21 =>
    split at h
    · rename_i n l off hn hx
      split at h
      · rename_i hh
        cases h
        obtain ⟨⟨m1, m2⟩, m3⟩ := hm
        split at m3
        · rename_i n' e he
          simp only [Bool.and_eq_true, beq_iff_eq] at m3
          obtain ⟨rfl, m4⟩ := m3
          obtain ⟨k, hk⟩ := asI_spec (hv _ _ m2) hn
          have := hv _ _ m1
          rw [hx] at this
          obtain ⟨g, hg, e1⟩ := vr_ptr this
          refine snd_val R (by simp only [execOp, ho]; rfl) (x := .pointer (some ⟨g.b, off + n.toNat * _, none⟩)) ?_ (.one _ _ (.ptr _ _ _ hg))
          rw [e1, hk]
          have hsz := szOf_run m4 w
          simp [Instr.indexAt, asIntOf, run_underlying (arrOf_spec he), hsz, hh.1, hh.2, Instr.sureAddr, Addr.add_mid]
        · cases m3
      · cases h
    · cases h
  case h_22 =>
    split at h
    · rename_i n s hn hx
      split at h
      · rename_i h0
        split at h
        · rename_i b hb
          cases h
          obtain ⟨⟨m1, m2⟩, m3⟩ := hm
          obtain ⟨k, hk⟩ := asI_spec (hv _ _ m2) hn
          have := hv _ _ m1
          rw [hx] at this
          refine snd_val R (by simp only [execOp, ho]; rfl) ?_ (.intk _ _)
          rw [this.str, hk]; exact run_sidx h0 hb (isStr_spec m3)
        · cases h
      · cases h
    · cases h
  case h_23 =>
    split at h
    · rename_i s hx
      split at h
      · rename_i p q hp hq
        split at h
        · rename_i hh
          cases h
          obtain ⟨⟨⟨m1, m2⟩, m3⟩, m4⟩ := hm
          have := hv _ _ m1
          rw [hx] at this
          have k1 := run_ssub (P := P) (w := w) (s := s) (mOpt hv hp m2) (mOpt hv hq m3) hh.1 hh.2.1 hh.2.2 (isStr_spec m4)
          refine snd_val R (by simp only [execOp, ho, Option.map_none]; rfl) ?_ (.one _ _ (.p _ _ (.str _)))
          rw [this.str]; exact k1
        · cases h
      · cases h
    · cases h
  case h_24 =>
    split at h
    · rename_i n hn
      split at h
      · rename_i p q hp hq
        split at h
        · rename_i u hu
          cases h
          obtain ⟨⟨⟨m1, m2⟩, m3⟩, m4⟩ := hm
          split at m4
          · rename_i e he
            obtain ⟨r, k1, k2⟩ := run_slc (P := P) (w := w) hn hu (mOpt hv hp m2) (mOpt hv hq m3) (sliceOf_spec he) (by simpa using m4) (hv _ _ m1)
            exact snd_val R (by simp only [execOp, ho, Option.map_none]) k1 k2
          · cases m4
        · cases h
      · cases h
    · cases h
  case h_25 =>
    split at h
    · rename_i p q c l sz' off len hp hq hc hx
      split at h
      · rename_i hh
        cases h
        obtain ⟨⟨⟨⟨m1, m2⟩, m3⟩, m4⟩, m5⟩ := hm
        obtain ⟨rfl, h0, h1, h2, h3⟩ := hh
        split at m5
        · rename_i e he
          have := hv _ _ m1
          rw [hx] at this
          exact snd_slc3 R ho (mOpt hv hp m2) (asI_spec (hv _ _ m3) hq) (asI_spec (hv _ _ m4) hc) this h0 h1 h2 h3 (sliceOf_spec he) (by simpa using m5)
        · cases m5
      · cases h
    · cases h
  case h_26 =>
    split at h
    · rename_i vs hx
      split at h
      · rename_i u hu
        cases h
        obtain ⟨m1, rfl⟩ := hm
        have := hv _ _ m1
        rw [hx] at this
        exact snd_ext1 R ho this hu
      · cases h
    · cases h
  case h_27 =>
    split at hm
    · rename_i y t e1 e2
      have e1 := one e1
      have e2 := one e2
      subst e1 e2
      simp only [Bool.and_eq_true] at hm
      obtain ⟨m1, m2⟩ := hm
      split at h
      · rename_i hst
        rw [if_pos hst] at m2
        split at h
        · rename_i s hx
          cases h
          have := hv _ _ m1
          rw [hx] at this
          have k := run_slen (P := P) (w := w) (s := s) (ty := o.type) (isStr_spec m2)
          rw [← this.str] at k
          exact snd_val R (by rw [exec_builtin ho]; simp only [List.map_toArray, List.map_cons, List.map_nil]; rfl) k (.i1 _)
        · cases h
      · rename_i hst
        rw [if_neg hst] at m2
        split at h
        · rename_i n hn
          cases h
          obtain ⟨e, he⟩ := Option.isSome_iff_exists.1 m2
          have k := run_len (P := P) (w := w) hn (ty := o.type) (sliceOf_spec he) (hv _ _ m1)
          exact snd_val R (by rw [exec_builtin ho]; simp only [List.map_toArray, List.map_cons, List.map_nil]; rfl) k (.i1 _)
        · cases h
    · cases hm
  case h_28 =>
    split at hm
    · rename_i y z t u e1 e2
      have e1 := two e1
      have e2 := two e2
      subst e1 e2
      simp only [Bool.and_eq_true, beq_iff_eq, decide_eq_true_eq] at hm
      obtain ⟨⟨⟨⟨⟨⟨⟨⟨m1, m2⟩, m3⟩, m4⟩, m5⟩, m6⟩, m7⟩, m8⟩, m9⟩ := hm
      split at m9
      · rename_i zz hz
        obtain ⟨u', hu'⟩ := Option.isSome_iff_exists.1 m4
        split at h
        · rename_i ys hys
          obtain ⟨c, N⟩ := news_slice (P := P) R hys (hv _ _ m2)
          exact snd_app R ho (sliceOf_spec m3) (.inl ⟨_, sliceOf_spec hu'⟩) m5 m6 m7 m8 hz (by simpa using m9) N (hv _ _ m1) h
        · cases h
      · cases m9
    · cases hm
  case h_29 =>
    split at hm
    · rename_i y z t u e1 e2
      have e1 := two e1
      have e2 := two e2
      subst e1 e2
      simp only [Bool.and_eq_true, beq_iff_eq, decide_eq_true_eq] at hm
      obtain ⟨⟨⟨⟨⟨⟨m1, m2⟩, m3⟩, m4⟩, m5⟩, m6⟩, m9⟩ := hm
      split at m9
      · rename_i zz hz
        split at h
        · rename_i s hx
          have := hv _ _ m2
          rw [hx] at this
          have N := news_string (F := F) (P := P) (φ := φ) (σ := σ) (w := w) (e := 0) (u := 0) s
          rw [← this.str] at N
          exact snd_app R ho (sliceOf_spec m3) (.inr (isStr_spec m4)) m5 m6 (by decide) (by decide) hz (by simpa using m9) N (hv _ _ m1) h
        · cases h
      · cases m9
    · cases hm
  case h_30 =>
    split at h
    · rename_i k hk
      split at h
      · rename_i hh
        cases h
        obtain ⟨⟨⟨⟨⟨⟨m1, m2⟩, m3⟩, m4⟩, m5⟩, m6⟩, m7⟩ := hm
        obtain ⟨k1, hk1⟩ := asI_spec (hv _ _ m1) hk
        obtain ⟨k2, hk2⟩ := asI_spec (hv _ _ m2) hk
        unfold zeroOne at m7
        split at m7
        · rename_i kk nn hz
          exact mksl_sound (k := k1) (k' := k2) R (sliceOf_spec m3) m4 m5 hz rfl m7 hh.1 hh.2 m6 (by simp only [execOp, ho, hk1, hk2])
        · cases m7
      · cases h
    · cases h
  case h_31 =>
    split at h
    · rename_i ds hds
      cases h
      obtain ⟨⟨rfl, m2⟩, m3⟩ := hm
      exact snd_mkfn R ho m2 (caps_sound _ _ _ hv m3 hds)
    · cases h
  case h_32 =>
    cases h
    exact snd_mkmap R ho
  case h_33 =>
    obtain ⟨⟨⟨m1, m2⟩, rfl⟩, m4⟩ := hm
    split at m4
    · rename_i kt et he
      simp only [Bool.and_eq_true, beq_iff_eq] at m4
      obtain ⟨⟨⟨m5, m6⟩, m7⟩, m8⟩ := m4
      split at m6
      · rename_i z hz
        split at h
        · rename_i l n hx hn
          split at h
          · rename_i es hs
            have hmv := hv _ _ m1
            rw [hx] at hmv
            obtain ⟨u, ok, k1, k2⟩ := look_sound (P := P) R hs hmv (mapOf_spec he) (intOf_spec m5) hz m6 m8 (fun i v hi hv => by
              unfold zeroAgg at m7
              rw [hi] at m7
              simp only [Option.bind_some, hv] at m7
              split at m7
              · rename_i c hc; cases hc; exact ⟨_, rfl⟩
              · cases m7) n
            have hk := asI64_spec (hv _ _ m2) hn
            exact snd_look R ho hk k1 k2 h
          · cases h
        · cases h
      · cases m6
    · cases m4
  case h_34 =>
    obtain ⟨⟨⟨m1, m2⟩, m3⟩, m4⟩ := hm
    split at m4
    · rename_i kt et he
      split at h
      · rename_i l n ds hx hn hds
        split at h
        · rename_i ds' σ1 hset
          split at h
          · rename_i ps es hps hs
            cases h
            have hmv := hv _ _ m1
            rw [hx] at hmv
            have hk := asI64_spec (hv _ _ m2) hn
            have hval := hv _ _ m3
            rw [hds] at hval
            exact snd_mset R ho hmv hk hval hset hps hs (mapOf_spec he) (intOf_spec (by simpa using m4))
          · cases h
        · cases h
      · cases h
    · cases m4
  case h_35 =>
    split at hm
    · rename_i y z t ts e1 e2
      have e1 := two e1
      subst e1
      simp only [Bool.and_eq_true] at hm
      obtain ⟨⟨m1, m2⟩, m3⟩ := hm
      split at m3
      · rename_i kt et he
        split at h
        · rename_i l n hx hn
          split at h
          · rename_i es hs
            cases h
            have hmv := hv _ _ m1
            rw [hx] at hmv
            have hk := asI64_spec (hv _ _ m2) hn
            exact snd_mdel R ho e2 hmv hk hs (mapOf_spec he) (intOf_spec (by simpa using m3))
          · cases h
        · cases h
      · cases m3
    · cases hm
  case h_36 =>
    split at h
    · rename_i x ns hns
      cases h
      obtain ⟨m1, m2⟩ := hm
      have k := run_mm (a := a) _ _ _ hv m2 hns
      split at m1
      · rename_i mx xs args ats b _
        subst m1
        have := run_maxmin (P := P) (w := w) true o.type x ns (args.map a.eval) (by rw [Array.toList_map]; exact k) ats
        exact snd_val R (s := Builtin.max_ ats o.type (args.map a.eval)) (by rw [exec_builtin ho]; rfl) this (.i1 _)
      · rename_i mx xs args ats b _
        have m1' : mx = false := by simpa using m1
        subst m1'
        have := run_maxmin (P := P) (w := w) false o.type x ns (args.map a.eval) (by rw [Array.toList_map]; exact k) ats
        exact snd_val R (s := Builtin.min_ ats o.type (args.map a.eval)) (by rw [exec_builtin ho]; rfl) this (.i1 _)
      · cases m1
    · cases h
  all_goals (first | (cases h; done) | (cases hm; done))
end
end Go.Proofs.Dl

/- A logic of plain data over the model, proved sound: part F10; conditions stand in each theorem. -/
import Derived.Test.YtajaolmagnldaaaDlF9
set_option linter.unusedVariables false
namespace Go.Proofs.Dl
variable {F : Nat → Prop}
section
variable {P : Program} {φ : List G} {σ : Store} {w : World}

/-! ## maps -/
/-- Entries as told. -/
def ER' (φ : List G) (ok : Nat → Prop) (w : World) (es : List (Pd × List Pd)) (en : List MapEntry) : Prop :=
  en.length = es.length ∧ ∀ (i : Nat) (k : Pd) (v : List Pd) (m : MapEntry), es[i]? = some (k, v) → en[i]? = some m → (∃ n, k = .int .i64 n) ∧ PR ok w k m.key ∧ ∃ cs : Array Value, m.val = .agg cs ∧ CR φ ok w (v.map .p) cs.toList

theorem ER'.tail {ok : Nat → Prop} {x : Pd × List Pd} {m : MapEntry} {es : List (Pd × List Pd)} {en : List MapEntry} (h : ER' φ ok w (x :: es) (m :: en)) : ER' φ ok w es en :=
  ⟨by simpa using h.1, fun i k v m' h1 h2 => h.2 (i + 1) k v m' (by simpa using h1) (by simpa using h2)⟩
theorem ER'.head {ok : Nat → Prop} {k : Pd} {v : List Pd} {m : MapEntry} {es : List (Pd × List Pd)} {en : List MapEntry} (h : ER' φ ok w ((k, v) :: es) (m :: en)) : ∃ n, k = .int .i64 n ∧ m.key = .int .i64 n ∧ ∃ cs : Array Value, m.val = .agg cs ∧ CR φ ok w (v.map .p) cs.toList := by
  obtain ⟨⟨n, rfl⟩, h2, h3⟩ := h.2 0 k v m rfl rfl
  cases hk : m.key <;> rw [hk] at h2 <;> cases h2
  exact ⟨n, rfl, rfl, h3⟩

theorem find_map {ok : Nat → Prop} {kd : IntKind} (n : Int) : ∀ (es : List (Pd × List Pd)) (en : List MapEntry) (j : Nat), ER' φ ok w es en →
    match mapAt es n with
    | Option.none => Instr.findNow (.int kd) (.int .i64 n) en j = some Option.none ∧ (∀ v', mapPut es n v' = es ++ [(.int .i64 n, v')]) ∧ mapDel es n = es
    | some v => ∃ (i : Nat) (m : MapEntry), en[i]? = some m ∧ es[i]? = some (.int .i64 n, v) ∧ m.key = .int .i64 n ∧ Instr.findNow (.int kd) (.int .i64 n) en j = some (some (j + i, m.val)) ∧ (∀ v', mapPut es n v' = es.set i (.int .i64 n, v')) ∧ mapDel es n = es.eraseIdx i
  | [], en, j, h => by
    have : en = [] := List.eq_nil_of_length_eq_zero (by simpa using h.1)
    subst this
    simp [mapAt, Instr.findNow, mapPut, mapDel]
  | (k, v) :: es, [], j, h => absurd h.1 (by simp)
  | (k, v) :: es, m :: en, j, h => by
    obtain ⟨q, rfl, hk, hv⟩ := h.head
    have ih := find_map (kd := kd) n es en (j + 1) h.tail
    by_cases e : q = n
    · subst e
      simp only [mapAt, if_true, mapPut, mapDel]
      exact ⟨0, m, rfl, rfl, hk, by simp [Instr.findNow, Instr.sameNow, hk], fun v' => rfl, rfl⟩
    · have e' : (n == q) = false := by simpa using (fun h => e h.symm)
      have fn : Instr.findNow (.int kd) (.int .i64 n) (m :: en) j = Instr.findNow (.int kd) (.int .i64 n) en (j + 1) := by
        simp [Instr.findNow, Instr.sameNow, hk, e']
      simp only [mapAt, if_neg e]
      split at ih
      · rename_i hn
        refine ⟨fn.trans ih.1, fun v' => ?_, ?_⟩
        · simp [mapPut, e, ih.2.1 v']
        · simp [mapDel, e, ih.2.2]
      · rename_i v0 hn
        obtain ⟨i, m0, h1, h2, h3, h4, h5, h6⟩ := ih
        refine ⟨i + 1, m0, by simpa using h1, by simpa using h2, h3, fn.trans ?_, fun v' => ?_, ?_⟩
        · rw [h4]; congr 3; omega
        · simp [mapPut, e, h5 v']
        · simp [mapDel, e, h6]

theorem run_findKey {kt : TypeId} (hk : P.underlying kt = some (.int .i64)) (n : Int) {en : List MapEntry} {r : Option (Nat × Value)} (h : Instr.findNow (.int .i64) (.int .i64 n) en 0 = some r) : (Instr.findKey kt (.int .i64 n) en).run P w = .ok r w := by
  simp only [Instr.findKey, Sem.run_bind, run_underlying hk, Result.andThen_ok, h, Sem.run_pure]
theorem run_checkKey {kt : TypeId} (hk : P.underlying kt = some (.int .i64)) (b : Bool) (n : Int) : (Instr.checkKey b 10000 kt (.int .i64 n)).run P w = .ok () w := by
  rw [show (10000 : Nat) = 9999 + 1 from rfl, Instr.checkKey]
  simp only [Sem.run_bind, run_underlying hk, Result.andThen_ok, Sem.run_pure]
theorem run_getMap {b : Nat} {en : Array MapEntry} {c : Nat} (h : w.heap[b]? = some (.map en c)) : (getObj b).run P w = .ok (.map en c) w := by
  simp only [getObj, Sem.run, h]
def World.putObj (w : World) (b : Nat) (o : Obj) : World := { w with heap := w.heap.setIfInBounds b o }
theorem run_setMap {b : Nat} {en : Array MapEntry} {c : Nat} (h : w.heap[b]? = some (.map en c)) (o : Obj) : (setObj b o).run P w = .ok () (World.putObj w b o) := by
  simp only [setObj, Sem.run, h, World.putObj]
theorem kept_putObj (w : World) (b : Nat) (o : Obj) : Kept (fun x => x = b) w (World.putObj w b o) :=
  ⟨rfl, rfl, rfl, by simp [World.putObj], fun x hx hn => by simp [World.putObj, Array.getElem?_setIfInBounds_ne (Ne.symm hn)]⟩
theorem putObj_get {b : Nat} {o o' : Obj} (h : w.heap[b]? = some o') : (World.putObj w b o).heap[b]? = some o := by
  simp [World.putObj, (Array.getElem?_eq_some_iff.1 h).1]

theorem look_sound (R : Rel F φ σ w) {l : Nat} {es : List (Pd × List Pd)} (hs : σ[l]? = some (.map es)) {m : Value} (hm : VR φ (Okb F φ σ w) w (.one (.mp l)) m) {t kt et : TypeId} (ht : P.underlying t = some (.map kt et)) (hk : P.underlying kt = some (.int .i64))
    {z : List Value} {zero : List Dd} (hz : zeroOf P et = some z) (hzz : mDs zero z = true) (hag : aggOf P et = some true) (hza : ∀ i v, P.info? et = some i → i.zero = some v → ∃ c, v = .agg c) (n : Int) :
    ∃ v ok, (∀ commaOk, (Instr.lookup t m (.int .i64 n) commaOk).run P w = .ok (if commaOk then .tuple #[v, .bool ok] else v) w) ∧
      (match mapAt es n with | some x => ok = true ∧ VR φ (Okb F φ σ w) w (.agg (x.map .p)) v | Option.none => ok = false ∧ VR φ (Okb F φ σ w) w (.agg zero) v) := by
  obtain ⟨g, ⟨hg, hon⟩, rfl⟩ := vr_mp hm
  obtain ⟨en, cl, h1, h2, h3⟩ := R.obj l _ g hs hg
  have hE : ER' φ (Okb F φ σ w) w es en.toList := ⟨by simpa using h2, fun i k v m a b => h3 i k v m a (by simpa using b)⟩
  have hf := find_map (kd := .i64) n es en.toList 0 hE
  have head : ∀ (r : Option (Nat × Value)), Instr.findNow (.int .i64) (.int .i64 n) en.toList 0 = some r → ∀ commaOk, (Instr.lookup t (.map (some g.b)) (.int .i64 n) commaOk).run P w =
      (match r with | some (_, v) => .ok (if commaOk then .tuple #[v, .bool true] else v) w | Option.none => ((zeroValue et).run P w).andThen fun v w' => .ok (if commaOk then .tuple #[v, .bool false] else v) w') := by
    intro r hr commaOk
    have k1 := run_findKey (w := w) hk n hr
    have k2 := fun b => run_checkKey (P := P) (w := w) hk b n
    simp only [Instr.lookup, Sem.run_bind, run_underlying ht, Result.andThen_ok, run_getMap h1, Sem.run_pure, k2, k1]
    cases r with
    | none => simp only [Sem.run_bind, Sem.run_pure]; cases (zeroValue et).run P w <;> rfl
    | some x => rfl
  split at hf
  · rename_i hn
    rw [hn]
    obtain ⟨zi, zv, z1, z2, z3⟩ := zeroOf_spec hz
    obtain ⟨zc, rfl⟩ := hza zi zv z1 z2
    refine ⟨.agg zc, false, fun commaOk => ?_, rfl, .agg _ _ ?_⟩
    · rw [head _ hf.1 commaOk]
      simp [zeroValue, typeInfo, z1, z2]
    · have : zc.toList = z := z3
      rw [this]; exact mDs_sound hzz
  · rename_i v hn
    rw [hn]
    obtain ⟨i, m0, k1, k2, k3, k4, k5, k6⟩ := hf
    obtain ⟨_, _, cs, c1, c2⟩ := hE.2 i _ v m0 k2 k1
    refine ⟨m0.val, true, fun commaOk => by rw [head _ k4 commaOk], rfl, ?_⟩
    rw [c1]; exact .agg _ _ c2

theorem pure_cells (R : Rel F φ σ w) {ds : List Dd} {ps : List Pd} {cs : List Value} (h : mapO (pureD σ) ds = some ps) (hc : CR φ (Okb F φ σ w) w ds cs) : CR φ (Okb F φ σ w) w (ps.map .p) cs := by
  obtain ⟨k1, k2⟩ := mapO_at h
  refine CR.pure (by rw [hc.1, k1]) (fun i c v hi hv => ?_)
  have hlt : i < ds.length := by rw [← k1]; exact (List.getElem?_eq_some_iff.1 hi).1
  obtain ⟨b, hb, hf⟩ := k2 i ds[i] (List.getElem?_eq_getElem hlt)
  rw [hi] at hb; cases hb
  exact pureD_sound R (hc.2 i _ v (List.getElem?_eq_getElem hlt) hv) hf

theorem mset_sound (R : Rel F φ σ w) {l : Nat} {es : List (Pd × List Pd)} (hs : σ[l]? = some (.map es)) {m : Value} (hm : VR φ (Okb F φ σ w) w (.one (.mp l)) m) {t kt et : TypeId} (ht : P.underlying t = some (.map kt et)) (hk : P.underlying kt = some (.int .i64))
    (n : Int) {ps : List Pd} {cs : Array Value} (hc : CR φ (Okb F φ σ w) w (ps.map .p) cs.toList) :
    ∃ w', (Instr.mapUpdate t m (.int .i64 n) (.agg cs)).run P w = .ok () w' ∧ Rel F φ (σ.set l (.map (mapPut es n ps))) w' ∧ Adv [] φ σ w φ (σ.set l (.map (mapPut es n ps))) w' := by
  obtain ⟨g, ⟨hg, hon⟩, rfl⟩ := vr_mp hm
  obtain ⟨en, cl, h1, h2, h3⟩ := R.obj l _ g hs hg
  have hE : ER' φ (Okb F φ σ w) w es en.toList := ⟨by simpa using h2, fun i k v m a b => h3 i k v m a (by simpa using b)⟩
  have hf := find_map (kd := .i64) n es en.toList 0 hE
  have fin : ∀ (en' : Array MapEntry) (cl' : Nat), (Instr.mapUpdate t (.map (some g.b)) (.int .i64 n) (.agg cs)).run P w = .ok () (World.putObj w g.b (.map en' cl')) → ER' φ (Okb F φ σ w) w (mapPut es n ps) en'.toList →
      ∃ w', (Instr.mapUpdate t (.map (some g.b)) (.int .i64 n) (.agg cs)).run P w = .ok () w' ∧ Rel F φ (σ.set l (.map (mapPut es n ps))) w' ∧ Adv [] φ σ w φ (σ.set l (.map (mapPut es n ps))) w' := by
    intro en' cl' hr hE'
    have key := R.upd (w' := World.putObj w g.b (.map en' cl')) [] l _ (.map (mapPut es n ps)) g g hs hg (.inr (.inl rfl)) (by simp)
      (by have k := kept_putObj w g.b (.map en' cl'); exact ⟨k.os, k.tape, k.output, k.size, fun b hb hn => k.block b hb (fun q => hn q.symm)⟩) (fun b hb => .inl hb) (fun M => by
        rw [obkill_nil]
        rw [set_self hg] at M ⊢
        refine ⟨en', cl', putObj_get h1, by simpa using hE'.1, fun i k v m a b => ?_⟩
        obtain ⟨x1, x2, c, x3, x4⟩ := hE'.2 i k v m a (by simpa using b)
        exact ⟨x1, x2.mono M.okb, c, x3, x4.still M⟩)
    rw [set_self hg, killS_nil] at key
    exact ⟨_, hr, key⟩
  have k2 := fun b => run_checkKey (P := P) (w := w) hk b n
  split at hf
  · rename_i hn
    have k1 := run_findKey (w := w) hk n hf.1
    refine fin (en.push { key := .int .i64 n, val := .agg cs, born := cl }) (cl + 1) ?_ ?_
    · simp only [Instr.mapUpdate, Sem.run_bind, run_underlying ht, Result.andThen_ok, run_getMap h1, k2, k1, run_setMap h1]
    · rw [hf.2.1 ps]
      refine ⟨by simp [h2], fun i k v m a b => ?_⟩
      simp only [Array.toList_push] at b
      rcases Nat.lt_or_ge i es.length with hlt | hge
      · rw [List.getElem?_append_left hlt] at a
        rw [List.getElem?_append_left (by simpa [h2] using hlt)] at b
        exact hE.2 i k v m a b
      · rw [List.getElem?_append_right hge] at a
        rw [List.getElem?_append_right (by simpa [h2] using hge)] at b
        have e : en.toList.length = es.length := by simpa using h2
        rw [e] at b
        cases hi : i - es.length with
        | zero =>
          rw [hi] at a b
          simp at a b
          obtain ⟨rfl, rfl⟩ := a
          subst b
          exact ⟨⟨n, rfl⟩, .int _ _, cs, rfl, hc⟩
        | succ q => rw [hi] at a; simp at a
  · rename_i v0 hn
    obtain ⟨i0, m0, q1, q2, q3, q4, q5, q6⟩ := hf
    simp only [Nat.zero_add] at q4
    have k1 := run_findKey (w := w) hk n q4
    have hget : en[i0]? = some m0 := by simpa using q1
    refine fin (en.modify i0 fun e => { e with key := .int .i64 n, val := .agg cs }) cl ?_ ?_
    · have hst : (Instr.keyThatStays (.int .i64 n) (.int .i64 n)).run P w = .ok (.int .i64 n) w := by
        rw [Instr.keyThatStays, show (10000 : Nat) = 9999 + 1 from rfl]
        simp [Instr.sameBits]
      simp only [Instr.mapUpdate, Sem.run_bind, run_underlying ht, Result.andThen_ok, run_getMap h1, k2, k1, hget, Option.map_some, Option.getD_some, q3, hst, run_setMap h1]
    · rw [q5 ps]
      refine ⟨by simp [h2], fun i k v m a b => ?_⟩
      have b' : (en.modify i0 fun e => { e with key := .int .i64 n, val := .agg cs })[i]? = some m := by rw [← Array.getElem?_toList]; exact b
      rw [Array.getElem?_modify] at b'
      by_cases e : i0 = i
      · subst e
        rw [List.getElem?_set_self (List.getElem?_eq_some_iff.1 q2).1] at a
        cases a
        rw [if_pos rfl, hget] at b'
        cases b'
        exact ⟨⟨n, rfl⟩, .int _ _, cs, rfl, hc⟩
      · rw [List.getElem?_set_ne e] at a
        rw [if_neg e] at b'
        exact hE.2 i k v m a (by simpa using b')

theorem mdel_sound (R : Rel F φ σ w) {l : Nat} {es : List (Pd × List Pd)} (hs : σ[l]? = some (.map es)) {m : Value} (hm : VR φ (Okb F φ σ w) w (.one (.mp l)) m) {t ty kt et : TypeId} {ts : List TypeId} (ht : P.underlying t = some (.map kt et)) (hk : P.underlying kt = some (.int .i64))
    (n : Int) : ∃ w', (Builtin.delete_ (t :: ts).toArray ty #[m, .int .i64 n]).run P w = .ok (.tuple #[]) w' ∧ Rel F φ (σ.set l (.map (mapDel es n))) w' ∧ Adv [] φ σ w φ (σ.set l (.map (mapDel es n))) w' := by
  obtain ⟨g, ⟨hg, hon⟩, rfl⟩ := vr_mp hm
  obtain ⟨en, cl, h1, h2, h3⟩ := R.obj l _ g hs hg
  have hE : ER' φ (Okb F φ σ w) w es en.toList := ⟨by simpa using h2, fun i k v m a b => h3 i k v m a (by simpa using b)⟩
  have hf := find_map (kd := .i64) n es en.toList 0 hE
  have fin : ∀ (en' : Array MapEntry) (cl' : Nat), (Builtin.delete_ (t :: ts).toArray ty #[.map (some g.b), .int .i64 n]).run P w = .ok (.tuple #[]) (World.putObj w g.b (.map en' cl')) → ER' φ (Okb F φ σ w) w (mapDel es n) en'.toList →
      ∃ w', (Builtin.delete_ (t :: ts).toArray ty #[.map (some g.b), .int .i64 n]).run P w = .ok (.tuple #[]) w' ∧ Rel F φ (σ.set l (.map (mapDel es n))) w' ∧ Adv [] φ σ w φ (σ.set l (.map (mapDel es n))) w' := by
    intro en' cl' hr hE'
    have key := R.upd (w' := World.putObj w g.b (.map en' cl')) [] l _ (.map (mapDel es n)) g g hs hg (.inr (.inl rfl)) (by simp)
      (by have k := kept_putObj w g.b (.map en' cl'); exact ⟨k.os, k.tape, k.output, k.size, fun b hb hn => k.block b hb (fun q => hn q.symm)⟩) (fun b hb => .inl hb) (fun M => by
        rw [obkill_nil]
        rw [set_self hg] at M ⊢
        refine ⟨en', cl', putObj_get h1, by simpa using hE'.1, fun i k v m a b => ?_⟩
        obtain ⟨x1, x2, c, x3, x4⟩ := hE'.2 i k v m a (by simpa using b)
        exact ⟨x1, x2.mono M.okb, c, x3, x4.still M⟩)
    rw [set_self hg, killS_nil] at key
    exact ⟨_, hr, key⟩
  have k2 := fun b => run_checkKey (P := P) (w := w) hk b n
  split at hf
  · rename_i hn
    have k1 := run_findKey (w := w) hk n hf.1
    refine fin en cl ?_ ?_
    · simp [Builtin.delete_, run_underlying ht, run_getMap h1, k2, k1, run_setMap h1]
    · rw [hf.2.2]; exact hE
  · rename_i v0 hn
    obtain ⟨i0, m0, q1, q2, q3, q4, q5, q6⟩ := hf
    simp only [Nat.zero_add] at q4
    have k1 := run_findKey (w := w) hk n q4
    refine fin (en.eraseIdxIfInBounds i0) cl ?_ ?_
    · simp [Builtin.delete_, run_underlying ht, run_getMap h1, k2, k1, run_setMap h1]
    · rw [q6]
      have hlt : i0 < en.size := by have := (List.getElem?_eq_some_iff.1 q1).1; simpa using this
      have e : (en.eraseIdxIfInBounds i0).toList = en.toList.eraseIdx i0 := by simp
      rw [e]
      refine ⟨by rw [List.length_eraseIdx, List.length_eraseIdx]; simp [h2], fun i k v m a b => ?_⟩
      rw [List.getElem?_eraseIdx] at a b
      split at a
      · rename_i hlt'
        rw [if_pos hlt'] at b
        exact hE.2 i k v m a b
      · rename_i hlt'
        rw [if_neg hlt'] at b
        exact hE.2 (i + 1) k v m a b
end
end Go.Proofs.Dl

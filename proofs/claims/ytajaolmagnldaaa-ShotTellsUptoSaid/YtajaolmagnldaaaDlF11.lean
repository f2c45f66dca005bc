/- A logic of plain data over the model, proved sound: part F11; conditions stand in each theorem. -/
import Derived.Test.YtajaolmagnldaaaDlF10
import Derived.Deep.OwnRows
set_option linter.unusedVariables false
namespace Go.Proofs.Dl
variable {F : Nat → Prop}
section
variable {P : Program} {o : Oper} {a : Act} {φ : List G} {σ : Store} {w : World} {en : Env}

theorem asI64_spec {ok : Nat → Prop} {x : Vv} {n : Int} {v : Value} (h : VR φ ok w x v) (hc : asI64 x = some n) : v = .int .i64 n := by
  unfold asI64 at hc
  split at hc
  · cases hc; exact h.int
  · cases hc

theorem run_mm {ok : Nat → Prop} : ∀ (xs : List Oo) (os : List Operand) (ns : List Int), (∀ x o, mO x o = true → VR φ ok w (ev en x) (a.eval o)) → mOs xs os = true → mapO (fun x => asI64 (ev en x)) xs = some ns → os.map a.eval = ns.map (Value.int .i64)
  | [], [], ns, _, _, h => by simp only [mapO, Option.some.injEq] at h; subst h; rfl
  | [], _ :: _, _, _, hm, _ => by simp [mOs] at hm
  | _ :: _, [], _, _, hm, _ => by simp [mOs] at hm
  | x :: r, p :: s, ns, hv, hm, h => by
    simp only [mOs, Bool.and_eq_true] at hm
    simp only [mapO] at h
    split at h
    · rename_i b bs h1 h2
      cases h
      have := run_mm r s bs hv hm.2 h2
      simp only [List.map_cons, this, asI64_spec (hv x p hm.1) h1]
    · cases h
theorem run_maxmin (mx : Bool) (t : TypeId) (x : Int) (ns : List Int) (args : Array Value) (h : args.toList = (x :: ns).map (Value.int .i64)) (ats : Array TypeId) :
    (if mx then Builtin.max_ ats t args else Builtin.min_ ats t args).run P w = .ok (.int .i64 (ns.foldl (fun x y => if mx then (if y > x then y else x) else (if y < x then y else x)) x)) w := by
  cases mx with
  | true =>
    simp only [if_true, Builtin.max_, h, List.map_cons]
    clear h
    induction ns generalizing x with
    | nil => simp
    | cons y r ih =>
      simp only [List.map_cons, List.foldlM_cons, List.foldl_cons, Sem.run_bind, Builtin.max2, Sem.run_pure, Result.andThen_ok]
      exact ih _
  | false =>
    simp only [Bool.false_eq_true, if_false, Builtin.min_, h, List.map_cons]
    clear h
    induction ns generalizing x with
    | nil => simp
    | cons y r ih =>
      simp only [List.map_cons, List.foldlM_cons, List.foldl_cons, Sem.run_bind, Builtin.min2, Sem.run_pure, Result.andThen_ok]
      exact ih _

theorem caps_sound {ok : Nat → Prop} : ∀ (xs : List Oo) (os : List Operand) (ds : List Dd), (∀ x o, mO x o = true → VR φ ok w (ev en x) (a.eval o)) → mOs xs os = true → capsOf (ev en) xs = some ds → CR φ ok w ds (os.map a.eval)
  | [], [], ds, _, _, h => by simp only [capsOf, Option.some.injEq] at h; subst h; exact CR.nil ..
  | [], _ :: _, _, _, hm, _ => by simp [mOs] at hm
  | _ :: _, [], _, _, hm, _ => by simp [mOs] at hm
  | x :: r, p :: s, ds, hv, hm, h => by
    simp only [mOs, Bool.and_eq_true] at hm
    simp only [capsOf] at h
    split at h
    · rename_i d ds' h1 h2
      cases h
      have hx := hv x p hm.1
      rw [h1] at hx
      cases hx with | one d v hd => exact CR.cons hd (caps_sound r s ds' hv hm.2 h2)
    · cases h

theorem PR.int_inv {ok : Nat → Prop} {k : IntKind} {n : Int} {v : Value} (h : PR ok w (.int k n) v) : v = .int k n := by cases h; rfl
def numOf1 : List Dd → Int
  | [.p (.int _ n)] => n
  | _ => 0

theorem run_b2s (R : Rel F φ σ w) {x : Vv} {xs : List (List Dd)} (h : elemsOf σ 1 x = some xs) {s : List UInt8} (hs : mapO byteOf1 xs = some s) {v : Value} (hv : VR φ (Okb F φ σ w) w x v) {src dst e : TypeId} (h1 : P.underlying src = some (.slice e)) (h2 : P.underlying e = some (.int .u8))
    (h3 : P.underlying dst = some .string) : (convert src dst v).run P w = .ok (.string ⟨s.toArray⟩) w := by
  obtain ⟨ad, cap, c, rfl, k1, k2, k3⟩ := elemsOf_sound R h hv
  obtain ⟨m1, m2⟩ := mapO_at hs
  by_cases hx : xs = []
  · subst hx
    have : s = [] := List.eq_nil_of_length_eq_zero (by simpa using m1)
    subst this
    cases ad with
    | none => exact run_convert_bytes_nil w src e h1 h2 0 cap dst h3
    | some b =>
      simp only [convert, Sem.run_bind, run_underlying h1, run_underlying h3, run_underlying h2, Result.andThen_ok, Conv.bytesToString, List.length_nil]
      rfl
  · obtain ⟨b, o, rfl, hr⟩ := k2 hx
    have cell : ∀ i, i < xs.length → ∃ n, xs[i]? = some [.p (.int .u8 n)] ∧ s[i]? = some (UInt8.ofNat n.toNat) ∧ w.cell? ⟨b, o + i, none⟩ = some (.int .u8 n) := by
      intro i hi
      obtain ⟨y, hy, hf⟩ := m2 i xs[i] (List.getElem?_eq_getElem hi)
      unfold byteOf1 at hf
      split at hf
      · rename_i n he
        cases hf
        obtain ⟨r1, r2⟩ := k1.2 i xs[i] (List.getElem?_eq_getElem hi)
        have hlt : i < c.length := by rw [k1.1]; omega
        have hc : ((c.drop (i * 1)).take 1)[0]? = some c[i] := by
          rw [List.getElem?_take, if_pos (by omega), List.getElem?_drop, Nat.mul_one, Nat.add_zero, List.getElem?_eq_getElem hlt]
        have hd := r2.2 0 (.p (.int .u8 n)) c[i] (by rw [he]; rfl) hc
        have : c[i] = .int .u8 n := by
          generalize c[i] = u at hd
          cases hd with | p y v hd => exact hd.int_inv
        refine ⟨n, by rw [List.getElem?_eq_getElem hi, he], hy, ?_⟩
        rw [← this]
        exact hr i c[i] (List.getElem?_eq_getElem hlt)
      · cases hf
    have key := run_convert_bytes_arg (P := P) w src e h1 h2 b o xs.length cap (xs.map numOf1) (by simp) (fun i hi => by
      obtain ⟨n, e1, _, e3⟩ := cell i hi
      rw [e3]
      simp [List.getD, e1, numOf1]) dst h3
    rw [key]
    congr 2
    unfold strOfNums
    congr 1
    congr 1
    apply List.ext_getElem?
    intro i
    rcases Nat.lt_or_ge i xs.length with hi | hi
    · obtain ⟨n, e1, e2, _⟩ := cell i hi
      simp [e1, e2, numOf1]
    · rw [List.getElem?_eq_none (by simpa using hi), List.getElem?_eq_none (by omega)]

theorem news_string {e u : TypeId} (s : List UInt8) : News P F φ σ w 1 (.string ⟨s.toArray⟩) (byteCells s) (s.map fun b => .int .u8 b.toNat) := by
  have hsz : (⟨s.toArray⟩ : ByteArray).size = s.length := rfl
  refine ⟨⟨by simp [byteCells], fun i es hi => ?_⟩, by simp [Builtin.lenOf, byteCells, hsz], fun w' _ => ?_⟩
  · unfold byteCells at hi
    rw [List.getElem?_map] at hi
    cases hs : s[i]? with
    | none => rw [hs] at hi; cases hi
    | some b =>
      rw [hs] at hi; cases hi
      refine ⟨rfl, ?_⟩
      have : ((s.map fun b => Value.int .u8 b.toNat).drop (i * 1)).take 1 = [.int .u8 b.toNat] := by
        apply List.ext_getElem?
        intro j
        rw [List.getElem?_take]
        cases j with
        | zero => simp [hs]
        | succ j => simp
      rw [this]
      exact CR.cons (.p _ _ (.int _ _)) (CR.nil ..)
  · have hl : (byteCells s).length = s.length := by simp [byteCells]
    rw [hl]
    have : (⟨s.toArray⟩ : ByteArray).extract 0 s.length = ⟨s.toArray⟩ := by
      apply ByteArray.ext; simp
    simp [Builtin.firstCells, this]

theorem mksl_sound (R : Rel F φ σ w) {t e : TypeId} {n : Int} {k k' : IntKind} {d : Dd} {bytes : Nat} (ht : P.underlying t = some (.slice e)) (hb : byOf P e = some bytes) (hs : szOf P e = some 1) {z : Value} (hz : (P.info? e).bind (·.zero) = some z) (hz1 : z.cells = #[z]) (hzz : mD d z = true)
    (h0 : 0 ≤ n) (hr : n * bytes ≤ room) (hb0 : 0 < bytes) (ho : (execOp a.eval o) = (do pure (.value (← Instr.makeSlice t (.int k n) (.int k' n))) : Sem Next)) :
    Res P F o a φ σ w (.one (.own σ.length 1 0 n.toNat)) (σ ++ [.row e 1 n.toNat (List.replicate n.toNat [d])]) [] := by
  obtain ⟨i, z1, z2⟩ : ∃ i, P.info? e = some i ∧ i.zero = some z := by
    cases hi : P.info? e with
    | none => rw [hi] at hz; cases hz
    | some i => rw [hi] at hz; exact ⟨i, rfl, hz⟩
  have hsz : i.size = 1 := by have := hs; unfold szOf at this; rw [z1] at this; simpa using this
  have hby : i.bytes = bytes := by have := hb; unfold byOf at this; rw [z1] at this; simpa using this
  obtain ⟨m, rfl⟩ := Int.eq_ofNat_of_zero_le h0
  have hroom : m * bytes ≤ 140737488355328 := by unfold room at hr; exact_mod_cast hr
  have hle : m ≤ m * bytes := Nat.le_mul_of_pos_right _ hb0
  have hmk := run_make_row' (P := P) t e z bytes ht (by rw [z1]; simp [z2, hsz, hby]) hz1 k k' m (by rw [Nat.mul_comm]; omega) (by omega) w
  have hrun : (execOp a.eval o).run P w = .ok (.value (.slice (some ⟨w.heap.size, 0, none⟩) m m)) (w.alloc (.cells (madeCells #[z] m) e)) := by
    rw [ho]
    simp only [Sem.run_bind, hmk, Result.andThen_ok, Sem.run_pure]
  simp only [Int.toNat_natCast]
  refine Res.new (P := P) (o := o) (a := a) R (v := .one (.own σ.length 1 0 m)) (.row e 1 m (List.replicate m [d])) ⟨w.heap.size, m, true⟩ hrun (kept_alloc _ _) (fun b hb => by rw [← hb.2]; exact Nat.le_refl _) (fun M => ?_) (.one _ _ ?_)
  · have hcells : (madeCells #[z] m).toList = List.replicate m z := by
      apply List.ext_getElem?
      intro j
      rcases Nat.lt_or_ge j m with hj | hj
      · simp [madeCells, hj, Nat.mod_one]
      · rw [List.getElem?_eq_none (by simpa [madeCells] using hj), List.getElem?_eq_none (by simpa using hj)]
    refine ⟨by decide, Nat.le_refl _, by simp, by simp only [maxLen]; omega, fun hg => ⟨_, heap_alloc_new w _, by rw [← Array.length_toList, hcells]; simp, fun q es hq => ?_⟩⟩
    have hqm : q < m := by have := (List.getElem?_eq_some_iff.1 hq).1; simpa using this
    have he : es = [d] := List.eq_of_mem_replicate (List.mem_of_getElem? hq)
    subst he
    refine ⟨rfl, ?_⟩
    have : ((madeCells #[z] m).toList.drop (q * 1)).take 1 = [z] := by
      rw [hcells]
      apply List.ext_getElem?
      intro j
      rw [List.getElem?_take]
      cases j with
      | zero => rw [if_pos (by omega), List.getElem?_drop, Nat.mul_one, Nat.add_zero, List.getElem?_replicate, if_pos hqm]; rfl
      | succ j => rw [if_neg (by omega)]; rfl
    rw [this]
    exact CR.cons (mD_sound hzz) (CR.nil ..)
  · exact .own _ _ 0 m ⟨w.heap.size, m, true⟩ _ (last_get φ _ _ R.len) (by simp) (fun _ => by simp)
end
end Go.Proofs.Dl

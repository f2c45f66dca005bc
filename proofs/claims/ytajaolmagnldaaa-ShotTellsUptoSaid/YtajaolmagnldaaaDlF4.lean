/- A logic of plain data over the model, proved sound: part F4; conditions stand in each theorem. -/
import Derived.Test.YtajaolmagnldaaaDlF3
set_option linter.unusedVariables false
namespace Go.Proofs.Dl
variable {F : Nat → Prop}
section
variable {P : Program} {φ : List G} {ok : Nat → Prop} {w : World}

theorem vr_null {v : Value} (h : VR φ ok w (.one .null) v) : v = .pointer none := by cases h with | one d v h => cases h; rfl
theorem vr_nullm {v : Value} (h : VR φ ok w (.one .nullm) v) : v = .map none := by cases h with | one d v h => cases h; rfl
theorem vr_ptr {l o : Nat} {v : Value} (h : VR φ ok w (.one (.ptr l o)) v) : ∃ g : G, At φ l g ∧ v = .pointer (some ⟨g.b, o, none⟩) := by
  cases h with | one d v h => cases h with | ptr l o g hg => exact ⟨g, hg, rfl⟩
theorem vr_mp {l : Nat} {v : Value} (h : VR φ ok w (.one (.mp l)) v) : ∃ g : G, At φ l g ∧ v = .map (some g.b) := by
  cases h with | one d v h => cases h with | mp l g hg => exact ⟨g, hg, rfl⟩

theorem run_eql_of {t : TypeId} {x y : Value} {q : Bool} (hx : (∃ b, x = .bool b) ∨ (∃ a, x = .pointer a) ∨ (∃ a, x = .map a)) (hy : (∃ b, y = .bool b) ∨ (∃ a, y = .pointer a) ∨ (∃ a, y = .map a))
    (h : (Op.equalIn (9999 + 1) t x y).run P w = .ok q w) : (binOp .eql t x y).run P w = .ok (.bool q) w ∧ (binOp .neq t x y).run P w = .ok (.bool (!q)) w := by
  rcases hx with ⟨b, rfl⟩ | ⟨b, rfl⟩ | ⟨b, rfl⟩ <;> rcases hy with ⟨c, rfl⟩ | ⟨c, rfl⟩ | ⟨c, rfl⟩ <;>
    (constructor <;> (simp only [binOp, Op.equal, Op.maxDepth, Sem.run_bind, show (10000 : Nat) = 9999 + 1 from rfl, h, Result.andThen_ok, Sem.run_pure]))
theorem equalIn_ptr {d : Nat} {t e : TypeId} (hu : P.underlying t = some (.pointer e)) (a : Option Addr) : (Op.equalIn (d + 1) t (.pointer a) (.pointer none)).run P w = .ok a.isNone w := by
  cases a <;> simp [Op.equalIn, run_underlying hu]
theorem equalIn_map {d : Nat} {t k e : TypeId} (hu : P.underlying t = some (.map k e)) (a : Option Nat) : (Op.equalIn (d + 1) t (.map a) (.map none)).run P w = .ok a.isNone w := by
  cases a <;> simp [Op.equalIn, run_underlying hu]

def binRun (op : BinOp) (t : TypeId) (x y : Operand) (a b : Value) : Sem Value := do eqGuard op t x y a b; binOp op t a b

theorem run_guarded {op : BinOp} {t : TypeId} {x y : Operand} {a b v : Value} (h1 : ∀ c, a ≠ .agg c) (h2 : a ≠ .nilIface) (h : (binOp op t a b).run P w = .ok v w) : (binRun op t x y a b).run P w = .ok v w := by
  simp only [binRun, Sem.run_bind, guard_plain op t x y a b h1 h2, Result.andThen_ok, h]

theorem run_binV {cl : Nat} {op : BinOp} {x y : Vv} {v : Vv} (h : binV cl op x y = some v) {t : TypeId} (hc : clsOk P cl op t = true) (px py : Operand) {a b : Value} (ha : VR φ ok w x a) (hb : VR φ ok w y b) :
    ∃ r, (binRun op t px py a b).run P w = .ok r w ∧ VR φ ok w v r := by
  unfold binV at h
  split at h
  · split at h
    · rename_i hk
      subst hk
      rw [ha.int, hb.int]
      obtain ⟨r, h1, h2⟩ := run_binI (P := P) (φ := φ) (ok := ok) (w := w) h t
      exact ⟨r, run_guarded (by simp) (by simp) h1, h2⟩
    · cases h
  · rename_i s s'
    rw [ha.str, hb.str]
    split at h
    · split at h
      · rename_i hle
        cases h
        refine ⟨_, run_guarded (by simp) (by simp) (v := .string ⟨(s ++ s').toArray⟩) ?_, .one _ _ (.p _ _ (.str _))⟩
        have h1 : ¬ ((((⟨s.toArray⟩ : ByteArray).size + (⟨s'.toArray⟩ : ByteArray).size : Nat) : Int) > IntKind.i64.max) := by
          simp [ByteArray.size, IntKind.max, IntKind.signed, IntKind.bits]; omega
        have h2 : (⟨s.toArray⟩ : ByteArray) ++ ⟨s'.toArray⟩ = ⟨(s ++ s').toArray⟩ := by
          apply ByteArray.ext; simp
        simp only [binOp, Op.stringOp, if_neg h1, h2, Sem.run_pure]
      · cases h
    · cases h
      refine ⟨_, run_guarded (by simp) (by simp) (v := .bool (s == s')) ?_, .b1 _⟩
      simp only [binOp, Op.stringOp, bytes_eq, Sem.run_pure]
    · cases h
      refine ⟨_, run_guarded (by simp) (by simp) (v := .bool (s != s')) ?_, .b1 _⟩
      simp only [binOp, Op.stringOp, bytes_eq, Sem.run_pure]; rfl
    · cases h
  · rename_i p q
    rw [ha.bool, hb.bool]
    split at h
    · rename_i hcl; subst hcl
      have hu := isBool_spec (P := P) (t := t) (by simpa [clsOk] using hc)
      have key := run_eql_of (P := P) (w := w) (t := t) (x := .bool p) (y := .bool q) (by simp) (by simp) (run_equalIn_bool' w 9999 t p q hu)
      split at h
      · cases h
        exact ⟨_, run_guarded (by simp) (by simp) key.1, .b1 _⟩
      · cases h
        exact ⟨_, run_guarded (by simp) (by simp) key.2, .b1 _⟩
      · cases h
    · cases h
  · rw [vr_null ha, vr_null hb]
    split at h
    · rename_i hcl; subst hcl
      obtain ⟨e, hu⟩ := isPtr_spec (P := P) (t := t) (by simpa [clsOk] using hc)
      have key := run_eql_of (P := P) (w := w) (t := t) (x := .pointer none) (y := .pointer none) (by simp) (by simp) (equalIn_ptr hu none)
      split at h
      · cases h
        exact ⟨_, run_guarded (by simp) (by simp) key.1, .b1 _⟩
      · cases h
        exact ⟨_, run_guarded (by simp) (by simp) key.2, .b1 _⟩
      · cases h
    · cases h
  · obtain ⟨g, _, ra⟩ := vr_ptr ha
    rw [ra, vr_null hb]
    generalize (⟨g.b, _, none⟩ : Addr) = ad
    split at h
    · rename_i hcl; subst hcl
      obtain ⟨e, hu⟩ := isPtr_spec (P := P) (t := t) (by simpa [clsOk] using hc)
      have key := run_eql_of (P := P) (w := w) (t := t) (x := .pointer (some ad)) (y := .pointer none) (by simp) (by simp) (equalIn_ptr hu (some ad))
      split at h
      · cases h
        exact ⟨_, run_guarded (by simp) (by simp) key.1, .b1 _⟩
      · cases h
        exact ⟨_, run_guarded (by simp) (by simp) key.2, .b1 _⟩
      · cases h
    · cases h
  · rw [vr_nullm ha, vr_nullm hb]
    split at h
    · rename_i hcl; subst hcl
      obtain ⟨k, e, hu⟩ := isMap_spec (P := P) (t := t) (by simpa [clsOk] using hc)
      have key := run_eql_of (P := P) (w := w) (t := t) (x := .map none) (y := .map none) (by simp) (by simp) (equalIn_map hu none)
      split at h
      · cases h
        exact ⟨_, run_guarded (by simp) (by simp) key.1, .b1 _⟩
      · cases h
        exact ⟨_, run_guarded (by simp) (by simp) key.2, .b1 _⟩
      · cases h
    · cases h
  · obtain ⟨g, _, ra⟩ := vr_mp ha
    rw [ra, vr_nullm hb]
    split at h
    · rename_i hcl; subst hcl
      obtain ⟨k, e, hu⟩ := isMap_spec (P := P) (t := t) (by simpa [clsOk] using hc)
      have key := run_eql_of (P := P) (w := w) (t := t) (x := .map (some g.b)) (y := .map none) (by simp) (by simp) (equalIn_map hu (some g.b))
      split at h
      · cases h
        exact ⟨_, run_guarded (by simp) (by simp) key.1, .b1 _⟩
      · cases h
        exact ⟨_, run_guarded (by simp) (by simp) key.2, .b1 _⟩
      · cases h
    · cases h
  · cases h

theorem run_eqs {ne : Bool} {ks : List Nat} {as bs : List Dd} {q : Bool} (h : flatEq ks as bs = some q) {t : TypeId} (hf : flatStruct P ks t = true) (px py : Operand) {a b : Value}
    (ha : VR φ ok w (.agg as) a) (hb : VR φ ok w (.agg bs) b) : (binRun (if ne then .neq else .eql) t px py a b).run P w = .ok (.bool (if ne then !q else q)) w := by
  cases ha with | agg _ xs ha =>
  cases hb with | agg _ ys hb =>
  unfold flatStruct at hf
  split at hf
  · rename_i fs hu
    simp only [Bool.and_eq_true, Bool.not_eq_true'] at hf
    obtain ⟨⟨h1, h2⟩, h3⟩ := hf
    have hfs : P.fieldsOf t = fs := by simp [Program.fieldsOf, hu]
    have key := flat_eqFields (P := P) (w := w) (d := 9998) xs ys ks fs.toList 0 as bs q h1 h ha hb
    have e1 := run_equalIn_struct (P := P) w 9999 t xs ys (by rw [hfs]; exact hu) h2
    rw [hfs, key] at e1
    cases ne with
    | true => simp only [if_true, binRun, Sem.run_bind, run_eqGuard_agg w .neq t px py xs ys h3, Result.andThen_ok, run_neq_struct, e1]
    | false => simp only [Bool.false_eq_true, if_false, binRun, Sem.run_bind, run_eqGuard_agg w .eql t px py xs ys h3, Result.andThen_ok, run_eql_struct, e1]
  · cases hf

theorem run_unV {op : UnOp} {x v : Vv} (h : unV op x = some v) {a : Value} (ha : VR φ ok w x a) : ∃ r, (Op.unary op a).run P w = .ok r w ∧ VR φ ok w v r := by
  unfold unV at h
  split at h
  · split at h
    · cases h; rw [ha.bool]; exact ⟨_, by simp [Op.unary], .b1 _⟩
    · cases h
  · split at h
    · cases h; rw [ha.int]; exact ⟨_, by simp [Op.unary, Op.intArith], .intk _ _⟩
    · cases h
  · cases h

/-! ## addresses, elements, slices -/
theorem run_iaddr {sz : Nat} {i : Int} {x v : Vv} (h : iaddrV sz i x = some v) {t e : TypeId} (ht : P.underlying t = some (.slice e)) (hs : szOf P e = some sz) {a b : Value} (ha : VR φ ok w x a) {k : IntKind} (hb : b = .int k i) :
    ∃ r, (Instr.indexAt t a b).run P w = .ok r w ∧ VR φ ok w v r := by
  subst hb
  have run : ∀ (ad : Addr) (len cap : Nat), 0 ≤ i → i < len → (Instr.indexAt t (.slice (some ad) len cap) (.int k i)).run P w = .ok (.pointer (some (ad.add (i.toNat * sz)))) w := by
    intro ad len cap h0 h1
    have hsz := szOf_run hs w
    simp [Instr.indexAt, asIntOf, run_underlying ht, hsz, h0, h1]
  have addr : ∀ (b o n : Nat), (⟨b, o, none⟩ : Addr).add n = ⟨b, o + n, none⟩ := fun b o n => Addr.add_mid b o n
  have ownc : ∀ (l off len : Nat) (g : G) (a : Option Addr) (cap : Nat), At φ l g → 0 ≤ i → i < len → off + len ≤ g.cap → (0 < len → a = some ⟨g.b, off * sz, none⟩) → ∃ r, (Instr.indexAt t (.slice a len cap) (.int k i)).run P w = .ok r w ∧ VR φ ok w (.one (.eptr l sz (off + i.toNat) 0)) r := by
    intro l off len g a cap hg h0 h1 h2 h3
    rw [h3 (by omega), run _ _ _ h0 h1, addr]
    refine ⟨_, rfl, .one _ _ ?_⟩
    have := DR.eptr (φ := φ) (ok := ok) (w := w) l sz (off + i.toNat) 0 g hg
    rwa [Nat.add_mul, Nat.add_zero] at this
  unfold iaddrV at h
  split at h
  · rename_i sz' xs
    split at h
    · rename_i hsz; subst hsz
      split at h
      · rename_i h0
        split at h
        · rename_i es hi
          cases h
          cases ha with | one d a ha => cases ha with | p x a ha => cases ha with | sl sz xs a cap b o us n hn hc hx hs' hm hp =>
          have hlt : i.toNat < xs.length := (List.getElem?_eq_some_iff.1 hi).1
          have hne : xs ≠ [] := by intro e; subst e; simp at hlt
          obtain ⟨rfl, hb⟩ := hx hne
          rw [run _ _ _ h0 (by omega), addr]
          refine ⟨_, rfl, .one _ _ (.cptr es b (o + i.toNat * sz) (us i.toNat) hb (fun j hj => hm _ _ hlt (by rw [hs' _ _ hi] at hj; exact hj)) (fun j c hj => hp _ _ _ _ hi hj))⟩
        · cases h
      · cases h
    · cases h
  · split at h
    · rename_i hsz; subst hsz
      split at h
      · rename_i hh
        cases h
        cases ha with | one d a ha => cases ha with | own l sz off len g a hg hc ha =>
        exact ownc _ _ _ g a _ hg hh.1 hh.2 hc (fun hp => ha (by omega))
      · cases h
    · cases h
  · split at h
    · rename_i hsz; subst hsz
      split at h
      · rename_i hh
        cases h
        cases ha with | one d a ha => cases ha with | cown l sz off len g a hg hc ha =>
        exact ownc _ _ _ g a _ hg hh.1 hh.2 hc ha
      · cases h
    · cases h
  · cases h

theorem run_faddr {off : Nat} {x v : Vv} (h : faddrV off x = some v) {s ft : TypeId} {f n : Nat} (hf : fieldOf P s f = some (off, ft)) (hn : szOf P ft = some n) (hp : 0 < n) {a : Value} (ha : VR φ ok w x a) :
    ∃ r, (Instr.fieldAt s a f).run P w = .ok r w ∧ VR φ ok w v r := by
  obtain ⟨fs, fd, h1, h2, h3, h4⟩ := fieldOf_spec hf
  have run : ∀ b o, (Instr.fieldAt s (.pointer (some ⟨b, o, none⟩)) f).run P w = .ok (.pointer (some ⟨b, o + off, none⟩)) w := by
    intro b o
    subst h3 h4
    have hsz := szOf_run hn w
    simp only [Instr.fieldAt, Sem.run_bind, run_underlying h1, Result.andThen_ok, h2, Instr.sureAddr, Sem.run_pure, fieldPlace, hsz, if_neg (show ¬ n = 0 by omega), Addr.add_mid]
  unfold faddrV at h
  split at h
  · cases h
    obtain ⟨g, hg, rfl⟩ := vr_ptr ha
    exact ⟨_, run _ _, .one _ _ (.ptr _ _ _ hg)⟩
  · rename_i cs
    split at h
    · cases h
      cases ha with | one d a ha => cases ha with | cptr cs b o us hb hm hp =>
      refine ⟨_, run _ _, .one _ _ (.cptr _ b (o + off) (fun j => us (off + j)) hb (fun j hj => ?_) (fun j c hj => ?_))⟩
      · simp at hj
        rw [Nat.add_assoc]
        exact hm _ (by omega)
      · rw [List.getElem?_drop] at hj
        exact hp _ _ hj
    · cases h
  · cases h
    cases ha with | one d a ha => cases ha with | eptr l sz i j g hg =>
    refine ⟨_, run _ _, .one _ _ ?_⟩
    rw [Nat.add_assoc]
    exact DR.eptr _ _ _ _ g hg
  · cases h

theorem run_field {off n f : Nat} {ag : Bool} {s ft : TypeId} {ds : List Dd} {v : Vv} (hle : off + n ≤ ds.length) (h : Vv.mk ag ((ds.drop off).take n) = some v) (hf : fieldOf P s f = some (off, ft)) (hn : szOf P ft = some n)
    (hag : aggOf P ft = some ag) (h1 : ag = true ∨ n = 1) {a : Value} (ha : VR φ ok w (.agg ds) a) : ∃ r, (Instr.field s a f).run P w = .ok r w ∧ VR φ ok w v r := by
  obtain ⟨fs, fd, u1, u2, u3, u4⟩ := fieldOf_spec hf
  cases ha with | agg ds cs ha =>
  have hmk := VR.mk ((ha.drop off).take n) h
  subst u3 u4
  have hagr := aggOf_run hag w
  have hsz := szOf_run hn w
  cases ag with
  | true =>
    simp only [if_true] at hmk
    refine ⟨_, ?_, hmk⟩
    simp only [Instr.field, Sem.run_bind, run_underlying u1, Result.andThen_ok, u2, asAgg, Sem.run_pure, part, hagr, if_true, hsz]
    congr 2
    apply Array.ext'
    simp [List.take_drop]
  | false =>
    simp only [Bool.false_eq_true, if_false] at hmk
    obtain ⟨u, hu, hv⟩ := hmk
    refine ⟨u, ?_, hv⟩
    have hg : cs[fd.offset]? = some u := by
      have := congrArg (fun l => l[0]?) hu
      have hn1 : n = 1 := by simpa using h1
      subst hn1
      simp only [List.getElem?_take, List.getElem?_drop] at this
      simpa using this
    simp only [Instr.field, Sem.run_bind, run_underlying u1, Result.andThen_ok, u2, asAgg, Sem.run_pure, part, hagr, Bool.false_eq_true, if_false, hg]
end
end Go.Proofs.Dl

/- A logic of plain data over the model, proved sound: part F3; conditions stand in each theorem. -/
import Derived.Test.YtajaolmagnldaaaDlF2
import Derived.Laws.StructEq
import Derived.Lib.ConvBytes
set_option linter.unusedVariables false
namespace Go.Proofs.Dl
variable {F : Nat → Prop}
section
variable {P : Program} {φ : List G} {ok : Nat → Prop} {w : World}

theorem VR.i1 (n : Int) : VR φ ok w (i1 n) (.int .i64 n) := .one _ _ (.p _ _ (.int _ _))
theorem VR.b1 (b : Bool) : VR φ ok w (b1 b) (.bool b) := .one _ _ (.p _ _ (.bool _))
theorem VR.intk (k : IntKind) (n : Int) : VR φ ok w (.one (.p (.int k n))) (.int k n) := .one _ _ (.p _ _ (.int _ _))

theorem guard_plain (op : BinOp) (t : TypeId) (x y : Operand) (a b : Value) (h1 : ∀ c, a ≠ .agg c) (h2 : a ≠ .nilIface) : (eqGuard op t x y a b).run P w = .ok () w := by
  unfold eqGuard
  cases op <;> cases a <;> simp_all

theorem run_binI {op : BinOp} {k : IntKind} {a b : Int} {v : Vv} (h : binI op k a b = some v) (t : TypeId) : ∃ x, (binOp op t (.int k a) (.int k b)).run P w = .ok x w ∧ VR φ ok w v x := by
  unfold binI at h
  cases op <;> simp only [Option.some.injEq] at h
  case add => subst h; exact ⟨_, by simp [binOp, Op.intArith], .intk _ _⟩
  case sub => subst h; exact ⟨_, by simp [binOp, Op.intArith], .intk _ _⟩
  case mul => subst h; exact ⟨_, by simp [binOp, Op.intArith], .intk _ _⟩
  case quo =>
    split at h
    · cases h
    · rename_i hb; cases h; exact ⟨_, by simp [binOp, Op.intDiv, hb], .intk _ _⟩
  case rem =>
    split at h
    · cases h
    · rename_i hb; cases h; exact ⟨_, by simp [binOp, Op.intDiv, hb], .intk _ _⟩
  case eql => subst h; exact ⟨_, by simp [binOp, Op.intCmp], .b1 _⟩
  case neq => subst h; exact ⟨_, by simp [binOp, Op.intCmp], .b1 _⟩
  case lss => subst h; exact ⟨_, by simp [binOp, Op.intCmp], .b1 _⟩
  case leq => subst h; exact ⟨_, by simp [binOp, Op.intCmp], .b1 _⟩
  case gtr => subst h; exact ⟨_, by simp [binOp, Op.intCmp], .b1 _⟩
  case geq => subst h; exact ⟨_, by simp [binOp, Op.intCmp], .b1 _⟩
  all_goals cases h

theorem bytes_eq (a b : List UInt8) : ((⟨a.toArray⟩ : ByteArray).toList == (⟨b.toArray⟩ : ByteArray).toList) = (a == b) := by
  rw [ByteArray.toList_eq, ByteArray.toList_eq]

theorem isAgg_flat {k : Nat} {t : TypeId} (h : flatTy P k t = true) : (isAgg t).run P w = .ok false w := by
  unfold flatTy at h
  unfold isAgg
  split at h
  · rename_i hu; rw [Sem.run_bind, run_underlying hu w]; rfl
  · rename_i hu; rw [Sem.run_bind, run_underlying hu w]; rfl
  · rename_i hu; rw [Sem.run_bind, run_underlying hu w]; rfl
  · cases h
theorem flat_int {t : TypeId} (h : flatTy P 0 t = true) : ∃ k, P.underlying t = some (.int k) := by
  unfold flatTy at h; split at h
  · exact ⟨_, ‹_›⟩
  · cases h
  · cases h
  · cases h
theorem flat_bool {t : TypeId} (h : flatTy P 1 t = true) : P.underlying t = some .bool := by
  unfold flatTy at h; split at h
  · cases h
  · assumption
  · cases h
  · cases h
theorem flat_str {t : TypeId} (h : flatTy P 2 t = true) : P.underlying t = some .string := by
  unfold flatTy at h; split at h
  · cases h
  · cases h
  · assumption
  · cases h

theorem eqf_step {d : Nat} {f : Field} {fs : List Field} {xs ys : Array Value} {va vb : Value} {k o : Nat} {r s : Bool} (h1 : f.name ≠ "_") (h2 : f.offset = o) (h3 : flatTy P k f.type = true)
    (ex : xs.toList.drop o = va :: xs.toList.drop (o + 1)) (ey : ys.toList.drop o = vb :: ys.toList.drop (o + 1)) (hr : (Op.equalIn (d + 1) f.type va vb).run P w = .ok r w)
    (ih : (Op.eqFields (d + 1) xs ys fs).run P w = .ok s w) : (Op.eqFields (d + 1) xs ys (f :: fs)).run P w = .ok (r && s) w := by
  have gx : xs[f.offset]? = some va := by
    have := congrArg (fun l => l[0]?) ex
    simp only [List.getElem?_drop] at this
    rw [h2]; simpa using this
  have gy : ys[f.offset]? = some vb := by
    have := congrArg (fun l => l[0]?) ey
    simp only [List.getElem?_drop] at this
    rw [h2]; simpa using this
  have hagg := isAgg_flat (w := w) h3
  have px : (part f.type xs f.offset).run P w = .ok va w := by simp [part, Sem.run_bind, hagg, gx]
  have py : (part f.type ys f.offset).run P w = .ok vb w := by simp [part, Sem.run_bind, hagg, gy]
  simp only [Op.eqFields, if_pos h1, Sem.run_bind, px, py, hr, Result.andThen_ok]
  cases r
  · simp
  · simpa using ih

theorem flat_eqFields {d : Nat} (xs ys : Array Value) : ∀ (ks : List Nat) (fs : List Field) (o : Nat) (as bs : List Dd) (q : Bool), flatFs P o ks fs = true → flatEq ks as bs = some q →
    CR φ ok w as (xs.toList.drop o) → CR φ ok w bs (ys.toList.drop o) → (Op.eqFields (d + 1) xs ys fs).run P w = .ok q w := by
  intro ks
  induction ks with
  | nil =>
    intro fs o as bs q h he ha hb
    cases fs with
    | nil =>
      unfold flatEq at he
      split at he <;> first | (cases he; simp [Op.eqFields]; done) | (simp_all; done)
    | cons f fs => simp [flatFs] at h
  | cons k ks ih =>
    intro fs o as bs q h he ha hb
    cases fs with
    | nil => simp [flatFs] at h
    | cons f fs =>
      simp only [flatFs, Bool.and_eq_true, beq_iff_eq, bne_iff_ne] at h
      obtain ⟨⟨⟨h1, h2⟩, h3⟩, h4⟩ := h
      have tl : ∀ {l : List Value} {v : Value} {r : List Value}, l.drop o = v :: r → r = l.drop (o + 1) := by
        intro l v r e; rw [← List.tail_drop, e]; rfl
      unfold flatEq at he
      split at he
      · exact absurd ‹k :: ks = []› (by simp)
      · rename_i ks' kk a r k' b s e1
        cases e1
        split at he
        · rename_i hk; subst hk
          split at he
          · rename_i q' hq
            cases he
            obtain ⟨va, ra, ea, da, ha'⟩ := ha.uncons
            obtain ⟨vb, rb, eb, db, hb'⟩ := hb.uncons
            cases da with | p x v da => cases da with | int k n =>
            cases db with | p x v db => cases db with | int k n =>
            obtain ⟨kk, hu⟩ := flat_int h3
            have e1 := tl ea; subst e1
            have e2 := tl eb; subst e2
            exact eqf_step h1 h2 h3 ea eb (by simp [Op.equalIn, run_underlying hu]) (ih fs (o + 1) r s q' h4 hq ha' hb')
          · cases he
        · cases he
      · rename_i ks' a r b s e1
        cases e1
        split at he
        · rename_i q' hq
          cases he
          obtain ⟨va, ra, ea, da, ha'⟩ := ha.uncons
          obtain ⟨vb, rb, eb, db, hb'⟩ := hb.uncons
          cases da with | p x v da => cases da with | bool n =>
          cases db with | p x v db => cases db with | bool n =>
          have hu := flat_bool h3
          have e1 := tl ea; subst e1
          have e2 := tl eb; subst e2
          exact eqf_step h1 h2 h3 ea eb (by simp [Op.equalIn, run_underlying hu]) (ih fs (o + 1) r s q' h4 hq ha' hb')
        · cases he
      · rename_i ks' a r b s e1
        cases e1
        split at he
        · rename_i q' hq
          cases he
          obtain ⟨va, ra, ea, da, ha'⟩ := ha.uncons
          obtain ⟨vb, rb, eb, db, hb'⟩ := hb.uncons
          cases da with | p x v da => cases da with | str n =>
          cases db with | p x v db => cases db with | str n =>
          have hu := flat_str h3
          have e1 := tl ea; subst e1
          have e2 := tl eb; subst e2
          exact eqf_step h1 h2 h3 ea eb (by rw [run_equalIn_string w d f.type _ _ hu, bytes_eq]) (ih fs (o + 1) r s q' h4 hq ha' hb')
        · cases he
      · cases he
end
end Go.Proofs.Dl

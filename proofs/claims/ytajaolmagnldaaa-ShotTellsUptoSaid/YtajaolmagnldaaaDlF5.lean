/- A logic of plain data over the model, proved sound: part F5; conditions stand in each theorem. -/
import Derived.Test.YtajaolmagnldaaaDlF4
import Derived.Laws.BytesArg
set_option linter.unusedVariables false
namespace Go.Proofs.Dl
variable {F : Nat → Prop}
section
variable {P : Program} {φ : List G} {ok : Nat → Prop} {w : World}

theorem run_sidx {s : List UInt8} {b : UInt8} {i : Int} (h0 : 0 ≤ i) (h : s[i.toNat]? = some b) {t : TypeId} (ht : P.underlying t = some .string) {k : IntKind} :
    (Instr.index t (.string ⟨s.toArray⟩) (.int k i)).run P w = .ok (.int .u8 b.toNat) w := by
  have : (⟨s.toArray⟩ : ByteArray)[i.toNat]? = some b := by
    have hlt : i.toNat < s.length := (List.getElem?_eq_some_iff.1 h).1
    have hv : s[i.toNat] = b := (List.getElem?_eq_some_iff.1 h).2
    rw [getElem?_pos (⟨s.toArray⟩ : ByteArray) i.toNat (by simpa [ByteArray.size] using hlt)]
    congr 1
  simp only [Instr.index, asIntOf, Sem.run_bind, Sem.run_pure, Result.andThen_ok, run_underlying ht, if_pos h0, this]

theorem run_bound {k : IntKind} {i : Int} {y : Nat} (c : BoundsCode) (h0 : 0 ≤ i) (h1 : i ≤ y) : (Instr.sliceBound (.int k i) y c).run P w = .ok i.toNat w := by
  simp [Instr.sliceBound, asIntOf, h0, h1]

/-- The bounds of a slice expression. -/
theorem run_bounds {sl : Bool} {len cap : Nat} {lo hi : Option Value} {a b : Int} (ha : (lo = none ∧ a = 0) ∨ ∃ k, lo = some (.int k a)) (hb : (hi = none ∧ b = len) ∨ ∃ k, hi = some (.int k b))
    (h0 : 0 ≤ a) (h1 : a ≤ b) (h2 : b ≤ cap) : (Instr.sliceBounds sl len cap lo hi none).run P w = .ok (a.toNat, b.toNat, cap) w := by
  have e2 : ∀ (k : IntKind) (c : BoundsCode), (Instr.sliceBound (.int k b) cap c).run P w = .ok b.toNat w := fun k c => run_bound c (by omega) h2
  have e1 : ∀ (k : IntKind) (c : BoundsCode), (Instr.sliceBound (.int k a) b.toNat c).run P w = .ok a.toNat w := fun k c => run_bound c h0 (by omega)
  rcases ha with ⟨rfl, rfl⟩ | ⟨k, rfl⟩ <;> rcases hb with ⟨rfl, rfl⟩ | ⟨k', rfl⟩
  · simp [Instr.sliceBounds]
  · simp [Instr.sliceBounds, e2]
  · have := e1 k .sliceB
    simp at this
    simp [Instr.sliceBounds, this]
  · simp [Instr.sliceBounds, e1, e2]

theorem asOpt_spec {ρ : Oo → Vv} {x : Option Oo} {d n : Int} (h : asOpt ρ x d = some n) {o : Option Operand} {a : Act} (hm : mOo x o = true) (hv : ∀ x o, mO x o = true → VR φ ok w (ρ x) (a.eval o)) :
    (o.map a.eval = none ∧ n = d) ∨ ∃ k, o.map a.eval = some (.int k n) := by
  cases x with
  | none =>
    cases o with
    | none => simp only [asOpt, Option.some.injEq] at h; exact .inl ⟨rfl, h.symm⟩
    | some o => simp [mOo] at hm
  | some x =>
    cases o with
    | none => simp [mOo] at hm
    | some o =>
      obtain ⟨k, hk⟩ := asI_spec (hv x o (by simpa [mOo] using hm)) h
      exact .inr ⟨k, by simp [hk]⟩

theorem run_ssub {s : List UInt8} {lo hi : Option Value} {a b : Int} (ha : (lo = none ∧ a = 0) ∨ ∃ k, lo = some (.int k a)) (hb : (hi = none ∧ b = s.length) ∨ ∃ k, hi = some (.int k b))
    (h0 : 0 ≤ a) (h1 : a ≤ b) (h2 : b ≤ s.length) {t : TypeId} (ht : P.underlying t = some .string) :
    (Instr.sliceAt t (.string ⟨s.toArray⟩) lo hi none).run P w = .ok (.string ⟨((s.take b.toNat).drop a.toNat).toArray⟩) w := by
  have hsz : (⟨s.toArray⟩ : ByteArray).size = s.length := rfl
  have hbd := run_bounds (P := P) (w := w) (sl := false) (len := s.length) (cap := s.length) ha hb h0 h1 h2
  have hex : (⟨s.toArray⟩ : ByteArray).extract a.toNat b.toNat = ⟨((s.take b.toNat).drop a.toNat).toArray⟩ := by
    apply ByteArray.ext
    simp [ByteArray.data_extract, List.take_drop]
    congr 2
    omega
  simp only [Instr.sliceAt, Sem.run_bind, run_underlying ht, Result.andThen_ok, Instr.slice, Option.isSome_none, Bool.false_eq_true, if_false, hsz, hbd, Sem.run_pure, hex]

theorem run_slc {sz : Nat} {a b : Int} {x v : Vv} {n : Int} (hn : slenV x = some n) (h : slcV sz a b x = some v) {lo hi : Option Value} (ha : (lo = none ∧ a = 0) ∨ ∃ k, lo = some (.int k a)) (hb : (hi = none ∧ b = n) ∨ ∃ k, hi = some (.int k b))
    {t e : TypeId} (ht : P.underlying t = some (.slice e)) (hs : szOf P e = some sz) {vx : Value} (hx : VR φ ok w x vx) :
    ∃ r, (Instr.sliceAt t vx lo hi none).run P w = .ok r w ∧ VR φ ok w v r := by
  have hsz := szOf_run hs w
  have run : ∀ (ad : Option Addr) (len cap : Nat), n = len → 0 ≤ a → a ≤ b → b ≤ cap → (Instr.sliceAt t (.slice ad len cap) lo hi none).run P w = .ok (.slice (if cap = a.toNat then ad else ad.map (·.add (a.toNat * sz))) (b.toNat - a.toNat) (cap - a.toNat)) w := by
    intro ad len cap hl h0 h1 h2
    subst hl
    have hbd := run_bounds (P := P) (w := w) (sl := true) (len := len) (cap := cap) ha hb h0 h1 h2
    simp only [Instr.sliceAt, Sem.run_bind, run_underlying ht, Result.andThen_ok, Instr.slice, hbd, Sem.run_pure, hsz]
  unfold slcV at h
  split at h
  · rename_i sz' xs
    split at h
    · rename_i hh
      cases h
      obtain ⟨rfl, h0, h1, h2⟩ := hh
      simp only [slenV, Option.some.injEq] at hn
      cases hx with | one d vx hx => cases hx with | p x vx hx => cases hx with | sl sz xs ad cap bk o us m hm hc hxx hs' hmm hp =>
      refine ⟨_, run ad m cap (by omega) h0 h1 (by omega), .one _ _ (.p _ _ ?_)⟩
      have hl : ((xs.take b.toNat).drop a.toNat).length = b.toNat - a.toNat := by simp; omega
      refine .sl sz _ _ _ bk (o + a.toNat * sz) (fun i j => us (a.toNat + i) j) _ hl.symm (by omega) (fun hne => ?_) (fun i es hi => ?_) (fun i j hi hj => ?_) (fun i es j c hi hj => ?_)
      · have hpos : 0 < ((xs.take b.toNat).drop a.toNat).length := List.length_pos_iff.2 hne
        obtain ⟨rfl, hok⟩ := hxx (by intro e; subst e; simp at hpos)
        rw [if_neg (by omega)]
        exact ⟨by simp [Addr.add_mid], hok⟩
      · rw [List.getElem?_drop, List.getElem?_take] at hi
        split at hi
        · exact hs' _ _ hi
        · cases hi
      · have := hmm (a.toNat + i) j (by omega) hj
        rw [← this, Nat.add_mul]
        congr 2
        omega
      · rw [List.getElem?_drop, List.getElem?_take] at hi
        split at hi
        · exact hp _ _ _ _ hi hj
        · cases hi
    · cases h
  · rename_i sz'
    split at h
    · rename_i hh
      cases h
      obtain ⟨rfl, rfl, rfl⟩ := hh
      simp only [slenV, Option.some.injEq] at hn
      cases hx with | one d vx hx => cases hx with | nil sz ad =>
      exact ⟨_, run ad 0 0 (by omega) (by omega) (by omega) (by omega), .one _ _ (.nil _ _)⟩
    · cases h
  · rename_i l sz' off len
    split at h
    · rename_i hh
      cases h
      obtain ⟨rfl, h0, h1, h2⟩ := hh
      simp only [slenV, Option.some.injEq] at hn
      cases hx with | one d vx hx => cases hx with | own _ _ _ _ g ad hg hc had =>
      refine ⟨_, run ad len (g.cap - off) (by omega) h0 h1 (by omega), .one _ _ ?_⟩
      have := DR.own (φ := φ) (ok := ok) (w := w) l sz (off + a.toNat) (b.toNat - a.toNat) g (if g.cap - off = a.toNat then ad else ad.map (·.add (a.toNat * sz))) hg (by omega) (fun hlt => ?_)
      · rwa [Nat.sub_add_eq] at this
      · rw [if_neg (by omega), had (by omega)]
        simp [Addr.add_mid, Nat.add_mul]
    · cases h
  · cases h

theorem run_len {x : Vv} {n : Int} (h : slenV x = some n) {t e ty : TypeId} (ht : P.underlying t = some (.slice e)) {vx : Value} (hx : VR φ ok w x vx) : (Builtin.len_ #[t] ty #[vx]).run P w = .ok (.int .i64 n) w := by
  have run : ∀ a m c, (Builtin.len_ #[t] ty #[.slice a m c]).run P w = .ok (.int .i64 m) w := by
    intro a m c; simp [Builtin.len_, run_underlying ht, goInt]
  unfold slenV at h
  split at h
  · cases h
    cases hx with | one d vx hx => cases hx with | p x vx hx => cases hx with | sl sz xs ad cap bk o us m hm hc hxx hs' hmm hp =>
    rw [run, hm]
  · cases h
    cases hx with | one d vx hx => cases hx with | nil sz ad => rw [run]; rfl
  · cases h
    cases hx with | one d vx hx => cases hx with | own _ _ _ _ g ad hg hc had => rw [run]
  · cases h
    cases hx with | one d vx hx => cases hx with | cown _ _ _ _ g ad hg hc had => rw [run]
  · cases h
theorem run_slen {s : List UInt8} {t ty : TypeId} (ht : P.underlying t = some .string) : (Builtin.len_ #[t] ty #[.string ⟨s.toArray⟩]).run P w = .ok (.int .i64 s.length) w := by
  have hsz : (⟨s.toArray⟩ : ByteArray).size = s.length := rfl
  simp [Builtin.len_, run_underlying ht, goInt, hsz]
end
end Go.Proofs.Dl

/- A logic of plain data over the model, proved sound: part K2; conditions stand in each theorem. -/
import Derived.Test.YtajaolmagnldaaaDlK
set_option linter.unusedVariables false
/-! copy. -/
namespace Go.Proofs.Dl
variable {F : Nat → Prop}
theorem slice_same (w : World) (P : Program) {dT sT ty e : TypeId} (hu : P.underlying dT = some (.slice e)) (hs : szOf P e = some 1) (d a : Option Addr) (dLen dCap sLen sCap : Nat) (hn : Nat.min sLen dLen = 0) :
    (Builtin.copy_ #[dT, sT] ty #[.slice d dLen dCap, .slice a sLen sCap]).run P w = .ok (goInt 0) w :=
  run_copy_none w dT sT ty e d a dLen dCap sLen sCap hu (by simpa [szOf] using hs) hn
theorem copy_sound {P : Program} {φ : List G} {σ : Store} {w : World} (R : Rel F φ σ w) {dT sT ty e e' : TypeId} (hu : P.underlying dT = some (.slice e)) (hs : szOf P e = some 1) {l off len kc : Nat} {xs ys : List (List Dd)} {vd vs : Value} {x : Vv}
    (hd : VR φ (Okb F φ σ w) w (.one (.own l 1 off len)) vd) (hx : VR φ (Okb F φ σ w) w x vs) (hl : σ[l]? = some (.row e' 1 kc xs)) (hy : elemsOf σ 1 x = some ys) (ho : off + len ≤ xs.length) :
    ∃ w', (Builtin.copy_ #[dT, sT] ty #[vd, vs]).run P w = .ok (goInt ((min ys.length len : Nat) : Int)) w' ∧
      Rel F φ (σ.set l (.row e' 1 kc (xs.take off ++ ys.take (min ys.length len) ++ xs.drop (off + min ys.length len)))) w' ∧
      Adv [] φ σ w φ (σ.set l (.row e' 1 kc (xs.take off ++ ys.take (min ys.length len) ++ xs.drop (off + min ys.length len)))) w' := by
  obtain ⟨as, cap, c, rfl, ⟨hcl, hch⟩, haddr, hcap⟩ := elemsOf_sound R hy hx
  cases hd with | one _ _ hd => cases hd with | own _ _ _ _ g ad hg hgc had =>
  by_cases h0 : min ys.length len = 0
  · refine ⟨w, ?_, ?_⟩
    · rw [h0]; exact slice_same w P hu hs _ _ _ _ _ _ h0
    · rw [h0]
      have : xs.take off ++ ys.take 0 ++ xs.drop (off + 0) = xs := by simp
      rw [this, set_self hl]
      exact ⟨R, Adv.refl _ _ _⟩
  · have hn1 : ys ≠ [] := by rintro rfl; simp at h0
    have hlen : 0 < len := by omega
    obtain ⟨b, o, rfl, hr⟩ := haddr hn1
    have hoc : off < g.cap := by omega
    rw [had hoc]
    obtain ⟨k0, k1, k2, k3, k4⟩ := R.obj l _ g hl hg.1
    obtain ⟨cur, k5, k6, k7⟩ := k4 (by omega)
    let n := min ys.length len
    have hcl' : c.length = ys.length := by simpa using hcl
    have hct : (c.take n).length = n := by rw [List.length_take, hcl']; omega
    have hone : ∀ v ∈ c.take n, v.oneCell' = true := fun v hv => hch.one hcl (by omega) v (List.mem_of_mem_take hv)
    have hrun := run_copy_row (P := P) w dT sT ty e g.b (off * 1) len (g.cap - off) ⟨b, o, none⟩ ys.length cap cur e' (c.take n) hu (by simpa [szOf] using hs) k5 hct (fun j v hj => by
      have hadd : (⟨b, o, none⟩ : Addr).add j = ⟨b, o + j, none⟩ := by unfold Addr.add; split <;> simp_all
      rw [hadd]
      rw [List.getElem?_take] at hj
      split at hj
      · exact hr j v hj
      · cases hj) (by rw [hct]; simp at k6; omega) hone
    refine ⟨_, by rw [hrun, hct], ?_⟩
    have key := R.upd (w' := w.setRow g.b (cur.toList.take (off * 1) ++ c.take n ++ cur.toList.drop (off * 1 + (c.take n).length)).toArray) [] l _ (.row e' 1 kc (xs.take off ++ ys.take n ++ xs.drop (off + n))) g g hl hg.1 (.inr (.inl rfl)) (by simp)
      (by
        have k := kept_setRow w g.b (cur.toList.take (off * 1) ++ c.take n ++ cur.toList.drop (off * 1 + (c.take n).length)).toArray
        exact ⟨k.os, k.tape, k.output, k.size, fun b hb hn => k.block b hb (fun q => hn ⟨by omega, q.symm⟩)⟩)
      (fun b hb => .inl hb) (fun M => by
        rw [obkill_nil]
        rw [set_self hg.1] at M ⊢
        refine ⟨k0, k1, by simp; omega, k3, fun _ => ⟨_, setRow_heap w g.b cur _ _ _ k5, ?_, ?_⟩⟩
        · simp at k6 ⊢; omega
        · have r1 := (k7.still M).take off (by omega)
          have r2 := (hch.still M).take n (by omega)
          have r3 := (k7.still M).drop (off + n)
          have a1 := RowIn.append (r := []) r1 (by simp at k6 ⊢; omega) r2 (by simp; omega)
          have r4 := r3.take (xs.length - (off + n)) (by simp)
          have a2 := RowIn.append (r := (cur.toList.drop ((off + n) * 1)).drop ((xs.length - (off + n)) * 1)) a1 (by simp at k6 ⊢; omega) r4 (by simp at k6 ⊢; omega)
          rw [List.take_of_length_le (l := xs.drop (off + n)) (by simp)] at a2
          simp only [List.append_assoc, List.take_append_drop, List.nil_append, Nat.mul_one] at a2
          simpa [hct, List.append_assoc] using a2)
    rw [set_self hg.1, killS_nil, hct] at key
    exact key
end Go.Proofs.Dl

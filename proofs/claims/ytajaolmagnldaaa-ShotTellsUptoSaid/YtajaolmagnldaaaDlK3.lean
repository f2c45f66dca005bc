/- A logic of plain data over the model, proved sound: part K3; conditions stand in each theorem. -/
import Derived.Test.YtajaolmagnldaaaDlK2
set_option linter.unusedVariables false
/-! clear; the first place of a byte. -/
namespace Go.Proofs.Dl
variable {F : Nat → Prop}
theorem zeroCells_list (z : Array Value) (n : Nat) : (Builtin.zeroCells z n).toList.length = n * z.size := by simp [size_zeroCells]
theorem zeroCells_one {z : Array Value} (h : ∀ v ∈ z.toList, v.oneCell' = true) (n : Nat) : ∀ v ∈ (Builtin.zeroCells z n).toList, v.oneCell' = true := by
  intro v hv
  simp only [Builtin.zeroCells, Array.toList_map, List.mem_map] at hv
  obtain ⟨i, hi, rfl⟩ := hv
  have hi' : i < n * z.size := by simpa using hi
  have hz : 0 < z.size := by
    rcases Nat.eq_zero_or_pos z.size with h0 | h0
    · rw [h0] at hi'; omega
    · exact h0
  have hlt : i % z.size < z.size := Nat.mod_lt _ hz
  rw [getElem!_pos z _ hlt]
  exact h _ (by simp)
theorem clear_sound {P : Program} {φ : List G} {σ : Store} {w : World} (R : Rel F φ σ w) {t ty e e' : TypeId} {z : List Value} {zs : List Dd} (hu : P.underlying t = some (.slice e)) (hs : szOf P e = some zs.length) (hz : zeroOf P e = some z) (hm : mDs zs z = true)
    {l off len kc sz2 : Nat} {xs : List (List Dd)} {vd : Value} (hd : VR φ (Okb F φ σ w) w (.one (.own l zs.length off len)) vd) (hl : σ[l]? = some (.row e' sz2 kc xs)) (h2 : sz2 = zs.length) (ho : off + len ≤ xs.length) :
    ∃ w', (Builtin.clear_ #[t] ty #[vd]).run P w = .ok (.tuple #[]) w' ∧ Rel F φ (σ.set l (.row e' sz2 kc (xs.take off))) w' ∧ Adv [] φ σ w φ (σ.set l (.row e' sz2 kc (xs.take off))) w' := by
  subst h2
  cases hd with | one _ _ hd => cases hd with | own _ _ _ _ g ad hg hgc had =>
  obtain ⟨v, hv, hvl⟩ := zeroOf_run hz w
  have cr : CR ([] : List G) (fun _ => False) w zs v.cells.toList := by rw [hvl]; exact mDs_sound hm
  have hvs : v.cells.size = zs.length := by have := cr.1; simpa using this
  obtain ⟨k0, k1, k2, k3, k4⟩ := R.obj l _ g hl hg.1
  have hset : φ.set l g = φ := set_self hg.1
  by_cases h0 : len = 0
  · subst h0
    have hrun : (Builtin.clear_ #[t] ty #[.slice ad 0 (g.cap - off)]).run P w = .ok (.tuple #[]) w := by
      cases ad <;> simp [Builtin.clear_, run_underlying hu]
    refine ⟨w, hrun, ?_⟩
    have key := R.upd (w' := w) [] l _ (.row e' zs.length kc (xs.take off)) g g hl hg.1 (.inr (.inl rfl)) (by simp) (Kept.refl _ _) (fun b hb => .inl hb) (fun M => by
      rw [obkill_nil]
      rw [hset] at M ⊢
      refine ⟨k0, k1, by simp; omega, k3, fun hp => ?_⟩
      obtain ⟨cur, k5, k6, k7⟩ := k4 hp
      exact ⟨cur, k5, k6, fun i es hi => by
        rw [List.getElem?_take] at hi
        split at hi
        · exact ⟨(k7 i es hi).1, (k7 i es hi).2.still M⟩
        · cases hi⟩)
    rw [hset, killS_nil] at key
    exact key
  · have hoc : off < g.cap := by omega
    rw [had hoc]
    obtain ⟨cur, k5, k6, k7⟩ := k4 (by omega)
    let zc := (Builtin.zeroCells v.cells len).toList
    have hzl : zc.length = len * zs.length := by simp only [zc]; rw [zeroCells_list, hvs]
    have hfit : off * zs.length + 0 + zc.length ≤ cur.size := by
      rw [hzl, k6, Nat.add_zero, ← Nat.add_mul]
      exact Nat.mul_le_mul_right _ hgc
    have hst := run_storeCells_at P g.b (off * zs.length) e' zc 0 cur w k5 hfit (zeroCells_one cr.one len)
    have hrun : (Builtin.clear_ #[t] ty #[.slice (some ⟨g.b, off * zs.length, none⟩) len (g.cap - off)]).run P w = .ok (.tuple #[]) (w.setRow g.b (cur.toList.take (off * zs.length) ++ zc ++ cur.toList.drop (off * zs.length + zc.length)).toArray) := by
      obtain ⟨m, rfl⟩ : ∃ m, len = m + 1 := ⟨len - 1, by omega⟩
      simp only [Nat.add_zero] at hst
      simp [Builtin.clear_, run_underlying hu, hv, zc, hst]
    refine ⟨_, hrun, ?_⟩
    have key := R.upd (w' := w.setRow g.b (cur.toList.take (off * zs.length) ++ zc ++ cur.toList.drop (off * zs.length + zc.length)).toArray) [] l _ (.row e' zs.length kc (xs.take off)) g g hl hg.1 (.inr (.inl rfl)) (by simp)
      (by
        have k := kept_setRow w g.b (cur.toList.take (off * zs.length) ++ zc ++ cur.toList.drop (off * zs.length + zc.length)).toArray
        exact ⟨k.os, k.tape, k.output, k.size, fun b hb hn => k.block b hb (fun q => hn ⟨by omega, q.symm⟩)⟩)
      (fun b hb => .inl hb) (fun M => by
        rw [obkill_nil]
        rw [hset] at M ⊢
        refine ⟨k0, k1, by simp; omega, k3, fun _ => ⟨_, setRow_heap w g.b cur _ _ _ k5, ?_, ?_⟩⟩
        · simp at k6 hfit hzl ⊢; omega
        · have r1 := (k7.still M).take off (by omega)
          have hmin : min off xs.length = off := by omega
          have a1 := RowIn.append (r := zc ++ cur.toList.drop (off * zs.length + zc.length)) (ys := []) (d := []) r1 (by rw [List.length_take, List.length_take, hmin]; simp at hfit ⊢; omega) (fun i es hi => by simp at hi) (by simp)
          simpa [List.append_assoc] using a1)
    rw [hset, killS_nil] at key
    exact key
theorem find_idx {fn : Func} (h : fn.name = "internal/bytealg.IndexByteString") : Extern.find fn = some Extern.BytealgIndexByte.indexByte := by
  unfold Extern.find
  rw [h]
  kernel_rfl
end Go.Proofs.Dl

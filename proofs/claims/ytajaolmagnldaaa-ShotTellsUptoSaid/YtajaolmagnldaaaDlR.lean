/- A logic of plain data over the model, proved sound: part R; conditions stand in each theorem. -/
import Derived.Test.YtajaolmagnldaaaDlQ
set_option linter.unusedVariables false
/-! Contracts over nothing but pure data. -/
namespace Go.Proofs.Dl
mutual
theorem Dd.ren_pure (ρ : Nat → Nat) : ∀ {d : Dd}, d.nbel 0 = true → d.ren ρ = d
  | .ptr _ _, h | .eptr _ _ _ _, h | .own _ _ _ _, h | .cown _ _ _ _, h | .mp _, h => by simp [Dd.nbel] at h
  | .fn f cap, h => by simp only [Dd.nbel] at h; rw [Dd.ren, Dd.renL_pure ρ h]
  | .top, _ | .p _, _ | .nil _, _ | .null, _ | .nullm, _ | .nullf, _ | .cptr _, _ => rfl
theorem Dd.renL_pure (ρ : Nat → Nat) : ∀ {l : List Dd}, Dd.nbelL 0 l = true → Dd.renL ρ l = l
  | [], _ => rfl
  | d :: r, h => by simp only [Dd.nbelL, Bool.and_eq_true] at h; rw [Dd.renL, Dd.ren_pure ρ h.1, Dd.renL_pure ρ h.2]
end
mutual
theorem Vv.ren_pure (ρ : Nat → Nat) : ∀ {v : Vv}, v.nbel 0 = true → v.ren ρ = v
  | .top, _ => rfl
  | .one d, h => by simp only [Vv.nbel] at h; rw [Vv.ren, Dd.ren_pure ρ h]
  | .agg ds, h => by simp only [Vv.nbel] at h; rw [Vv.ren, Dd.renL_pure ρ h]
  | .tup vs, h => by simp only [Vv.nbel] at h; rw [Vv.ren, Vv.renL_pure ρ h]
theorem Vv.renL_pure (ρ : Nat → Nat) : ∀ {l : List Vv}, Vv.nbelL 0 l = true → Vv.renL ρ l = l
  | [], _ => rfl
  | d :: r, h => by simp only [Vv.nbelL, Bool.and_eq_true] at h; rw [Vv.renL, Vv.ren_pure ρ h.1, Vv.renL_pure ρ h.2]
end
/-- Pure data in, pure data out: in every store. -/
theorem Ok.pure {P : Program} {f : FuncId} {args : List Vv} {res : Vv} (h : Ok P f args [] res []) (ha : Vv.nbelL 0 args = true) (hr : res.nbel 0 = true) (σ : Store) : Ok P f args σ res σ := by
  have := h.frame [] σ (by simp) (by simp) rfl (fun i o l h => by simp at h) rfl ha (Nat.le_refl _)
  rw [Vv.renL_pure _ ha, Vv.ren_pure _ hr] at this
  simpa [joinS, updS] using this
end Go.Proofs.Dl

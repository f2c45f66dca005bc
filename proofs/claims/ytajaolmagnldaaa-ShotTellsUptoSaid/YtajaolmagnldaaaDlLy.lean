/- A logic of plain data over the model, proved sound: part Ly; conditions stand in each theorem. -/
import Derived.Test.YtajaolmagnldaaaDlV
import Derived.Test.YtajaolmagnldaaaProg
set_option linter.unusedVariables false
set_option linter.unusedSimpArgs false
namespace Go.Proofs.Ga
open Go.Proofs.Dl Go.Shelf
def rho : Ren := ⟨fun n => if n = 21 then 120 else if n = 27 then 169 else if n = 28 then 170 else if n = 35 then 207 else 116, fun n => if n = 22 then 39 else n, fun n => n⟩
theorem lays21 : Lays2.n21 Try.prog rho where
  mixed := by kernel_rfl
  f21 := by kernel_rfl
  f27 := by kernel_rfl
  f28 := by kernel_rfl
  f35 := by kernel_rfl
  f39 := by kernel_rfl
  t0 := by kernel_rfl
  a0 := lay_a (by kernel_rfl)
  z0 := lay_z (by kernel_rfl)
  v0 := lay_v (by kernel_rfl)
  t3 := by kernel_rfl
  a3 := lay_a (by kernel_rfl)
  z3 := lay_z (by kernel_rfl)
  v3 := lay_v (by kernel_rfl)
  t4 := by kernel_rfl
  a4 := lay_a (by kernel_rfl)
  z4 := lay_z (by kernel_rfl)
  v4 := lay_v (by kernel_rfl)
  t22 := by kernel_rfl
  a22 := lay_a (by kernel_rfl)
  z22 := lay_z (by kernel_rfl)
  v22 := lay_v (by kernel_rfl)
  i3 := by kernel_rfl
end Go.Proofs.Ga

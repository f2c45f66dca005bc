/- What the functions compute answers as the law says: plain data, no program in sight; conditions stand in each theorem. -/
import Derived.Test.YtajaolmagnldaaaG11
set_option maxRecDepth 100000
set_option linter.unusedVariables false
set_option linter.unusedSimpArgs false
namespace Go.Proofs.Ga
open Go.Proofs.Dl
namespace P11
theorem wrapN (n : Int) (h : -9223372036854775808 ≤ n) (h' : n < 9223372036854775808) : w64 n = n := by
  unfold w64 IntKind.wrap
  simp [IntKind.signed, IntKind.bits]
  omega
theorem own (n : Int) : w64 (1 + Int.tmod (w64 (Int.tmod n 3 + 3)) 3) = 1 ∨ w64 (1 + Int.tmod (w64 (Int.tmod n 3 + 3)) 3) = 2 ∨ w64 (1 + Int.tmod (w64 (Int.tmod n 3 + 3)) 3) = 3 := by
  have h1 : -3 < Int.tmod n 3 ∧ Int.tmod n 3 < 3 := ⟨Int.lt_tmod_of_pos n (by omega), Int.tmod_lt_of_pos n (by omega)⟩
  rw [wrapN (Int.tmod n 3 + 3) (by omega) (by omega)]
  generalize Int.tmod n 3 = m at h1
  have h2 : 0 ≤ Int.tmod (m + 3) 3 ∧ Int.tmod (m + 3) 3 < 3 := ⟨Int.tmod_nonneg 3 (by omega), Int.tmod_lt_of_pos _ (by omega)⟩
  rw [wrapN _ (by omega) (by omega)]
  omega
theorem who (n : Int) : Int.tmod (w64 (Int.tmod n 4 + 4)) 4 = 0 ∨ Int.tmod (w64 (Int.tmod n 4 + 4)) 4 = 1 ∨ Int.tmod (w64 (Int.tmod n 4 + 4)) 4 = 2 ∨ Int.tmod (w64 (Int.tmod n 4 + 4)) 4 = 3 := by
  have h1 : -4 < Int.tmod n 4 ∧ Int.tmod n 4 < 4 := ⟨Int.lt_tmod_of_pos n (by omega), Int.tmod_lt_of_pos n (by omega)⟩
  rw [wrapN (Int.tmod n 4 + 4) (by omega) (by omega)]
  generalize Int.tmod n 4 = m at h1
  have h2 : 0 ≤ Int.tmod (m + 4) 4 ∧ Int.tmod (m + 4) 4 < 4 := ⟨Int.tmod_nonneg 4 (by omega), Int.tmod_lt_of_pos _ (by omega)⟩
  omega
theorem law (owner whose : Int) (inside gone : Bool) : law26_CapsSees.f 100 owner whose inside gone = some true := by
  unfold law26_CapsSees.f
  rcases own owner with h | h | h <;> rcases who whose with h' | h' | h' | h' <;> rw [h, h'] <;> cases inside <;> cases gone <;> kernel_rfl
end P11
end Go.Proofs.Ga

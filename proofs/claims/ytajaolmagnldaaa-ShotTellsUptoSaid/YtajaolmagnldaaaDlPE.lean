/- A logic of plain data over the model, proved sound: part PE; conditions stand in each theorem. -/
import Derived.Test.YtajaolmagnldaaaDlPD
set_option maxRecDepth 100000
set_option linter.unusedVariables false
set_option linter.unusedSimpArgs false
/-! A node is made. -/
namespace Go.Proofs.Ga
open Go.Proofs.Dl
namespace PA
open Fo
structure Cnt (i u0 u1 u2 u3 l0 l1 l2 l3 : Int) : Prop where
  a0 : 0 ≤ u0 ∧ u0 ≤ i
  a1 : 0 ≤ u1 ∧ u1 ≤ i
  a2 : 0 ≤ u2 ∧ u2 ≤ i
  a3 : 0 ≤ u3 ∧ u3 ≤ i
  b0 : 0 ≤ l0 ∧ l0 ≤ i + 1
  b1 : 0 ≤ l1 ∧ l1 ≤ i + 1
  b2 : 0 ≤ l2 ∧ l2 ≤ i + 1
  b3 : 0 ≤ l3 ∧ l3 ≤ i + 1
def keyOk (u0 u1 u2 u3 j : Int) : Prop := (0 ≤ j ∧ j ≤ u0) ∨ (1048577 ≤ j ∧ j ≤ 1048576 + u1) ∨ (2097153 ≤ j ∧ j ≤ 2097152 + u2) ∨ (3145729 ≤ j ∧ j ≤ 3145728 + u3)
def mkN (id o kind : Int) (t : api_Str) (key : List UInt8) (slot : Int) : arena_Node := ⟨id, o, -1, kind, t, key, slot, [], [], [], noS⟩
theorem mkN_ok {id o kind : Int} {t : api_Str} {key : List UInt8} {slot : Int} (ht : okS t) : okN (mkN id o kind t key slot) :=
  ⟨ht, ok_no, rfl, Nat.zero_le _, Nat.zero_le _⟩
theorem make (o kind : Int) (tag : api_Str) (key : List UInt8) (slot : Int) (ht : okS tag) (ho : o = 0 ∨ o = 1 ∨ o = 2 ∨ o = 3) (hk : 1 ≤ kind ∧ kind ≤ 3) {i u0 u1 u2 u3 l0 l1 l2 l3 : Int} (hc : Cnt i u0 u1 u2 u3 l0 l1 l2 l3) (hi : i ≤ 26) (m : M) :
    ∃ (id v0 v1 v2 v3 w0 w1 w2 w3 : Int) (t : api_Str), okS t ∧ Ev (fun k => arena_Arena_Make.f k o kind tag key slot u0 u1 u2 u3 l0 l1 l2 l3 m) (id, 0, v0, v1, v2, v3, w0, w1, w2, w3, aput m id (mkN id o kind t key slot)) ∧
      Cnt (i + 1) v0 v1 v2 v3 w0 w1 w2 w3 ∧ (∀ j, keyOk u0 u1 u2 u3 j → keyOk v0 v1 v2 v3 j) ∧ keyOk v0 v1 v2 v3 id ∧ ¬ keyOk u0 u1 u2 u3 id ∧ 0 < id := by
  obtain ⟨t, htt, ot, et⟩ := fix tag ht
  obtain ⟨a0, a1, a2, a3, b0, b1, b2, b3⟩ := hc
  have k1 : ¬ kind < 1 := by omega
  have k3 : ¬ kind > 3 := by omega
  rcases ho with rfl | rfl | rfl | rfl
  · have hf : arena_Arena_full.f 0 u0 u1 u2 u3 l0 l1 l2 l3 = some false := by
      unfold arena_Arena_full.f
      rw [if_pos rfl, show arena_most.f 0 = some 128 from rfl]
      simp only [Option.bind_some]
      rw [if_neg (by omega), decide_eq_false (by omega)]
    have hn : arena_Arena_Next.f 0 u0 u1 u2 u3 l0 l1 l2 l3 = some (u0 + 1) := by
      unfold arena_Arena_Next.f
      rw [show arena_Arena_is.f = some () from rfl, show arena_known.f 0 = some true from rfl]
      simp only [Option.bind_some, hf, Bool.not_true, Bool.false_eq_true, if_false, if_true]
      rw [wrapN (0 + u0) (by omega) (by omega), wrapN _ (by omega) (by omega), Int.zero_add]
    refine ⟨u0 + 1, u0 + 1, u1, u2, u3, l0 + 1, l1, l2, l3, t, ot, ?_, ⟨by omega, by omega, by omega, by omega, by omega, by omega, by omega, by omega⟩, ?_, ?_, ?_, by omega⟩
    · unfold arena_Arena_Make.f
      rw [show arena_Arena_is.f = some () from rfl, show arena_known.f 0 = some true from rfl]
      simp only [Option.bind_some, hf, hn, Bool.not_true, Bool.false_eq_true, if_false, if_true, if_neg k1, if_neg k3]
      refine Ev.bind et ?_
      rw [wrapN _ (by omega) (by omega), wrapN _ (by omega) (by omega)]
      exact Ev.pure _
    all_goals (unfold keyOk; omega)
  · have hf : arena_Arena_full.f 1 u0 u1 u2 u3 l0 l1 l2 l3 = some false := by
      unfold arena_Arena_full.f
      rw [if_neg (by decide), if_pos rfl, show arena_most.f 1 = some 32 from rfl]
      simp only [Option.bind_some]
      rw [if_neg (by omega), decide_eq_false (by omega)]
    have hn : arena_Arena_Next.f 1 u0 u1 u2 u3 l0 l1 l2 l3 = some (1048576 + u1 + 1) := by
      unfold arena_Arena_Next.f
      rw [show arena_Arena_is.f = some () from rfl, show arena_known.f 1 = some true from rfl]
      simp only [Option.bind_some, hf, Bool.not_true, Bool.false_eq_true, if_false, if_true, if_neg (show ¬ (1 : Int) = 0 by decide)]
      rw [wrapN (1048576 + u1) (by omega) (by omega), wrapN _ (by omega) (by omega)]
    refine ⟨1048576 + u1 + 1, u0, u1 + 1, u2, u3, l0, l1 + 1, l2, l3, t, ot, ?_, ⟨by omega, by omega, by omega, by omega, by omega, by omega, by omega, by omega⟩, ?_, ?_, ?_, by omega⟩
    · unfold arena_Arena_Make.f
      rw [show arena_Arena_is.f = some () from rfl, show arena_known.f 1 = some true from rfl]
      simp only [Option.bind_some, hf, hn, Bool.not_true, Bool.false_eq_true, if_false, if_true, if_neg k1, if_neg k3, if_neg (show ¬ (1 : Int) = 0 by decide)]
      refine Ev.bind et ?_
      rw [wrapN _ (by omega) (by omega), wrapN _ (by omega) (by omega)]
      exact Ev.pure _
    all_goals (unfold keyOk; omega)
  · have hf : arena_Arena_full.f 2 u0 u1 u2 u3 l0 l1 l2 l3 = some false := by
      unfold arena_Arena_full.f
      rw [if_neg (by decide), if_neg (by decide), if_pos rfl, show arena_most.f 2 = some 32 from rfl]
      simp only [Option.bind_some]
      rw [if_neg (by omega), decide_eq_false (by omega)]
    have hn : arena_Arena_Next.f 2 u0 u1 u2 u3 l0 l1 l2 l3 = some (2097152 + u2 + 1) := by
      unfold arena_Arena_Next.f
      rw [show arena_Arena_is.f = some () from rfl, show arena_known.f 2 = some true from rfl]
      simp only [Option.bind_some, hf, Bool.not_true, Bool.false_eq_true, if_false, if_true, if_neg (show ¬ (2 : Int) = 0 by decide), if_neg (show ¬ (2 : Int) = 1 by decide)]
      rw [wrapN (2097152 + u2) (by omega) (by omega), wrapN _ (by omega) (by omega)]
    refine ⟨2097152 + u2 + 1, u0, u1, u2 + 1, u3, l0, l1, l2 + 1, l3, t, ot, ?_, ⟨by omega, by omega, by omega, by omega, by omega, by omega, by omega, by omega⟩, ?_, ?_, ?_, by omega⟩
    · unfold arena_Arena_Make.f
      rw [show arena_Arena_is.f = some () from rfl, show arena_known.f 2 = some true from rfl]
      simp only [Option.bind_some, hf, hn, Bool.not_true, Bool.false_eq_true, if_false, if_true, if_neg k1, if_neg k3, if_neg (show ¬ (2 : Int) = 0 by decide), if_neg (show ¬ (2 : Int) = 1 by decide)]
      refine Ev.bind et ?_
      rw [wrapN _ (by omega) (by omega), wrapN _ (by omega) (by omega)]
      exact Ev.pure _
    all_goals (unfold keyOk; omega)
  · have hf : arena_Arena_full.f 3 u0 u1 u2 u3 l0 l1 l2 l3 = some false := by
      unfold arena_Arena_full.f
      rw [if_neg (by decide), if_neg (by decide), if_neg (by decide), if_pos rfl, show arena_most.f 3 = some 32 from rfl]
      simp only [Option.bind_some]
      rw [if_neg (by omega), decide_eq_false (by omega)]
    have hn : arena_Arena_Next.f 3 u0 u1 u2 u3 l0 l1 l2 l3 = some (3145728 + u3 + 1) := by
      unfold arena_Arena_Next.f
      rw [show arena_Arena_is.f = some () from rfl, show arena_known.f 3 = some true from rfl]
      simp only [Option.bind_some, hf, Bool.not_true, Bool.false_eq_true, if_false, if_true, if_neg (show ¬ (3 : Int) = 0 by decide), if_neg (show ¬ (3 : Int) = 1 by decide), if_neg (show ¬ (3 : Int) = 2 by decide)]
      rw [wrapN (3145728 + u3) (by omega) (by omega), wrapN _ (by omega) (by omega)]
    refine ⟨3145728 + u3 + 1, u0, u1, u2, u3 + 1, l0, l1, l2, l3 + 1, t, ot, ?_, ⟨by omega, by omega, by omega, by omega, by omega, by omega, by omega, by omega⟩, ?_, ?_, ?_, by omega⟩
    · unfold arena_Arena_Make.f
      rw [show arena_Arena_is.f = some () from rfl, show arena_known.f 3 = some true from rfl]
      simp only [Option.bind_some, hf, hn, Bool.not_true, Bool.false_eq_true, if_false, if_true, if_neg k1, if_neg k3, if_neg (show ¬ (3 : Int) = 0 by decide), if_neg (show ¬ (3 : Int) = 1 by decide), if_neg (show ¬ (3 : Int) = 2 by decide)]
      refine Ev.bind et ?_
      rw [wrapN _ (by omega) (by omega), wrapN _ (by omega) (by omega)]
      exact Ev.pure _
    all_goals (unfold keyOk; omega)
end PA
end Go.Proofs.Ga

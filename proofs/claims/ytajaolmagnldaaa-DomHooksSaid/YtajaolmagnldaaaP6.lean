/- What the functions compute answers as the law says: plain data, no program in sight; conditions stand in each theorem. -/
import Derived.Test.YtajaolmagnldaaaG6
set_option maxRecDepth 100000
set_option linter.unusedVariables false
set_option linter.unusedSimpArgs false
namespace Go.Proofs.Ga
open Go.Proofs.Dl
namespace P6
theorem alive : ∀ k, law20_alive.f (k + 100) = some true := fun k => by kernel_rfl
def divN : arena_Node := ⟨0, 0, -1, 1, ⟨[100, 105, 118], [⟨3, 0⟩]⟩, [], 0, [], [], [], ⟨[], []⟩⟩
def nd (t : Int) (h : List api_Hook) : arena_Node := ⟨1, 0, -1, t, ⟨[112], [⟨1, 0⟩]⟩, [], 0, [], h, [], ⟨[], []⟩⟩
def ar (t : Int) (h : List api_Hook) : List (Int × arena_Node) := [(0, divN), (1, nd t h)]
theorem new : arena_New.f = some [(0, divN)] := rfl
theorem ofp : mark_Of.f [112] 0 = some ⟨[112], [⟨1, 0⟩]⟩ := rfl
theorem make1 : ∀ k, arena_Arena_Make.f (k + 100) 0 1 ⟨[112], [⟨1, 0⟩]⟩ [] 0 0 0 0 0 1 0 0 0 [(0, divN)] = some (1, 0, 1, 0, 0, 0, 2, 0, 0, 0, ar 1 []) := fun k => by kernel_rfl
theorem make2 : ∀ k, arena_Arena_Make.f (k + 100) 0 2 ⟨[112], [⟨1, 0⟩]⟩ [] 0 0 0 0 0 1 0 0 0 [(0, divN)] = some (1, 0, 1, 0, 0, 0, 2, 0, 0, 0, ar 2 []) := fun k => by kernel_rfl
theorem make3 : ∀ k, arena_Arena_Make.f (k + 100) 0 3 ⟨[112], [⟨1, 0⟩]⟩ [] 0 0 0 0 0 1 0 0 0 [(0, divN)] = some (1, 0, 1, 0, 0, 0, 2, 0, 0, 0, ar 3 []) := fun k => by kernel_rfl
theorem own (k : Nat) (t : Int) (h : List api_Hook) (hr : h.length * 24 ≤ room) : arena_own.f (k + 100) (nd t h) = some (nd t h) := by
  have : arena_own.f (k + 100) (nd t h) = if h.length * 24 ≤ room then some (nd t h) else none := by kernel_rfl
  rw [this, if_pos hr]
theorem get (k : Nat) (t : Int) (h : List api_Hook) (hr : h.length * 24 ≤ room) : arena_Arena_Get.f (k + 100) 1 1 0 0 0 2 0 0 0 (ar t h) = some (nd t h, true) := by
  have : arena_Arena_Get.f (k + 100) 1 1 0 0 0 2 0 0 0 (ar t h) = (arena_own.f (k + 100) (nd t h)).bind fun t => some (t, true) := by kernel_rfl
  rw [this, own k t h hr]; rfl
theorem set (k : Nat) (t : Int) (h g : List api_Hook) (hr : h.length * 24 ≤ room) : arena_Arena_Set.f (k + 100) (nd t h) 1 0 0 0 2 0 0 0 (ar t g) = some (0, ar t h) := by
  have : arena_Arena_Set.f (k + 100) (nd t h) 1 0 0 0 2 0 0 0 (ar t g) = (arena_own.f (k + 100) (nd t h)).bind fun n => some (0, aput (ar t g) n.Id ⟨1, 0, n.Parent, t, ⟨[112], [⟨1, 0⟩]⟩, [], 0, n.Attrs, n.Hooks, n.Kids, n.Text⟩) := by kernel_rfl
  rw [this, own k t h hr]; rfl
theorem r0 : ([] : List api_Hook).length * 24 ≤ room := by decide
theorem sh1 (k : Nat) (l : List api_Hook) (hr : l.length * 24 ≤ room) : dom_SetHooks.f (k + 100) 1 l 1 0 0 0 2 0 0 0 (ar 1 []) = some (0, ar 1 l) := by
  have : dom_SetHooks.f (k + 100) 1 l 1 0 0 0 2 0 0 0 (ar 1 []) = if l.length * 24 ≤ room then (arena_Arena_Set.f (k + 100) (nd 1 l) 1 0 0 0 2 0 0 0 (ar 1 [])).bind fun t => some (t.1, t.2) else none := by kernel_rfl
  rw [this, if_pos hr, set k 1 l [] hr]; rfl
theorem sh2 (k : Nat) (l : List api_Hook) : dom_SetHooks.f (k + 100) 1 l 1 0 0 0 2 0 0 0 (ar 2 []) = some (12, ar 2 []) := by kernel_rfl
theorem sh3 (k : Nat) (l : List api_Hook) : dom_SetHooks.f (k + 100) 1 l 1 0 0 0 2 0 0 0 (ar 3 []) = some (12, ar 3 []) := by kernel_rfl
theorem shno (k : Nat) (l : List api_Hook) (t : Int) (h : List api_Hook) : dom_SetHooks.f (k + 100) 99 l 1 0 0 0 2 0 0 0 (ar t h) = some (14, ar t h) := by kernel_rfl
theorem wrapN (n : Int) (h : -9223372036854775808 ≤ n) (h' : n < 9223372036854775808) : w64 n = n := by
  unfold w64 IntKind.wrap
  simp [IntKind.signed, IntKind.bits]
  omega
theorem kd (n : Int) : w64 (1 + Int.tmod (w64 (Int.tmod n 3 + 3)) 3) = 1 ∨ w64 (1 + Int.tmod (w64 (Int.tmod n 3 + 3)) 3) = 2 ∨ w64 (1 + Int.tmod (w64 (Int.tmod n 3 + 3)) 3) = 3 := by
  have h1 : -3 < Int.tmod n 3 ∧ Int.tmod n 3 < 3 := ⟨Int.lt_tmod_of_pos n (by omega), Int.tmod_lt_of_pos n (by omega)⟩
  rw [wrapN (Int.tmod n 3 + 3) (by omega) (by omega)]
  generalize Int.tmod n 3 = m at h1
  have h2 : 0 ≤ Int.tmod (m + 3) 3 ∧ Int.tmod (m + 3) 3 < 3 := ⟨Int.tmod_nonneg 3 (by omega), Int.tmod_lt_of_pos _ (by omega)⟩
  rw [wrapN _ (by omega) (by omega)]
  omega
theorem loop (l : List api_Hook) (hl : l.length < 4611686018427387904) (nodeA : Int) (b1 b2 b3 b4 : Int) (t1 : List UInt8) (r1 : List api_Run) (ky : List UInt8) (sl : Int) (at_ : List api_Attr) (tt : List UInt8) (rr : List api_Run) (ks : List Int) :
    ∀ n i : Nat, i + n = l.length → ∀ k, law20_DomHooks_l1 (k + n + 1) l nodeA b1 b2 b3 b4 t1 r1 ky sl at_ tt rr l ks (i : Int) = some (.inr ()) := by
  intro n
  induction n with
  | zero =>
    intro i hi k
    show law20_DomHooks_l1 (k + 1) _ _ _ _ _ _ _ _ _ _ _ _ _ _ _ _ = _
    rw [law20_DomHooks_l1, if_neg (by omega)]
  | succ n ih =>
    intro i hi k
    rw [law20_DomHooks_l1, if_pos (by omega), if_neg (by omega)]
    obtain ⟨x, hx⟩ : ∃ x, idx l (i : Int) = some x := by
      unfold idx
      rw [if_pos (by omega)]
      exact ⟨l[i]'(by omega), by simp⟩
    rw [hx]
    simp only [Option.bind_some]
    rw [if_neg (by simp), wrapN _ (by omega) (by omega)]
    exact ih (i + 1) (by omega) k
theorem law (l : List api_Hook) (hl : l.length * 24 ≤ room) (kind : Int) : ∃ k, law20_DomHooks.f k l kind = some true := by
  refine ⟨l.length + 1 + 100, ?_⟩
  have hn : (l.length : Int) < 4611686018427387904 := by unfold room at hl; omega
  unfold law20_DomHooks.f
  rw [alive, new]
  simp only [Option.bind_some, ofp, Bool.not_true, Bool.false_eq_true, if_false]
  rcases kd kind with h | h | h
  · rw [h, make1]
    simp only [Option.bind_some, sh1 _ l hl, get _ _ l hl, shno]
    have := loop l (by omega) 0 1 0 (-1) 1 [112] [⟨1, 0⟩] [] 0 [] [] [] [] l.length 0 (by omega) 100
    rw [show l.length + 1 + 100 = 100 + l.length + 1 by omega]
    simp [nd] at this ⊢
    rw [this]
    simp
  · rw [h, make2]
    simp only [Option.bind_some, sh2 _ l, get _ _ [] r0, shno]
    simp [nd]
  · rw [h, make3]
    simp only [Option.bind_some, sh3 _ l, get _ _ [] r0, shno]
    simp [nd]
end P6
end Go.Proofs.Ga

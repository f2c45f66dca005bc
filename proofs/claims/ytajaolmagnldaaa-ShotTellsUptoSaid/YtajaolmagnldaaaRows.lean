/-
  NARROWER THAN 'FOR EVERY INPUT', by the rows' own cells (each row's printed sentence says how): ChooseTells: loops · ChooseAny: loops · SerialValid: loops · CleanTells: loops · CleanTwice: loops · CleanRight: loops.
  DERIVED. THE GIVEN ROWS OF THIS SEAT. 12 by the template 'for every input the law returns true; each argument reads behind the call as it read before'; 0 by the template 'total and deterministic' (their statements: YtajaolmagnldaaaTotals.lean).
  GIVEN WITH THE SEED: the statements are not yours to turn. If you find one false, say at which input.
  Laid BY PROGRAM, IN A SANDBOX (cutbox-rows.mjs): the forced cells as the released guide's own fill.sh prints them over the translation fa16cfd7dd246811… (all of the seat's roots in one cut). By AI agents, Wed Nov 11 2026. No macro, syntax, notation, axiom, sorry.
-/
import Derived.Test.YtajaolmagnldaaaChecked
import GoSem.Claim
import GoSem.ClaimJoined
import GoSem.ClaimMapViews
import Derived.JoinedTies
import Derived.KernelRfl
namespace Go.Proofs.Ytajaolmagnldaaa
/- THE CELL 'sum', in the pinned program and in every row, IS THE sha256 OF THE DUMP (.gsa) THAT YtajaolmagnldaaaProg.lean LOADS. Nothing in Lean hashes anything: it is a label: what it is worth is what the hold of that sum in a sandbox is worth. -/
noncomputable def Try.pinned : Pinned := { name := "ytajaolmagnldaaa", sum := "fa16cfd7dd24681105b1f6567e92ad378b065ea8bcf56346e957d7a1c2ecae54", checked := Try.checked }
namespace Rows
def none {H : Type} : Left H := { results := [], args := [] }

/-- 'glazierlaw39.ChooseTells': WHATEVER THE INPUT: true; the input reads as it did. -/
def chooseTellsSpec : ChangeSpec := { name := "chooseTells", fn := fun _ => fun
  | [d1, d2, d3] => { results := [.lit (.bool true)], args := [d1, d2, d3] }
  | _ => none }
def chooseTellsRow : OpenClaim := { program := "ytajaolmagnldaaa", sum := "fa16cfd7dd24681105b1f6567e92ad378b065ea8bcf56346e957d7a1c2ecae54", func := "glazier/glazierlaw39.ChooseTells", spec := "chooseTells", inPlace := ["internal/bytealg.IndexByteString"], unfollowed := true, recurses := true, loops := true, apart := false }
def ChooseTellsSaid : Prop := chooseTellsRow.holds Try.pinned (OpenSpec.ofChange chooseTellsSpec)

/-- ITS FALSE NEIGHBOUR: 'it returns false'. Refute it at one input. -/
def chooseTellsWrong : ChangeSpec := { name := "chooseTells", fn := fun _ => fun
  | [d1, d2, d3] => { results := [.lit (.bool false)], args := [d1, d2, d3] }
  | _ => none }
def ChooseTellsWrongFalsely : Prop := chooseTellsRow.holds Try.pinned (OpenSpec.ofChange chooseTellsWrong)

/-- 'glazierlaw39.ChooseAny': WHATEVER THE INPUT: true; the input reads as it did. -/
def chooseAnySpec : ChangeSpec := { name := "chooseAny", fn := fun _ => fun
  | [d1, d2] => { results := [.lit (.bool true)], args := [d1, d2] }
  | _ => none }
def chooseAnyRow : OpenClaim := { program := "ytajaolmagnldaaa", sum := "fa16cfd7dd24681105b1f6567e92ad378b065ea8bcf56346e957d7a1c2ecae54", func := "glazier/glazierlaw39.ChooseAny", spec := "chooseAny", inPlace := ["internal/bytealg.IndexByteString"], unfollowed := true, recurses := true, loops := true, apart := false }
def ChooseAnySaid : Prop := chooseAnyRow.holds Try.pinned (OpenSpec.ofChange chooseAnySpec)

/-- ITS FALSE NEIGHBOUR: 'it returns false'. Refute it at one input. -/
def chooseAnyWrong : ChangeSpec := { name := "chooseAny", fn := fun _ => fun
  | [d1, d2] => { results := [.lit (.bool false)], args := [d1, d2] }
  | _ => none }
def ChooseAnyWrongFalsely : Prop := chooseAnyRow.holds Try.pinned (OpenSpec.ofChange chooseAnyWrong)

/-- 'glazierlaw12.SerialValid': WHATEVER THE INPUT: true; the input reads as it did. -/
def serialValidSpec : ChangeSpec := { name := "serialValid", fn := fun _ => fun
  | [d] => { results := [.lit (.bool true)], args := [d] }
  | _ => none }
def serialValidRow : OpenClaim := { program := "ytajaolmagnldaaa", sum := "fa16cfd7dd24681105b1f6567e92ad378b065ea8bcf56346e957d7a1c2ecae54", func := "glazier/glazierlaw12.SerialValid", spec := "serialValid", inPlace := ["internal/bytealg.IndexByteString"], unfollowed := true, recurses := true, loops := true, apart := false }
def SerialValidSaid : Prop := serialValidRow.holds Try.pinned (OpenSpec.ofChange serialValidSpec)

/-- ITS FALSE NEIGHBOUR: 'it returns false'. Refute it at one input. -/
def serialValidWrong : ChangeSpec := { name := "serialValid", fn := fun _ => fun
  | [d] => { results := [.lit (.bool false)], args := [d] }
  | _ => none }
def SerialValidWrongFalsely : Prop := serialValidRow.holds Try.pinned (OpenSpec.ofChange serialValidWrong)

/-- 'glazierlaw20.DomHooks': WHATEVER THE INPUT: true; the input reads as it did. -/
def domHooksSpec : ChangeSpec := { name := "domHooks", fn := fun _ => fun
  | [d1, d2] => { results := [.lit (.bool true)], args := [d1, d2] }
  | _ => none }
def domHooksRow : OpenClaim := { program := "ytajaolmagnldaaa", sum := "fa16cfd7dd24681105b1f6567e92ad378b065ea8bcf56346e957d7a1c2ecae54", func := "glazier/glazierlaw20.DomHooks", spec := "domHooks", inPlace := ["slices.overlaps[int]"], unfollowed := true, recurses := true, apart := false }
def DomHooksSaid : Prop := domHooksRow.holds Try.pinned (OpenSpec.ofChange domHooksSpec)

/-- ITS FALSE NEIGHBOUR: 'it returns false'. Refute it at one input. -/
def domHooksWrong : ChangeSpec := { name := "domHooks", fn := fun _ => fun
  | [d1, d2] => { results := [.lit (.bool false)], args := [d1, d2] }
  | _ => none }
def DomHooksWrongFalsely : Prop := domHooksRow.holds Try.pinned (OpenSpec.ofChange domHooksWrong)

/-- 'glazierlaw21.ShotTells': WHATEVER THE INPUT: true; the input reads as it did. -/
def shotTellsSpec : ChangeSpec := { name := "shotTells", fn := fun _ => fun
  | [d1, d2, d3] => { results := [.lit (.bool true)], args := [d1, d2, d3] }
  | _ => none }
def shotTellsRow : OpenClaim := { program := "ytajaolmagnldaaa", sum := "fa16cfd7dd24681105b1f6567e92ad378b065ea8bcf56346e957d7a1c2ecae54", func := "glazier/glazierlaw21.ShotTells", spec := "shotTells", inPlace := ["slices.overlaps[int]"], unfollowed := true, recurses := true, apart := false }
def ShotTellsSaid : Prop := shotTellsRow.holds Try.pinned (OpenSpec.ofChange shotTellsSpec)

/-- ITS FALSE NEIGHBOUR: 'it returns false'. Refute it at one input. -/
def shotTellsWrong : ChangeSpec := { name := "shotTells", fn := fun _ => fun
  | [d1, d2, d3] => { results := [.lit (.bool false)], args := [d1, d2, d3] }
  | _ => none }
def ShotTellsWrongFalsely : Prop := shotTellsRow.holds Try.pinned (OpenSpec.ofChange shotTellsWrong)

/-- 'glazierlaw42.UndoRuns': WHATEVER THE INPUT: true; the input reads as it did. -/
def undoRunsSpec : ChangeSpec := { name := "undoRuns", fn := fun _ => fun
  | [d1, d2] => { results := [.lit (.bool true)], args := [d1, d2] }
  | _ => none }
def undoRunsRow : OpenClaim := { program := "ytajaolmagnldaaa", sum := "fa16cfd7dd24681105b1f6567e92ad378b065ea8bcf56346e957d7a1c2ecae54", func := "glazier/glazierlaw42.UndoRuns", spec := "undoRuns", inPlace := ["maps.clone", "slices.overlaps[int]"], recurses := true, apart := false }
def UndoRunsSaid : Prop := undoRunsRow.holds Try.pinned (OpenSpec.ofChange undoRunsSpec)

/-- ITS FALSE NEIGHBOUR: 'it returns false'. Refute it at one input. -/
def undoRunsWrong : ChangeSpec := { name := "undoRuns", fn := fun _ => fun
  | [d1, d2] => { results := [.lit (.bool false)], args := [d1, d2] }
  | _ => none }
def UndoRunsWrongFalsely : Prop := undoRunsRow.holds Try.pinned (OpenSpec.ofChange undoRunsWrong)

/-- 'glazierlaw29.RouteTells': WHATEVER THE INPUT: true; the input reads as it did. -/
def routeTellsSpec : ChangeSpec := { name := "routeTells", fn := fun _ => fun
  | [d1, d2, d3, d4] => { results := [.lit (.bool true)], args := [d1, d2, d3, d4] }
  | _ => none }
def routeTellsRow : OpenClaim := { program := "ytajaolmagnldaaa", sum := "fa16cfd7dd24681105b1f6567e92ad378b065ea8bcf56346e957d7a1c2ecae54", func := "glazier/glazierlaw29.RouteTells", spec := "routeTells", inPlace := ["slices.overlaps[int]"], unfollowed := true, recurses := true, apart := false }
def RouteTellsSaid : Prop := routeTellsRow.holds Try.pinned (OpenSpec.ofChange routeTellsSpec)

/-- ITS FALSE NEIGHBOUR: 'it returns false'. Refute it at one input. -/
def routeTellsWrong : ChangeSpec := { name := "routeTells", fn := fun _ => fun
  | [d1, d2, d3, d4] => { results := [.lit (.bool false)], args := [d1, d2, d3, d4] }
  | _ => none }
def RouteTellsWrongFalsely : Prop := routeTellsRow.holds Try.pinned (OpenSpec.ofChange routeTellsWrong)

/-- 'glazierlaw29.RouteTwice': WHATEVER THE INPUT: true; the input reads as it did. -/
def routeTwiceSpec : ChangeSpec := { name := "routeTwice", fn := fun _ => fun
  | [d1, d2, d3] => { results := [.lit (.bool true)], args := [d1, d2, d3] }
  | _ => none }
def routeTwiceRow : OpenClaim := { program := "ytajaolmagnldaaa", sum := "fa16cfd7dd24681105b1f6567e92ad378b065ea8bcf56346e957d7a1c2ecae54", func := "glazier/glazierlaw29.RouteTwice", spec := "routeTwice", inPlace := ["slices.overlaps[int]"], unfollowed := true, recurses := true, apart := false }
def RouteTwiceSaid : Prop := routeTwiceRow.holds Try.pinned (OpenSpec.ofChange routeTwiceSpec)

/-- ITS FALSE NEIGHBOUR: 'it returns false'. Refute it at one input. -/
def routeTwiceWrong : ChangeSpec := { name := "routeTwice", fn := fun _ => fun
  | [d1, d2, d3] => { results := [.lit (.bool false)], args := [d1, d2, d3] }
  | _ => none }
def RouteTwiceWrongFalsely : Prop := routeTwiceRow.holds Try.pinned (OpenSpec.ofChange routeTwiceWrong)

/-- 'glazierlaw26.CapsSees': WHATEVER THE INPUT: true; the input reads as it did. -/
def capsSeesSpec : ChangeSpec := { name := "capsSees", fn := fun _ => fun
  | [d1, d2, d3, d4] => { results := [.lit (.bool true)], args := [d1, d2, d3, d4] }
  | _ => none }
def capsSeesRow : OpenClaim := { program := "ytajaolmagnldaaa", sum := "fa16cfd7dd24681105b1f6567e92ad378b065ea8bcf56346e957d7a1c2ecae54", func := "glazier/glazierlaw26.CapsSees", spec := "capsSees", inPlace := ["slices.overlaps[int]"], unfollowed := true, recurses := true, apart := false }
def CapsSeesSaid : Prop := capsSeesRow.holds Try.pinned (OpenSpec.ofChange capsSeesSpec)

/-- ITS FALSE NEIGHBOUR: 'it returns false'. Refute it at one input. -/
def capsSeesWrong : ChangeSpec := { name := "capsSees", fn := fun _ => fun
  | [d1, d2, d3, d4] => { results := [.lit (.bool false)], args := [d1, d2, d3, d4] }
  | _ => none }
def CapsSeesWrongFalsely : Prop := capsSeesRow.holds Try.pinned (OpenSpec.ofChange capsSeesWrong)

/-- 'glazierlaw17.CleanTells': WHATEVER THE INPUT: true; the input reads as it did. -/
def cleanTellsSpec : ChangeSpec := { name := "cleanTells", fn := fun _ => fun
  | [d1, d2] => { results := [.lit (.bool true)], args := [d1, d2] }
  | _ => none }
def cleanTellsRow : OpenClaim := { program := "ytajaolmagnldaaa", sum := "fa16cfd7dd24681105b1f6567e92ad378b065ea8bcf56346e957d7a1c2ecae54", func := "glazier/glazierlaw17.CleanTells", spec := "cleanTells", inPlace := ["internal/bytealg.IndexByteString"], unfollowed := true, recurses := true, loops := true, apart := false }
def CleanTellsSaid : Prop := cleanTellsRow.holds Try.pinned (OpenSpec.ofChange cleanTellsSpec)

/-- ITS FALSE NEIGHBOUR: 'it returns false'. Refute it at one input. -/
def cleanTellsWrong : ChangeSpec := { name := "cleanTells", fn := fun _ => fun
  | [d1, d2] => { results := [.lit (.bool false)], args := [d1, d2] }
  | _ => none }
def CleanTellsWrongFalsely : Prop := cleanTellsRow.holds Try.pinned (OpenSpec.ofChange cleanTellsWrong)

/-- 'glazierlaw17.CleanTwice': WHATEVER THE INPUT: true; the input reads as it did. -/
def cleanTwiceSpec : ChangeSpec := { name := "cleanTwice", fn := fun _ => fun
  | [d] => { results := [.lit (.bool true)], args := [d] }
  | _ => none }
def cleanTwiceRow : OpenClaim := { program := "ytajaolmagnldaaa", sum := "fa16cfd7dd24681105b1f6567e92ad378b065ea8bcf56346e957d7a1c2ecae54", func := "glazier/glazierlaw17.CleanTwice", spec := "cleanTwice", inPlace := ["internal/bytealg.IndexByteString"], unfollowed := true, recurses := true, loops := true, apart := false }
def CleanTwiceSaid : Prop := cleanTwiceRow.holds Try.pinned (OpenSpec.ofChange cleanTwiceSpec)

/-- ITS FALSE NEIGHBOUR: 'it returns false'. Refute it at one input. -/
def cleanTwiceWrong : ChangeSpec := { name := "cleanTwice", fn := fun _ => fun
  | [d] => { results := [.lit (.bool false)], args := [d] }
  | _ => none }
def CleanTwiceWrongFalsely : Prop := cleanTwiceRow.holds Try.pinned (OpenSpec.ofChange cleanTwiceWrong)

/-- 'glazierlaw17.CleanRight': WHATEVER THE INPUT: true; the input reads as it did. -/
def cleanRightSpec : ChangeSpec := { name := "cleanRight", fn := fun _ => fun
  | [d] => { results := [.lit (.bool true)], args := [d] }
  | _ => none }
def cleanRightRow : OpenClaim := { program := "ytajaolmagnldaaa", sum := "fa16cfd7dd24681105b1f6567e92ad378b065ea8bcf56346e957d7a1c2ecae54", func := "glazier/glazierlaw17.CleanRight", spec := "cleanRight", inPlace := ["internal/bytealg.IndexByteString"], unfollowed := true, recurses := true, loops := true, apart := false }
def CleanRightSaid : Prop := cleanRightRow.holds Try.pinned (OpenSpec.ofChange cleanRightSpec)

/-- ITS FALSE NEIGHBOUR: 'it returns false'. Refute it at one input. -/
def cleanRightWrong : ChangeSpec := { name := "cleanRight", fn := fun _ => fun
  | [d] => { results := [.lit (.bool false)], args := [d] }
  | _ => none }
def CleanRightWrongFalsely : Prop := cleanRightRow.holds Try.pinned (OpenSpec.ofChange cleanRightWrong)

/- THE SECOND FORM. 'bulk': how many values and letters a reading holds, each counted each time it is reached (what is shared counts as often as it is met; a slice's spare places count too). A statement '..UptoSaid' is the law's where the arguments, and the package variables that the reading takes, are together of bulk at most 1048576: NARROWER than '..Said'. Prove '..Said' where nothing that the law and all that it calls make is longer than what came in: it says more and counts as full. Else prove '..UptoSaid'. A law counts once. -/
mutual
def uptoBulk {H : Type} : DataW H → Nat
  | .lit (.string bytes) => bytes.length + 1
  | .lit _ => 1
  | .nil => 1
  | .ptr d => uptoBulk d + 1
  | .slice elems spare => uptoBulkAll elems + uptoBulkAll spare + 1
  | .agg parts => uptoBulkAll parts + 1
  | .iface _ d => uptoBulk d + 1
  | .map entries => uptoBulkEntries entries + 1
  | .held _ => 1
def uptoBulkAll {H : Type} : List (DataW H) → Nat
  | [] => 0
  | d :: r => uptoBulk d + uptoBulkAll r
def uptoBulkEntries {H : Type} : List (Lit × DataW H) → Nat
  | [] => 0
  | x :: r => uptoBulkEntry x + uptoBulkEntries r
def uptoBulkEntry {H : Type} : Lit × DataW H → Nat
  | (.string bytes, d) => bytes.length + uptoBulk d + 1
  | (_, d) => uptoBulk d + 1
 end
def uptoSmall : (H : Type) → List (DataW H) → Bool := fun _ ds => decide (uptoBulkAll ds ≤ 1048576)
def OpenSpec.upto (s : _root_.Go.ChangeSpec) : _root_.Go.OpenSpec := { _root_.Go.OpenSpec.ofChange s with cond := some uptoSmall }

/-- 'glazierlaw39.ChooseTells', WHERE WHAT IT READS IS OF BULK AT MOST 1048576: true; the input reads as it did. -/
def chooseTellsUptoRow : OpenClaim := { program := "ytajaolmagnldaaa", sum := "fa16cfd7dd24681105b1f6567e92ad378b065ea8bcf56346e957d7a1c2ecae54", func := "glazier/glazierlaw39.ChooseTells", spec := "chooseTells", inPlace := ["internal/bytealg.IndexByteString"], unfollowed := true, recurses := true, loops := true, apart := false, narrowed := true }
def ChooseTellsUptoSaid : Prop := chooseTellsUptoRow.holds Try.pinned (OpenSpec.upto chooseTellsSpec)

/-- 'glazierlaw39.ChooseAny', WHERE WHAT IT READS IS OF BULK AT MOST 1048576: true; the input reads as it did. -/
def chooseAnyUptoRow : OpenClaim := { program := "ytajaolmagnldaaa", sum := "fa16cfd7dd24681105b1f6567e92ad378b065ea8bcf56346e957d7a1c2ecae54", func := "glazier/glazierlaw39.ChooseAny", spec := "chooseAny", inPlace := ["internal/bytealg.IndexByteString"], unfollowed := true, recurses := true, loops := true, apart := false, narrowed := true }
def ChooseAnyUptoSaid : Prop := chooseAnyUptoRow.holds Try.pinned (OpenSpec.upto chooseAnySpec)

/-- 'glazierlaw12.SerialValid', WHERE WHAT IT READS IS OF BULK AT MOST 1048576: true; the input reads as it did. -/
def serialValidUptoRow : OpenClaim := { program := "ytajaolmagnldaaa", sum := "fa16cfd7dd24681105b1f6567e92ad378b065ea8bcf56346e957d7a1c2ecae54", func := "glazier/glazierlaw12.SerialValid", spec := "serialValid", inPlace := ["internal/bytealg.IndexByteString"], unfollowed := true, recurses := true, loops := true, apart := false, narrowed := true }
def SerialValidUptoSaid : Prop := serialValidUptoRow.holds Try.pinned (OpenSpec.upto serialValidSpec)

/-- 'glazierlaw20.DomHooks', WHERE WHAT IT READS IS OF BULK AT MOST 1048576: true; the input reads as it did. -/
def domHooksUptoRow : OpenClaim := { program := "ytajaolmagnldaaa", sum := "fa16cfd7dd24681105b1f6567e92ad378b065ea8bcf56346e957d7a1c2ecae54", func := "glazier/glazierlaw20.DomHooks", spec := "domHooks", inPlace := ["slices.overlaps[int]"], unfollowed := true, recurses := true, apart := false, narrowed := true }
def DomHooksUptoSaid : Prop := domHooksUptoRow.holds Try.pinned (OpenSpec.upto domHooksSpec)

/-- 'glazierlaw21.ShotTells', WHERE WHAT IT READS IS OF BULK AT MOST 1048576: true; the input reads as it did. -/
def shotTellsUptoRow : OpenClaim := { program := "ytajaolmagnldaaa", sum := "fa16cfd7dd24681105b1f6567e92ad378b065ea8bcf56346e957d7a1c2ecae54", func := "glazier/glazierlaw21.ShotTells", spec := "shotTells", inPlace := ["slices.overlaps[int]"], unfollowed := true, recurses := true, apart := false, narrowed := true }
def ShotTellsUptoSaid : Prop := shotTellsUptoRow.holds Try.pinned (OpenSpec.upto shotTellsSpec)

/-- 'glazierlaw42.UndoRuns', WHERE WHAT IT READS IS OF BULK AT MOST 1048576: true; the input reads as it did. -/
def undoRunsUptoRow : OpenClaim := { program := "ytajaolmagnldaaa", sum := "fa16cfd7dd24681105b1f6567e92ad378b065ea8bcf56346e957d7a1c2ecae54", func := "glazier/glazierlaw42.UndoRuns", spec := "undoRuns", inPlace := ["maps.clone", "slices.overlaps[int]"], recurses := true, apart := false, narrowed := true }
def UndoRunsUptoSaid : Prop := undoRunsUptoRow.holds Try.pinned (OpenSpec.upto undoRunsSpec)

/-- 'glazierlaw29.RouteTells', WHERE WHAT IT READS IS OF BULK AT MOST 1048576: true; the input reads as it did. -/
def routeTellsUptoRow : OpenClaim := { program := "ytajaolmagnldaaa", sum := "fa16cfd7dd24681105b1f6567e92ad378b065ea8bcf56346e957d7a1c2ecae54", func := "glazier/glazierlaw29.RouteTells", spec := "routeTells", inPlace := ["slices.overlaps[int]"], unfollowed := true, recurses := true, apart := false, narrowed := true }
def RouteTellsUptoSaid : Prop := routeTellsUptoRow.holds Try.pinned (OpenSpec.upto routeTellsSpec)

/-- 'glazierlaw29.RouteTwice', WHERE WHAT IT READS IS OF BULK AT MOST 1048576: true; the input reads as it did. -/
def routeTwiceUptoRow : OpenClaim := { program := "ytajaolmagnldaaa", sum := "fa16cfd7dd24681105b1f6567e92ad378b065ea8bcf56346e957d7a1c2ecae54", func := "glazier/glazierlaw29.RouteTwice", spec := "routeTwice", inPlace := ["slices.overlaps[int]"], unfollowed := true, recurses := true, apart := false, narrowed := true }
def RouteTwiceUptoSaid : Prop := routeTwiceUptoRow.holds Try.pinned (OpenSpec.upto routeTwiceSpec)

/-- 'glazierlaw26.CapsSees', WHERE WHAT IT READS IS OF BULK AT MOST 1048576: true; the input reads as it did. -/
def capsSeesUptoRow : OpenClaim := { program := "ytajaolmagnldaaa", sum := "fa16cfd7dd24681105b1f6567e92ad378b065ea8bcf56346e957d7a1c2ecae54", func := "glazier/glazierlaw26.CapsSees", spec := "capsSees", inPlace := ["slices.overlaps[int]"], unfollowed := true, recurses := true, apart := false, narrowed := true }
def CapsSeesUptoSaid : Prop := capsSeesUptoRow.holds Try.pinned (OpenSpec.upto capsSeesSpec)

/-- 'glazierlaw17.CleanTells', WHERE WHAT IT READS IS OF BULK AT MOST 1048576: true; the input reads as it did. -/
def cleanTellsUptoRow : OpenClaim := { program := "ytajaolmagnldaaa", sum := "fa16cfd7dd24681105b1f6567e92ad378b065ea8bcf56346e957d7a1c2ecae54", func := "glazier/glazierlaw17.CleanTells", spec := "cleanTells", inPlace := ["internal/bytealg.IndexByteString"], unfollowed := true, recurses := true, loops := true, apart := false, narrowed := true }
def CleanTellsUptoSaid : Prop := cleanTellsUptoRow.holds Try.pinned (OpenSpec.upto cleanTellsSpec)

/-- 'glazierlaw17.CleanTwice', WHERE WHAT IT READS IS OF BULK AT MOST 1048576: true; the input reads as it did. -/
def cleanTwiceUptoRow : OpenClaim := { program := "ytajaolmagnldaaa", sum := "fa16cfd7dd24681105b1f6567e92ad378b065ea8bcf56346e957d7a1c2ecae54", func := "glazier/glazierlaw17.CleanTwice", spec := "cleanTwice", inPlace := ["internal/bytealg.IndexByteString"], unfollowed := true, recurses := true, loops := true, apart := false, narrowed := true }
def CleanTwiceUptoSaid : Prop := cleanTwiceUptoRow.holds Try.pinned (OpenSpec.upto cleanTwiceSpec)

/-- 'glazierlaw17.CleanRight', WHERE WHAT IT READS IS OF BULK AT MOST 1048576: true; the input reads as it did. -/
def cleanRightUptoRow : OpenClaim := { program := "ytajaolmagnldaaa", sum := "fa16cfd7dd24681105b1f6567e92ad378b065ea8bcf56346e957d7a1c2ecae54", func := "glazier/glazierlaw17.CleanRight", spec := "cleanRight", inPlace := ["internal/bytealg.IndexByteString"], unfollowed := true, recurses := true, loops := true, apart := false, narrowed := true }
def CleanRightUptoSaid : Prop := cleanRightUptoRow.holds Try.pinned (OpenSpec.upto cleanRightSpec)

end Rows
end Go.Proofs.Ytajaolmagnldaaa

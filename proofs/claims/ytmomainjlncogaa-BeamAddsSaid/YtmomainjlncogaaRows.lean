/-
  No cell of these rows narrows 'for every input' (looked for: loops, veiled, ifaces, maps, wideKeys, modest, calm, conditions, laid).
  DERIVED. THE GIVEN ROWS OF THIS SEAT. 29 by the template 'for every input the law returns true; each argument reads behind the call as it read before'; 0 by the template 'total and deterministic' (their statements: YtmomainjlncogaaTotals.lean).
  GIVEN WITH THE SEED: the statements are not yours to turn. If you find one false, say at which input.
  Laid BY PROGRAM, IN A SANDBOX (cutbox-rows.mjs): the forced cells as the released guide's own fill.sh prints them over the translation 2a30e3797a7370b0… (all of the seat's roots in one cut). By AI agents, Wed Nov 11 2026. No macro, syntax, notation, axiom, sorry.
-/
import Derived.Test.YtmomainjlncogaaChecked
import GoSem.Claim
import GoSem.ClaimJoined
import GoSem.ClaimMapViews
import Derived.JoinedTies
import Derived.KernelRfl
namespace Go.Proofs.Ytmomainjlncogaa
/- THE CELL 'sum', in the pinned program and in every row, IS THE sha256 OF THE DUMP (.gsa) THAT YtmomainjlncogaaProg.lean LOADS. Nothing in Lean hashes anything: it is a label: what it is worth is what the hold of that sum in a sandbox is worth. -/
noncomputable def Try.pinned : Pinned := { name := "ytmomainjlncogaa", sum := "2a30e3797a7370b074c4aaa3c8793e483ba74bb8dee5ea3255fd953d4f569e7a", checked := Try.checked }
namespace Rows
def none {H : Type} : Left H := { results := [], args := [] }

/-- 'lookoutlaw02.TurnKnown': WHATEVER THE INPUT: true; the input reads as it did. -/
def turnKnownSpec : ChangeSpec := { name := "turnKnown", fn := fun _ => fun
  | [] => { results := [.lit (.bool true)], args := [] }
  | _ => none }
def turnKnownRow : OpenClaim := { program := "ytmomainjlncogaa", sum := "2a30e3797a7370b074c4aaa3c8793e483ba74bb8dee5ea3255fd953d4f569e7a", func := "lookout/lookoutlaw02.TurnKnown", spec := "turnKnown", inPlace := ["math.Float64frombits", "math.archTrunc", "math.Float64bits", "math.sqrt"], apart := false }
def TurnKnownSaid : Prop := turnKnownRow.holds Try.pinned (OpenSpec.ofChange turnKnownSpec)

/-- ITS FALSE NEIGHBOUR: 'it returns false'. Refute it at one input. -/
def turnKnownWrong : ChangeSpec := { name := "turnKnown", fn := fun _ => fun
  | [] => { results := [.lit (.bool false)], args := [] }
  | _ => none }
def TurnKnownWrongFalsely : Prop := turnKnownRow.holds Try.pinned (OpenSpec.ofChange turnKnownWrong)

/-- 'lookoutlaw02.TurnWraps': WHATEVER THE INPUT: true; the input reads as it did. -/
def turnWrapsSpec : ChangeSpec := { name := "turnWraps", fn := fun _ => fun
  | [d] => { results := [.lit (.bool true)], args := [d] }
  | _ => none }
def turnWrapsRow : OpenClaim := { program := "ytmomainjlncogaa", sum := "2a30e3797a7370b074c4aaa3c8793e483ba74bb8dee5ea3255fd953d4f569e7a", func := "lookout/lookoutlaw02.TurnWraps", spec := "turnWraps", inPlace := ["math.Float64frombits", "math.archTrunc", "math.Float64bits", "math.archFloor", "math.sqrt"], apart := false }
def TurnWrapsSaid : Prop := turnWrapsRow.holds Try.pinned (OpenSpec.ofChange turnWrapsSpec)

/-- ITS FALSE NEIGHBOUR: 'it returns false'. Refute it at one input. -/
def turnWrapsWrong : ChangeSpec := { name := "turnWraps", fn := fun _ => fun
  | [d] => { results := [.lit (.bool false)], args := [d] }
  | _ => none }
def TurnWrapsWrongFalsely : Prop := turnWrapsRow.holds Try.pinned (OpenSpec.ofChange turnWrapsWrong)

/-- 'lookoutlaw02.TurnUnits': WHATEVER THE INPUT: true; the input reads as it did. -/
def turnUnitsSpec : ChangeSpec := { name := "turnUnits", fn := fun _ => fun
  | [d1, d2] => { results := [.lit (.bool true)], args := [d1, d2] }
  | _ => none }
def turnUnitsRow : OpenClaim := { program := "ytmomainjlncogaa", sum := "2a30e3797a7370b074c4aaa3c8793e483ba74bb8dee5ea3255fd953d4f569e7a", func := "lookout/lookoutlaw02.TurnUnits", spec := "turnUnits", inPlace := ["math.Float64frombits", "math.archTrunc", "math.Float64bits", "math.sqrt", "math.archFloor"], apart := false }
def TurnUnitsSaid : Prop := turnUnitsRow.holds Try.pinned (OpenSpec.ofChange turnUnitsSpec)

/-- ITS FALSE NEIGHBOUR: 'it returns false'. Refute it at one input. -/
def turnUnitsWrong : ChangeSpec := { name := "turnUnits", fn := fun _ => fun
  | [d1, d2] => { results := [.lit (.bool false)], args := [d1, d2] }
  | _ => none }
def TurnUnitsWrongFalsely : Prop := turnUnitsRow.holds Try.pinned (OpenSpec.ofChange turnUnitsWrong)

/-- 'lookoutlaw23.PlaceWithin': WHATEVER THE INPUT: true; the input reads as it did. -/
def placeWithinSpec : ChangeSpec := { name := "placeWithin", fn := fun _ => fun
  | [d1, d2] => { results := [.lit (.bool true)], args := [d1, d2] }
  | _ => none }
def placeWithinRow : OpenClaim := { program := "ytmomainjlncogaa", sum := "2a30e3797a7370b074c4aaa3c8793e483ba74bb8dee5ea3255fd953d4f569e7a", func := "lookout/lookoutlaw23.PlaceWithin", spec := "placeWithin", inPlace := ["math.Float64frombits", "math.archTrunc", "math.Float64bits", "math.sqrt", "math.archFloor"], apart := false }
def PlaceWithinSaid : Prop := placeWithinRow.holds Try.pinned (OpenSpec.ofChange placeWithinSpec)

/-- ITS FALSE NEIGHBOUR: 'it returns false'. Refute it at one input. -/
def placeWithinWrong : ChangeSpec := { name := "placeWithin", fn := fun _ => fun
  | [d1, d2] => { results := [.lit (.bool false)], args := [d1, d2] }
  | _ => none }
def PlaceWithinWrongFalsely : Prop := placeWithinRow.holds Try.pinned (OpenSpec.ofChange placeWithinWrong)

/-- 'lookoutlaw23.PlaceCorners': WHATEVER THE INPUT: true; the input reads as it did. -/
def placeCornersSpec : ChangeSpec := { name := "placeCorners", fn := fun _ => fun
  | [d1, d2, d3, d4, d5] => { results := [.lit (.bool true)], args := [d1, d2, d3, d4, d5] }
  | _ => none }
def placeCornersRow : OpenClaim := { program := "ytmomainjlncogaa", sum := "2a30e3797a7370b074c4aaa3c8793e483ba74bb8dee5ea3255fd953d4f569e7a", func := "lookout/lookoutlaw23.PlaceCorners", spec := "placeCorners", inPlace := ["math.Float64frombits", "math.archTrunc", "math.Float64bits", "math.sqrt", "math.archFloor"], apart := false }
def PlaceCornersSaid : Prop := placeCornersRow.holds Try.pinned (OpenSpec.ofChange placeCornersSpec)

/-- ITS FALSE NEIGHBOUR: 'it returns false'. Refute it at one input. -/
def placeCornersWrong : ChangeSpec := { name := "placeCorners", fn := fun _ => fun
  | [d1, d2, d3, d4, d5] => { results := [.lit (.bool false)], args := [d1, d2, d3, d4, d5] }
  | _ => none }
def PlaceCornersWrongFalsely : Prop := placeCornersRow.holds Try.pinned (OpenSpec.ofChange placeCornersWrong)

/-- 'lookoutlaw23.PlaceSquares': WHATEVER THE INPUT: true; the input reads as it did. -/
def placeSquaresSpec : ChangeSpec := { name := "placeSquares", fn := fun _ => fun
  | [d1, d2, d3, d4, d5, d6, d7, d8, d9] => { results := [.lit (.bool true)], args := [d1, d2, d3, d4, d5, d6, d7, d8, d9] }
  | _ => none }
def placeSquaresRow : OpenClaim := { program := "ytmomainjlncogaa", sum := "2a30e3797a7370b074c4aaa3c8793e483ba74bb8dee5ea3255fd953d4f569e7a", func := "lookout/lookoutlaw23.PlaceSquares", spec := "placeSquares", inPlace := ["math.Float64frombits", "math.archTrunc", "math.Float64bits", "math.sqrt", "math.archFloor"], apart := false }
def PlaceSquaresSaid : Prop := placeSquaresRow.holds Try.pinned (OpenSpec.ofChange placeSquaresSpec)

/-- ITS FALSE NEIGHBOUR: 'it returns false'. Refute it at one input. -/
def placeSquaresWrong : ChangeSpec := { name := "placeSquares", fn := fun _ => fun
  | [d1, d2, d3, d4, d5, d6, d7, d8, d9] => { results := [.lit (.bool false)], args := [d1, d2, d3, d4, d5, d6, d7, d8, d9] }
  | _ => none }
def PlaceSquaresWrongFalsely : Prop := placeSquaresRow.holds Try.pinned (OpenSpec.ofChange placeSquaresWrong)

/-- 'lookoutlaw23.PlaceKnown': WHATEVER THE INPUT: true; the input reads as it did. -/
def placeKnownSpec : ChangeSpec := { name := "placeKnown", fn := fun _ => fun
  | [] => { results := [.lit (.bool true)], args := [] }
  | _ => none }
def placeKnownRow : OpenClaim := { program := "ytmomainjlncogaa", sum := "2a30e3797a7370b074c4aaa3c8793e483ba74bb8dee5ea3255fd953d4f569e7a", func := "lookout/lookoutlaw23.PlaceKnown", spec := "placeKnown", inPlace := ["math.Float64bits", "math.Float64frombits", "math.sqrt", "math.archTrunc", "math.archFloor"], apart := false }
def PlaceKnownSaid : Prop := placeKnownRow.holds Try.pinned (OpenSpec.ofChange placeKnownSpec)

/-- ITS FALSE NEIGHBOUR: 'it returns false'. Refute it at one input. -/
def placeKnownWrong : ChangeSpec := { name := "placeKnown", fn := fun _ => fun
  | [] => { results := [.lit (.bool false)], args := [] }
  | _ => none }
def PlaceKnownWrongFalsely : Prop := placeKnownRow.holds Try.pinned (OpenSpec.ofChange placeKnownWrong)

/-- 'lookoutlaw23.PlaceTurns': WHATEVER THE INPUT: true; the input reads as it did. -/
def placeTurnsSpec : ChangeSpec := { name := "placeTurns", fn := fun _ => fun
  | [d1, d2, d3, d4, d5] => { results := [.lit (.bool true)], args := [d1, d2, d3, d4, d5] }
  | _ => none }
def placeTurnsRow : OpenClaim := { program := "ytmomainjlncogaa", sum := "2a30e3797a7370b074c4aaa3c8793e483ba74bb8dee5ea3255fd953d4f569e7a", func := "lookout/lookoutlaw23.PlaceTurns", spec := "placeTurns", inPlace := ["math.Float64bits", "math.Float64frombits", "math.sqrt", "math.archTrunc", "math.archFloor"], apart := false }
def PlaceTurnsSaid : Prop := placeTurnsRow.holds Try.pinned (OpenSpec.ofChange placeTurnsSpec)

/-- ITS FALSE NEIGHBOUR: 'it returns false'. Refute it at one input. -/
def placeTurnsWrong : ChangeSpec := { name := "placeTurns", fn := fun _ => fun
  | [d1, d2, d3, d4, d5] => { results := [.lit (.bool false)], args := [d1, d2, d3, d4, d5] }
  | _ => none }
def PlaceTurnsWrongFalsely : Prop := placeTurnsRow.holds Try.pinned (OpenSpec.ofChange placeTurnsWrong)

/-- 'lookoutlaw23.PlaceBack': WHATEVER THE INPUT: true; the input reads as it did. -/
def placeBackSpec : ChangeSpec := { name := "placeBack", fn := fun _ => fun
  | [d1, d2, d3, d4, d5, d6, d7, d8, d9] => { results := [.lit (.bool true)], args := [d1, d2, d3, d4, d5, d6, d7, d8, d9] }
  | _ => none }
def placeBackRow : OpenClaim := { program := "ytmomainjlncogaa", sum := "2a30e3797a7370b074c4aaa3c8793e483ba74bb8dee5ea3255fd953d4f569e7a", func := "lookout/lookoutlaw23.PlaceBack", spec := "placeBack", inPlace := ["math.Float64frombits", "math.archTrunc", "math.Float64bits", "math.sqrt", "math.archFloor"], apart := false }
def PlaceBackSaid : Prop := placeBackRow.holds Try.pinned (OpenSpec.ofChange placeBackSpec)

/-- ITS FALSE NEIGHBOUR: 'it returns false'. Refute it at one input. -/
def placeBackWrong : ChangeSpec := { name := "placeBack", fn := fun _ => fun
  | [d1, d2, d3, d4, d5, d6, d7, d8, d9] => { results := [.lit (.bool false)], args := [d1, d2, d3, d4, d5, d6, d7, d8, d9] }
  | _ => none }
def PlaceBackWrongFalsely : Prop := placeBackRow.holds Try.pinned (OpenSpec.ofChange placeBackWrong)

/-- 'lookoutlaw04.PulseNames': WHATEVER THE INPUT: true; the input reads as it did. -/
def pulseNamesSpec : ChangeSpec := { name := "pulseNames", fn := fun _ => fun
  | [] => { results := [.lit (.bool true)], args := [] }
  | _ => none }
def pulseNamesRow : OpenClaim := { program := "ytmomainjlncogaa", sum := "2a30e3797a7370b074c4aaa3c8793e483ba74bb8dee5ea3255fd953d4f569e7a", func := "lookout/lookoutlaw04.PulseNames", spec := "pulseNames", inPlace := ["math.Float64bits", "math.Float64frombits", "math.archTrunc", "math.sqrt"], apart := false }
def PulseNamesSaid : Prop := pulseNamesRow.holds Try.pinned (OpenSpec.ofChange pulseNamesSpec)

/-- ITS FALSE NEIGHBOUR: 'it returns false'. Refute it at one input. -/
def pulseNamesWrong : ChangeSpec := { name := "pulseNames", fn := fun _ => fun
  | [] => { results := [.lit (.bool false)], args := [] }
  | _ => none }
def PulseNamesWrongFalsely : Prop := pulseNamesRow.holds Try.pinned (OpenSpec.ofChange pulseNamesWrong)

/-- 'lookoutlaw04.PulseChirps': WHATEVER THE INPUT: true; the input reads as it did. -/
def pulseChirpsSpec : ChangeSpec := { name := "pulseChirps", fn := fun _ => fun
  | [d1, d2] => { results := [.lit (.bool true)], args := [d1, d2] }
  | _ => none }
def pulseChirpsRow : OpenClaim := { program := "ytmomainjlncogaa", sum := "2a30e3797a7370b074c4aaa3c8793e483ba74bb8dee5ea3255fd953d4f569e7a", func := "lookout/lookoutlaw04.PulseChirps", spec := "pulseChirps", inPlace := ["math.Float64bits", "math.Float64frombits", "math.archFloor", "math.archTrunc", "math.sqrt"], apart := false }
def PulseChirpsSaid : Prop := pulseChirpsRow.holds Try.pinned (OpenSpec.ofChange pulseChirpsSpec)

/-- ITS FALSE NEIGHBOUR: 'it returns false'. Refute it at one input. -/
def pulseChirpsWrong : ChangeSpec := { name := "pulseChirps", fn := fun _ => fun
  | [d1, d2] => { results := [.lit (.bool false)], args := [d1, d2] }
  | _ => none }
def PulseChirpsWrongFalsely : Prop := pulseChirpsRow.holds Try.pinned (OpenSpec.ofChange pulseChirpsWrong)

/-- 'lookoutlaw04.PulseSigns': WHATEVER THE INPUT: true; the input reads as it did. -/
def pulseSignsSpec : ChangeSpec := { name := "pulseSigns", fn := fun _ => fun
  | [d] => { results := [.lit (.bool true)], args := [d] }
  | _ => none }
def pulseSignsRow : OpenClaim := { program := "ytmomainjlncogaa", sum := "2a30e3797a7370b074c4aaa3c8793e483ba74bb8dee5ea3255fd953d4f569e7a", func := "lookout/lookoutlaw04.PulseSigns", spec := "pulseSigns", inPlace := ["math.Float64bits", "math.Float64frombits", "math.archTrunc", "math.sqrt", "math.archFloor"], apart := false }
def PulseSignsSaid : Prop := pulseSignsRow.holds Try.pinned (OpenSpec.ofChange pulseSignsSpec)

/-- ITS FALSE NEIGHBOUR: 'it returns false'. Refute it at one input. -/
def pulseSignsWrong : ChangeSpec := { name := "pulseSigns", fn := fun _ => fun
  | [d] => { results := [.lit (.bool false)], args := [d] }
  | _ => none }
def PulseSignsWrongFalsely : Prop := pulseSignsRow.holds Try.pinned (OpenSpec.ofChange pulseSignsWrong)

/-- 'lookoutlaw04.PulseSteps': WHATEVER THE INPUT: true; the input reads as it did. -/
def pulseStepsSpec : ChangeSpec := { name := "pulseSteps", fn := fun _ => fun
  | [d1, d2] => { results := [.lit (.bool true)], args := [d1, d2] }
  | _ => none }
def pulseStepsRow : OpenClaim := { program := "ytmomainjlncogaa", sum := "2a30e3797a7370b074c4aaa3c8793e483ba74bb8dee5ea3255fd953d4f569e7a", func := "lookout/lookoutlaw04.PulseSteps", spec := "pulseSteps", inPlace := ["math.Float64bits", "math.Float64frombits", "math.archTrunc", "math.sqrt", "math.archFloor"], apart := false }
def PulseStepsSaid : Prop := pulseStepsRow.holds Try.pinned (OpenSpec.ofChange pulseStepsSpec)

/-- ITS FALSE NEIGHBOUR: 'it returns false'. Refute it at one input. -/
def pulseStepsWrong : ChangeSpec := { name := "pulseSteps", fn := fun _ => fun
  | [d1, d2] => { results := [.lit (.bool false)], args := [d1, d2] }
  | _ => none }
def PulseStepsWrongFalsely : Prop := pulseStepsRow.holds Try.pinned (OpenSpec.ofChange pulseStepsWrong)

/-- 'lookoutlaw04.PulseCodes': WHATEVER THE INPUT: true; the input reads as it did. -/
def pulseCodesSpec : ChangeSpec := { name := "pulseCodes", fn := fun _ => fun
  | [d] => { results := [.lit (.bool true)], args := [d] }
  | _ => none }
def pulseCodesRow : OpenClaim := { program := "ytmomainjlncogaa", sum := "2a30e3797a7370b074c4aaa3c8793e483ba74bb8dee5ea3255fd953d4f569e7a", func := "lookout/lookoutlaw04.PulseCodes", spec := "pulseCodes", inPlace := ["math.Float64bits", "math.Float64frombits", "math.archFloor", "math.archTrunc", "math.sqrt"], apart := false }
def PulseCodesSaid : Prop := pulseCodesRow.holds Try.pinned (OpenSpec.ofChange pulseCodesSpec)

/-- ITS FALSE NEIGHBOUR: 'it returns false'. Refute it at one input. -/
def pulseCodesWrong : ChangeSpec := { name := "pulseCodes", fn := fun _ => fun
  | [d] => { results := [.lit (.bool false)], args := [d] }
  | _ => none }
def PulseCodesWrongFalsely : Prop := pulseCodesRow.holds Try.pinned (OpenSpec.ofChange pulseCodesWrong)

/-- 'lookoutlaw04.PulsePeak': WHATEVER THE INPUT: true; the input reads as it did. -/
def pulsePeakSpec : ChangeSpec := { name := "pulsePeak", fn := fun _ => fun
  | [] => { results := [.lit (.bool true)], args := [] }
  | _ => none }
def pulsePeakRow : OpenClaim := { program := "ytmomainjlncogaa", sum := "2a30e3797a7370b074c4aaa3c8793e483ba74bb8dee5ea3255fd953d4f569e7a", func := "lookout/lookoutlaw04.PulsePeak", spec := "pulsePeak", inPlace := ["math.archFloor", "math.Float64bits", "math.Float64frombits", "math.archTrunc", "math.sqrt"], apart := false }
def PulsePeakSaid : Prop := pulsePeakRow.holds Try.pinned (OpenSpec.ofChange pulsePeakSpec)

/-- ITS FALSE NEIGHBOUR: 'it returns false'. Refute it at one input. -/
def pulsePeakWrong : ChangeSpec := { name := "pulsePeak", fn := fun _ => fun
  | [] => { results := [.lit (.bool false)], args := [] }
  | _ => none }
def PulsePeakWrongFalsely : Prop := pulsePeakRow.holds Try.pinned (OpenSpec.ofChange pulsePeakWrong)

/-- 'lookoutlaw04.PulseEven': WHATEVER THE INPUT: true; the input reads as it did. -/
def pulseEvenSpec : ChangeSpec := { name := "pulseEven", fn := fun _ => fun
  | [d1, d2, d3] => { results := [.lit (.bool true)], args := [d1, d2, d3] }
  | _ => none }
def pulseEvenRow : OpenClaim := { program := "ytmomainjlncogaa", sum := "2a30e3797a7370b074c4aaa3c8793e483ba74bb8dee5ea3255fd953d4f569e7a", func := "lookout/lookoutlaw04.PulseEven", spec := "pulseEven", inPlace := ["math.Float64bits", "math.Float64frombits", "math.archTrunc", "math.sqrt"], apart := false }
def PulseEvenSaid : Prop := pulseEvenRow.holds Try.pinned (OpenSpec.ofChange pulseEvenSpec)

/-- ITS FALSE NEIGHBOUR: 'it returns false'. Refute it at one input. -/
def pulseEvenWrong : ChangeSpec := { name := "pulseEven", fn := fun _ => fun
  | [d1, d2, d3] => { results := [.lit (.bool false)], args := [d1, d2, d3] }
  | _ => none }
def PulseEvenWrongFalsely : Prop := pulseEvenRow.holds Try.pinned (OpenSpec.ofChange pulseEvenWrong)

/-- 'lookoutlaw05.DftKnown': WHATEVER THE INPUT: true; the input reads as it did. -/
def dftKnownSpec : ChangeSpec := { name := "dftKnown", fn := fun _ => fun
  | [] => { results := [.lit (.bool true)], args := [] }
  | _ => none }
def dftKnownRow : OpenClaim := { program := "ytmomainjlncogaa", sum := "2a30e3797a7370b074c4aaa3c8793e483ba74bb8dee5ea3255fd953d4f569e7a", func := "lookout/lookoutlaw05.DftKnown", spec := "dftKnown", inPlace := ["math.Float64frombits", "math.archTrunc", "math.Float64bits", "math.sqrt"], unfollowed := true, recurses := true, apart := false }
def DftKnownSaid : Prop := dftKnownRow.holds Try.pinned (OpenSpec.ofChange dftKnownSpec)

/-- ITS FALSE NEIGHBOUR: 'it returns false'. Refute it at one input. -/
def dftKnownWrong : ChangeSpec := { name := "dftKnown", fn := fun _ => fun
  | [] => { results := [.lit (.bool false)], args := [] }
  | _ => none }
def DftKnownWrongFalsely : Prop := dftKnownRow.holds Try.pinned (OpenSpec.ofChange dftKnownWrong)

/-- 'lookoutlaw06.MatchPeak': WHATEVER THE INPUT: true; the input reads as it did. -/
def matchPeakSpec : ChangeSpec := { name := "matchPeak", fn := fun _ => fun
  | [d] => { results := [.lit (.bool true)], args := [d] }
  | _ => none }
def matchPeakRow : OpenClaim := { program := "ytmomainjlncogaa", sum := "2a30e3797a7370b074c4aaa3c8793e483ba74bb8dee5ea3255fd953d4f569e7a", func := "lookout/lookoutlaw06.MatchPeak", spec := "matchPeak", inPlace := ["math.Float64bits", "math.Float64frombits", "math.sqrt"], apart := false }
def MatchPeakSaid : Prop := matchPeakRow.holds Try.pinned (OpenSpec.ofChange matchPeakSpec)

/-- ITS FALSE NEIGHBOUR: 'it returns false'. Refute it at one input. -/
def matchPeakWrong : ChangeSpec := { name := "matchPeak", fn := fun _ => fun
  | [d] => { results := [.lit (.bool false)], args := [d] }
  | _ => none }
def MatchPeakWrongFalsely : Prop := matchPeakRow.holds Try.pinned (OpenSpec.ofChange matchPeakWrong)

/-- 'lookoutlaw06.MatchKnown': WHATEVER THE INPUT: true; the input reads as it did. -/
def matchKnownSpec : ChangeSpec := { name := "matchKnown", fn := fun _ => fun
  | [] => { results := [.lit (.bool true)], args := [] }
  | _ => none }
def matchKnownRow : OpenClaim := { program := "ytmomainjlncogaa", sum := "2a30e3797a7370b074c4aaa3c8793e483ba74bb8dee5ea3255fd953d4f569e7a", func := "lookout/lookoutlaw06.MatchKnown", spec := "matchKnown", inPlace := ["math.Float64frombits", "math.archTrunc", "math.Float64bits", "math.sqrt"], unfollowed := true, recurses := true, apart := false }
def MatchKnownSaid : Prop := matchKnownRow.holds Try.pinned (OpenSpec.ofChange matchKnownSpec)

/-- ITS FALSE NEIGHBOUR: 'it returns false'. Refute it at one input. -/
def matchKnownWrong : ChangeSpec := { name := "matchKnown", fn := fun _ => fun
  | [] => { results := [.lit (.bool false)], args := [] }
  | _ => none }
def MatchKnownWrongFalsely : Prop := matchKnownRow.holds Try.pinned (OpenSpec.ofChange matchKnownWrong)

/-- 'lookoutlaw21.SolveKnown': WHATEVER THE INPUT: true; the input reads as it did. -/
def solveKnownSpec : ChangeSpec := { name := "solveKnown", fn := fun _ => fun
  | [] => { results := [.lit (.bool true)], args := [] }
  | _ => none }
def solveKnownRow : OpenClaim := { program := "ytmomainjlncogaa", sum := "2a30e3797a7370b074c4aaa3c8793e483ba74bb8dee5ea3255fd953d4f569e7a", func := "lookout/lookoutlaw21.SolveKnown", spec := "solveKnown", inPlace := ["math.Float64bits", "math.Float64frombits"], apart := false }
def SolveKnownSaid : Prop := solveKnownRow.holds Try.pinned (OpenSpec.ofChange solveKnownSpec)

/-- ITS FALSE NEIGHBOUR: 'it returns false'. Refute it at one input. -/
def solveKnownWrong : ChangeSpec := { name := "solveKnown", fn := fun _ => fun
  | [] => { results := [.lit (.bool false)], args := [] }
  | _ => none }
def SolveKnownWrongFalsely : Prop := solveKnownRow.holds Try.pinned (OpenSpec.ofChange solveKnownWrong)

/-- 'lookoutlaw12.SceneKnown': WHATEVER THE INPUT: true; the input reads as it did. -/
def sceneKnownSpec : ChangeSpec := { name := "sceneKnown", fn := fun _ => fun
  | [] => { results := [.lit (.bool true)], args := [] }
  | _ => none }
def sceneKnownRow : OpenClaim := { program := "ytmomainjlncogaa", sum := "2a30e3797a7370b074c4aaa3c8793e483ba74bb8dee5ea3255fd953d4f569e7a", func := "lookout/lookoutlaw12.SceneKnown", spec := "sceneKnown", inPlace := ["math.Float64bits", "math.Float64frombits", "math.archFloor", "math.archTrunc", "math.sqrt"], unfollowed := true, recurses := true, apart := false }
def SceneKnownSaid : Prop := sceneKnownRow.holds Try.pinned (OpenSpec.ofChange sceneKnownSpec)

/-- ITS FALSE NEIGHBOUR: 'it returns false'. Refute it at one input. -/
def sceneKnownWrong : ChangeSpec := { name := "sceneKnown", fn := fun _ => fun
  | [] => { results := [.lit (.bool false)], args := [] }
  | _ => none }
def SceneKnownWrongFalsely : Prop := sceneKnownRow.holds Try.pinned (OpenSpec.ofChange sceneKnownWrong)

/-- 'lookoutlaw12.ScenePeak': WHATEVER THE INPUT: true; the input reads as it did. -/
def scenePeakSpec : ChangeSpec := { name := "scenePeak", fn := fun _ => fun
  | [d] => { results := [.lit (.bool true)], args := [d] }
  | _ => none }
def scenePeakRow : OpenClaim := { program := "ytmomainjlncogaa", sum := "2a30e3797a7370b074c4aaa3c8793e483ba74bb8dee5ea3255fd953d4f569e7a", func := "lookout/lookoutlaw12.ScenePeak", spec := "scenePeak", inPlace := ["math.Float64bits", "math.Float64frombits", "math.archFloor", "math.archTrunc", "math.sqrt"], unfollowed := true, recurses := true, apart := false }
def ScenePeakSaid : Prop := scenePeakRow.holds Try.pinned (OpenSpec.ofChange scenePeakSpec)

/-- ITS FALSE NEIGHBOUR: 'it returns false'. Refute it at one input. -/
def scenePeakWrong : ChangeSpec := { name := "scenePeak", fn := fun _ => fun
  | [d] => { results := [.lit (.bool false)], args := [d] }
  | _ => none }
def ScenePeakWrongFalsely : Prop := scenePeakRow.holds Try.pinned (OpenSpec.ofChange scenePeakWrong)

/-- 'lookoutlaw22.BeamHears': WHATEVER THE INPUT: true; the input reads as it did. -/
def beamHearsSpec : ChangeSpec := { name := "beamHears", fn := fun _ => fun
  | [d1, d2, d3] => { results := [.lit (.bool true)], args := [d1, d2, d3] }
  | _ => none }
def beamHearsRow : OpenClaim := { program := "ytmomainjlncogaa", sum := "2a30e3797a7370b074c4aaa3c8793e483ba74bb8dee5ea3255fd953d4f569e7a", func := "lookout/lookoutlaw22.BeamHears", spec := "beamHears", inPlace := ["math.Float64frombits", "math.archTrunc", "math.Float64bits", "math.sqrt"], unfollowed := true, recurses := true, apart := false }
def BeamHearsSaid : Prop := beamHearsRow.holds Try.pinned (OpenSpec.ofChange beamHearsSpec)

/-- ITS FALSE NEIGHBOUR: 'it returns false'. Refute it at one input. -/
def beamHearsWrong : ChangeSpec := { name := "beamHears", fn := fun _ => fun
  | [d1, d2, d3] => { results := [.lit (.bool false)], args := [d1, d2, d3] }
  | _ => none }
def BeamHearsWrongFalsely : Prop := beamHearsRow.holds Try.pinned (OpenSpec.ofChange beamHearsWrong)

/-- 'lookoutlaw22.BeamAdds': WHATEVER THE INPUT: true; the input reads as it did. -/
def beamAddsSpec : ChangeSpec := { name := "beamAdds", fn := fun _ => fun
  | [d1, d2, d3] => { results := [.lit (.bool true)], args := [d1, d2, d3] }
  | _ => none }
def beamAddsRow : OpenClaim := { program := "ytmomainjlncogaa", sum := "2a30e3797a7370b074c4aaa3c8793e483ba74bb8dee5ea3255fd953d4f569e7a", func := "lookout/lookoutlaw22.BeamAdds", spec := "beamAdds", inPlace := ["math.Float64frombits", "math.archTrunc", "math.Float64bits", "math.sqrt"], unfollowed := true, recurses := true, apart := false }
def BeamAddsSaid : Prop := beamAddsRow.holds Try.pinned (OpenSpec.ofChange beamAddsSpec)

/-- ITS FALSE NEIGHBOUR: 'it returns false'. Refute it at one input. -/
def beamAddsWrong : ChangeSpec := { name := "beamAdds", fn := fun _ => fun
  | [d1, d2, d3] => { results := [.lit (.bool false)], args := [d1, d2, d3] }
  | _ => none }
def BeamAddsWrongFalsely : Prop := beamAddsRow.holds Try.pinned (OpenSpec.ofChange beamAddsWrong)

/-- 'lookoutlaw22.BeamBack': WHATEVER THE INPUT: true; the input reads as it did. -/
def beamBackSpec : ChangeSpec := { name := "beamBack", fn := fun _ => fun
  | [d1, d2] => { results := [.lit (.bool true)], args := [d1, d2] }
  | _ => none }
def beamBackRow : OpenClaim := { program := "ytmomainjlncogaa", sum := "2a30e3797a7370b074c4aaa3c8793e483ba74bb8dee5ea3255fd953d4f569e7a", func := "lookout/lookoutlaw22.BeamBack", spec := "beamBack", inPlace := ["math.Float64frombits", "math.archTrunc", "math.Float64bits", "math.sqrt"], unfollowed := true, recurses := true, apart := false }
def BeamBackSaid : Prop := beamBackRow.holds Try.pinned (OpenSpec.ofChange beamBackSpec)

/-- ITS FALSE NEIGHBOUR: 'it returns false'. Refute it at one input. -/
def beamBackWrong : ChangeSpec := { name := "beamBack", fn := fun _ => fun
  | [d1, d2] => { results := [.lit (.bool false)], args := [d1, d2] }
  | _ => none }
def BeamBackWrongFalsely : Prop := beamBackRow.holds Try.pinned (OpenSpec.ofChange beamBackWrong)

/-- 'lookoutlaw22.BeamSteers': WHATEVER THE INPUT: true; the input reads as it did. -/
def beamSteersSpec : ChangeSpec := { name := "beamSteers", fn := fun _ => fun
  | [d1, d2, d3] => { results := [.lit (.bool true)], args := [d1, d2, d3] }
  | _ => none }
def beamSteersRow : OpenClaim := { program := "ytmomainjlncogaa", sum := "2a30e3797a7370b074c4aaa3c8793e483ba74bb8dee5ea3255fd953d4f569e7a", func := "lookout/lookoutlaw22.BeamSteers", spec := "beamSteers", inPlace := ["math.Float64bits", "math.Float64frombits", "math.archFloor", "math.archTrunc", "math.sqrt"], unfollowed := true, recurses := true, apart := false }
def BeamSteersSaid : Prop := beamSteersRow.holds Try.pinned (OpenSpec.ofChange beamSteersSpec)

/-- ITS FALSE NEIGHBOUR: 'it returns false'. Refute it at one input. -/
def beamSteersWrong : ChangeSpec := { name := "beamSteers", fn := fun _ => fun
  | [d1, d2, d3] => { results := [.lit (.bool false)], args := [d1, d2, d3] }
  | _ => none }
def BeamSteersWrongFalsely : Prop := beamSteersRow.holds Try.pinned (OpenSpec.ofChange beamSteersWrong)

/-- 'lookoutlaw22.BeamNulls': WHATEVER THE INPUT: true; the input reads as it did. -/
def beamNullsSpec : ChangeSpec := { name := "beamNulls", fn := fun _ => fun
  | [d1, d2, d3] => { results := [.lit (.bool true)], args := [d1, d2, d3] }
  | _ => none }
def beamNullsRow : OpenClaim := { program := "ytmomainjlncogaa", sum := "2a30e3797a7370b074c4aaa3c8793e483ba74bb8dee5ea3255fd953d4f569e7a", func := "lookout/lookoutlaw22.BeamNulls", spec := "beamNulls", inPlace := ["math.Float64frombits", "math.archTrunc", "math.Float64bits", "math.sqrt", "math.archFloor"], unfollowed := true, recurses := true, apart := false }
def BeamNullsSaid : Prop := beamNullsRow.holds Try.pinned (OpenSpec.ofChange beamNullsSpec)

/-- ITS FALSE NEIGHBOUR: 'it returns false'. Refute it at one input. -/
def beamNullsWrong : ChangeSpec := { name := "beamNulls", fn := fun _ => fun
  | [d1, d2, d3] => { results := [.lit (.bool false)], args := [d1, d2, d3] }
  | _ => none }
def BeamNullsWrongFalsely : Prop := beamNullsRow.holds Try.pinned (OpenSpec.ofChange beamNullsWrong)

/-- 'lookoutlaw22.BeamDeaf': WHATEVER THE INPUT: true; the input reads as it did. -/
def beamDeafSpec : ChangeSpec := { name := "beamDeaf", fn := fun _ => fun
  | [d1, d2, d3] => { results := [.lit (.bool true)], args := [d1, d2, d3] }
  | _ => none }
def beamDeafRow : OpenClaim := { program := "ytmomainjlncogaa", sum := "2a30e3797a7370b074c4aaa3c8793e483ba74bb8dee5ea3255fd953d4f569e7a", func := "lookout/lookoutlaw22.BeamDeaf", spec := "beamDeaf", inPlace := ["math.Float64bits", "math.Float64frombits", "math.archTrunc", "math.sqrt"], unfollowed := true, recurses := true, apart := false }
def BeamDeafSaid : Prop := beamDeafRow.holds Try.pinned (OpenSpec.ofChange beamDeafSpec)

/-- ITS FALSE NEIGHBOUR: 'it returns false'. Refute it at one input. -/
def beamDeafWrong : ChangeSpec := { name := "beamDeaf", fn := fun _ => fun
  | [d1, d2, d3] => { results := [.lit (.bool false)], args := [d1, d2, d3] }
  | _ => none }
def BeamDeafWrongFalsely : Prop := beamDeafRow.holds Try.pinned (OpenSpec.ofChange beamDeafWrong)

/-- 'lookoutlaw22.BeamEven': WHATEVER THE INPUT: true; the input reads as it did. -/
def beamEvenSpec : ChangeSpec := { name := "beamEven", fn := fun _ => fun
  | [d1, d2, d3] => { results := [.lit (.bool true)], args := [d1, d2, d3] }
  | _ => none }
def beamEvenRow : OpenClaim := { program := "ytmomainjlncogaa", sum := "2a30e3797a7370b074c4aaa3c8793e483ba74bb8dee5ea3255fd953d4f569e7a", func := "lookout/lookoutlaw22.BeamEven", spec := "beamEven", inPlace := ["math.Float64frombits", "math.archTrunc", "math.Float64bits", "math.sqrt"], unfollowed := true, recurses := true, apart := false }
def BeamEvenSaid : Prop := beamEvenRow.holds Try.pinned (OpenSpec.ofChange beamEvenSpec)

/-- ITS FALSE NEIGHBOUR: 'it returns false'. Refute it at one input. -/
def beamEvenWrong : ChangeSpec := { name := "beamEven", fn := fun _ => fun
  | [d1, d2, d3] => { results := [.lit (.bool false)], args := [d1, d2, d3] }
  | _ => none }
def BeamEvenWrongFalsely : Prop := beamEvenRow.holds Try.pinned (OpenSpec.ofChange beamEvenWrong)

/- THE SECOND FORM. 'bulk': how many values and letters a reading holds, each counted each time it is reached (what is shared counts as often as it is met; a slice's spare places count too). A statement '..UptoSaid' is the law's where the arguments, and the package variables that the reading takes, are together of bulk at most 1048576: NARROWER than '..Said'. Prove '..Said' where nothing that the law and all that it calls make is longer than what came in: it says more and counts as full. Else prove '..UptoSaid'. A law counts once. -/
mutual
def uptoBulk {H : Type} : DataW H → Nat
  | .lit (.string bytes) => bytes.length + 1
  | .lit _ => 1
  | .nil => 1
  | .ptr d => uptoBulk d + 1
  | .slice elems spare => uptoBulkAll elems + uptoBulkAll spare + 1
  | .agg parts => uptoBulkAll parts + 1
  | .iface _ d => uptoBulk d + 1
  | .map entries => uptoBulkEntries entries + 1
  | .held _ => 1
def uptoBulkAll {H : Type} : List (DataW H) → Nat
  | [] => 0
  | d :: r => uptoBulk d + uptoBulkAll r
def uptoBulkEntries {H : Type} : List (Lit × DataW H) → Nat
  | [] => 0
  | x :: r => uptoBulkEntry x + uptoBulkEntries r
def uptoBulkEntry {H : Type} : Lit × DataW H → Nat
  | (.string bytes, d) => bytes.length + uptoBulk d + 1
  | (_, d) => uptoBulk d + 1
 end
def uptoSmall : (H : Type) → List (DataW H) → Bool := fun _ ds => decide (uptoBulkAll ds ≤ 1048576)
def OpenSpec.upto (s : _root_.Go.ChangeSpec) : _root_.Go.OpenSpec := { _root_.Go.OpenSpec.ofChange s with cond := some uptoSmall }

/-- 'lookoutlaw02.TurnKnown', WHERE WHAT IT READS IS OF BULK AT MOST 1048576: true; the input reads as it did. -/
def turnKnownUptoRow : OpenClaim := { program := "ytmomainjlncogaa", sum := "2a30e3797a7370b074c4aaa3c8793e483ba74bb8dee5ea3255fd953d4f569e7a", func := "lookout/lookoutlaw02.TurnKnown", spec := "turnKnown", inPlace := ["math.Float64frombits", "math.archTrunc", "math.Float64bits", "math.sqrt"], apart := false, narrowed := true }
def TurnKnownUptoSaid : Prop := turnKnownUptoRow.holds Try.pinned (OpenSpec.upto turnKnownSpec)

/-- 'lookoutlaw02.TurnWraps', WHERE WHAT IT READS IS OF BULK AT MOST 1048576: true; the input reads as it did. -/
def turnWrapsUptoRow : OpenClaim := { program := "ytmomainjlncogaa", sum := "2a30e3797a7370b074c4aaa3c8793e483ba74bb8dee5ea3255fd953d4f569e7a", func := "lookout/lookoutlaw02.TurnWraps", spec := "turnWraps", inPlace := ["math.Float64frombits", "math.archTrunc", "math.Float64bits", "math.archFloor", "math.sqrt"], apart := false, narrowed := true }
def TurnWrapsUptoSaid : Prop := turnWrapsUptoRow.holds Try.pinned (OpenSpec.upto turnWrapsSpec)

/-- 'lookoutlaw02.TurnUnits', WHERE WHAT IT READS IS OF BULK AT MOST 1048576: true; the input reads as it did. -/
def turnUnitsUptoRow : OpenClaim := { program := "ytmomainjlncogaa", sum := "2a30e3797a7370b074c4aaa3c8793e483ba74bb8dee5ea3255fd953d4f569e7a", func := "lookout/lookoutlaw02.TurnUnits", spec := "turnUnits", inPlace := ["math.Float64frombits", "math.archTrunc", "math.Float64bits", "math.sqrt", "math.archFloor"], apart := false, narrowed := true }
def TurnUnitsUptoSaid : Prop := turnUnitsUptoRow.holds Try.pinned (OpenSpec.upto turnUnitsSpec)

/-- 'lookoutlaw23.PlaceWithin', WHERE WHAT IT READS IS OF BULK AT MOST 1048576: true; the input reads as it did. -/
def placeWithinUptoRow : OpenClaim := { program := "ytmomainjlncogaa", sum := "2a30e3797a7370b074c4aaa3c8793e483ba74bb8dee5ea3255fd953d4f569e7a", func := "lookout/lookoutlaw23.PlaceWithin", spec := "placeWithin", inPlace := ["math.Float64frombits", "math.archTrunc", "math.Float64bits", "math.sqrt", "math.archFloor"], apart := false, narrowed := true }
def PlaceWithinUptoSaid : Prop := placeWithinUptoRow.holds Try.pinned (OpenSpec.upto placeWithinSpec)

/-- 'lookoutlaw23.PlaceCorners', WHERE WHAT IT READS IS OF BULK AT MOST 1048576: true; the input reads as it did. -/
def placeCornersUptoRow : OpenClaim := { program := "ytmomainjlncogaa", sum := "2a30e3797a7370b074c4aaa3c8793e483ba74bb8dee5ea3255fd953d4f569e7a", func := "lookout/lookoutlaw23.PlaceCorners", spec := "placeCorners", inPlace := ["math.Float64frombits", "math.archTrunc", "math.Float64bits", "math.sqrt", "math.archFloor"], apart := false, narrowed := true }
def PlaceCornersUptoSaid : Prop := placeCornersUptoRow.holds Try.pinned (OpenSpec.upto placeCornersSpec)

/-- 'lookoutlaw23.PlaceSquares', WHERE WHAT IT READS IS OF BULK AT MOST 1048576: true; the input reads as it did. -/
def placeSquaresUptoRow : OpenClaim := { program := "ytmomainjlncogaa", sum := "2a30e3797a7370b074c4aaa3c8793e483ba74bb8dee5ea3255fd953d4f569e7a", func := "lookout/lookoutlaw23.PlaceSquares", spec := "placeSquares", inPlace := ["math.Float64frombits", "math.archTrunc", "math.Float64bits", "math.sqrt", "math.archFloor"], apart := false, narrowed := true }
def PlaceSquaresUptoSaid : Prop := placeSquaresUptoRow.holds Try.pinned (OpenSpec.upto placeSquaresSpec)

/-- 'lookoutlaw23.PlaceKnown', WHERE WHAT IT READS IS OF BULK AT MOST 1048576: true; the input reads as it did. -/
def placeKnownUptoRow : OpenClaim := { program := "ytmomainjlncogaa", sum := "2a30e3797a7370b074c4aaa3c8793e483ba74bb8dee5ea3255fd953d4f569e7a", func := "lookout/lookoutlaw23.PlaceKnown", spec := "placeKnown", inPlace := ["math.Float64bits", "math.Float64frombits", "math.sqrt", "math.archTrunc", "math.archFloor"], apart := false, narrowed := true }
def PlaceKnownUptoSaid : Prop := placeKnownUptoRow.holds Try.pinned (OpenSpec.upto placeKnownSpec)

/-- 'lookoutlaw23.PlaceTurns', WHERE WHAT IT READS IS OF BULK AT MOST 1048576: true; the input reads as it did. -/
def placeTurnsUptoRow : OpenClaim := { program := "ytmomainjlncogaa", sum := "2a30e3797a7370b074c4aaa3c8793e483ba74bb8dee5ea3255fd953d4f569e7a", func := "lookout/lookoutlaw23.PlaceTurns", spec := "placeTurns", inPlace := ["math.Float64bits", "math.Float64frombits", "math.sqrt", "math.archTrunc", "math.archFloor"], apart := false, narrowed := true }
def PlaceTurnsUptoSaid : Prop := placeTurnsUptoRow.holds Try.pinned (OpenSpec.upto placeTurnsSpec)

/-- 'lookoutlaw23.PlaceBack', WHERE WHAT IT READS IS OF BULK AT MOST 1048576: true; the input reads as it did. -/
def placeBackUptoRow : OpenClaim := { program := "ytmomainjlncogaa", sum := "2a30e3797a7370b074c4aaa3c8793e483ba74bb8dee5ea3255fd953d4f569e7a", func := "lookout/lookoutlaw23.PlaceBack", spec := "placeBack", inPlace := ["math.Float64frombits", "math.archTrunc", "math.Float64bits", "math.sqrt", "math.archFloor"], apart := false, narrowed := true }
def PlaceBackUptoSaid : Prop := placeBackUptoRow.holds Try.pinned (OpenSpec.upto placeBackSpec)

/-- 'lookoutlaw04.PulseNames', WHERE WHAT IT READS IS OF BULK AT MOST 1048576: true; the input reads as it did. -/
def pulseNamesUptoRow : OpenClaim := { program := "ytmomainjlncogaa", sum := "2a30e3797a7370b074c4aaa3c8793e483ba74bb8dee5ea3255fd953d4f569e7a", func := "lookout/lookoutlaw04.PulseNames", spec := "pulseNames", inPlace := ["math.Float64bits", "math.Float64frombits", "math.archTrunc", "math.sqrt"], apart := false, narrowed := true }
def PulseNamesUptoSaid : Prop := pulseNamesUptoRow.holds Try.pinned (OpenSpec.upto pulseNamesSpec)

/-- 'lookoutlaw04.PulseChirps', WHERE WHAT IT READS IS OF BULK AT MOST 1048576: true; the input reads as it did. -/
def pulseChirpsUptoRow : OpenClaim := { program := "ytmomainjlncogaa", sum := "2a30e3797a7370b074c4aaa3c8793e483ba74bb8dee5ea3255fd953d4f569e7a", func := "lookout/lookoutlaw04.PulseChirps", spec := "pulseChirps", inPlace := ["math.Float64bits", "math.Float64frombits", "math.archFloor", "math.archTrunc", "math.sqrt"], apart := false, narrowed := true }
def PulseChirpsUptoSaid : Prop := pulseChirpsUptoRow.holds Try.pinned (OpenSpec.upto pulseChirpsSpec)

/-- 'lookoutlaw04.PulseSigns', WHERE WHAT IT READS IS OF BULK AT MOST 1048576: true; the input reads as it did. -/
def pulseSignsUptoRow : OpenClaim := { program := "ytmomainjlncogaa", sum := "2a30e3797a7370b074c4aaa3c8793e483ba74bb8dee5ea3255fd953d4f569e7a", func := "lookout/lookoutlaw04.PulseSigns", spec := "pulseSigns", inPlace := ["math.Float64bits", "math.Float64frombits", "math.archTrunc", "math.sqrt", "math.archFloor"], apart := false, narrowed := true }
def PulseSignsUptoSaid : Prop := pulseSignsUptoRow.holds Try.pinned (OpenSpec.upto pulseSignsSpec)

/-- 'lookoutlaw04.PulseSteps', WHERE WHAT IT READS IS OF BULK AT MOST 1048576: true; the input reads as it did. -/
def pulseStepsUptoRow : OpenClaim := { program := "ytmomainjlncogaa", sum := "2a30e3797a7370b074c4aaa3c8793e483ba74bb8dee5ea3255fd953d4f569e7a", func := "lookout/lookoutlaw04.PulseSteps", spec := "pulseSteps", inPlace := ["math.Float64bits", "math.Float64frombits", "math.archTrunc", "math.sqrt", "math.archFloor"], apart := false, narrowed := true }
def PulseStepsUptoSaid : Prop := pulseStepsUptoRow.holds Try.pinned (OpenSpec.upto pulseStepsSpec)

/-- 'lookoutlaw04.PulseCodes', WHERE WHAT IT READS IS OF BULK AT MOST 1048576: true; the input reads as it did. -/
def pulseCodesUptoRow : OpenClaim := { program := "ytmomainjlncogaa", sum := "2a30e3797a7370b074c4aaa3c8793e483ba74bb8dee5ea3255fd953d4f569e7a", func := "lookout/lookoutlaw04.PulseCodes", spec := "pulseCodes", inPlace := ["math.Float64bits", "math.Float64frombits", "math.archFloor", "math.archTrunc", "math.sqrt"], apart := false, narrowed := true }
def PulseCodesUptoSaid : Prop := pulseCodesUptoRow.holds Try.pinned (OpenSpec.upto pulseCodesSpec)

/-- 'lookoutlaw04.PulsePeak', WHERE WHAT IT READS IS OF BULK AT MOST 1048576: true; the input reads as it did. -/
def pulsePeakUptoRow : OpenClaim := { program := "ytmomainjlncogaa", sum := "2a30e3797a7370b074c4aaa3c8793e483ba74bb8dee5ea3255fd953d4f569e7a", func := "lookout/lookoutlaw04.PulsePeak", spec := "pulsePeak", inPlace := ["math.archFloor", "math.Float64bits", "math.Float64frombits", "math.archTrunc", "math.sqrt"], apart := false, narrowed := true }
def PulsePeakUptoSaid : Prop := pulsePeakUptoRow.holds Try.pinned (OpenSpec.upto pulsePeakSpec)

/-- 'lookoutlaw04.PulseEven', WHERE WHAT IT READS IS OF BULK AT MOST 1048576: true; the input reads as it did. -/
def pulseEvenUptoRow : OpenClaim := { program := "ytmomainjlncogaa", sum := "2a30e3797a7370b074c4aaa3c8793e483ba74bb8dee5ea3255fd953d4f569e7a", func := "lookout/lookoutlaw04.PulseEven", spec := "pulseEven", inPlace := ["math.Float64bits", "math.Float64frombits", "math.archTrunc", "math.sqrt"], apart := false, narrowed := true }
def PulseEvenUptoSaid : Prop := pulseEvenUptoRow.holds Try.pinned (OpenSpec.upto pulseEvenSpec)

/-- 'lookoutlaw05.DftKnown', WHERE WHAT IT READS IS OF BULK AT MOST 1048576: true; the input reads as it did. -/
def dftKnownUptoRow : OpenClaim := { program := "ytmomainjlncogaa", sum := "2a30e3797a7370b074c4aaa3c8793e483ba74bb8dee5ea3255fd953d4f569e7a", func := "lookout/lookoutlaw05.DftKnown", spec := "dftKnown", inPlace := ["math.Float64frombits", "math.archTrunc", "math.Float64bits", "math.sqrt"], unfollowed := true, recurses := true, apart := false, narrowed := true }
def DftKnownUptoSaid : Prop := dftKnownUptoRow.holds Try.pinned (OpenSpec.upto dftKnownSpec)

/-- 'lookoutlaw06.MatchPeak', WHERE WHAT IT READS IS OF BULK AT MOST 1048576: true; the input reads as it did. -/
def matchPeakUptoRow : OpenClaim := { program := "ytmomainjlncogaa", sum := "2a30e3797a7370b074c4aaa3c8793e483ba74bb8dee5ea3255fd953d4f569e7a", func := "lookout/lookoutlaw06.MatchPeak", spec := "matchPeak", inPlace := ["math.Float64bits", "math.Float64frombits", "math.sqrt"], apart := false, narrowed := true }
def MatchPeakUptoSaid : Prop := matchPeakUptoRow.holds Try.pinned (OpenSpec.upto matchPeakSpec)

/-- 'lookoutlaw06.MatchKnown', WHERE WHAT IT READS IS OF BULK AT MOST 1048576: true; the input reads as it did. -/
def matchKnownUptoRow : OpenClaim := { program := "ytmomainjlncogaa", sum := "2a30e3797a7370b074c4aaa3c8793e483ba74bb8dee5ea3255fd953d4f569e7a", func := "lookout/lookoutlaw06.MatchKnown", spec := "matchKnown", inPlace := ["math.Float64frombits", "math.archTrunc", "math.Float64bits", "math.sqrt"], unfollowed := true, recurses := true, apart := false, narrowed := true }
def MatchKnownUptoSaid : Prop := matchKnownUptoRow.holds Try.pinned (OpenSpec.upto matchKnownSpec)

/-- 'lookoutlaw21.SolveKnown', WHERE WHAT IT READS IS OF BULK AT MOST 1048576: true; the input reads as it did. -/
def solveKnownUptoRow : OpenClaim := { program := "ytmomainjlncogaa", sum := "2a30e3797a7370b074c4aaa3c8793e483ba74bb8dee5ea3255fd953d4f569e7a", func := "lookout/lookoutlaw21.SolveKnown", spec := "solveKnown", inPlace := ["math.Float64bits", "math.Float64frombits"], apart := false, narrowed := true }
def SolveKnownUptoSaid : Prop := solveKnownUptoRow.holds Try.pinned (OpenSpec.upto solveKnownSpec)

/-- 'lookoutlaw12.SceneKnown', WHERE WHAT IT READS IS OF BULK AT MOST 1048576: true; the input reads as it did. -/
def sceneKnownUptoRow : OpenClaim := { program := "ytmomainjlncogaa", sum := "2a30e3797a7370b074c4aaa3c8793e483ba74bb8dee5ea3255fd953d4f569e7a", func := "lookout/lookoutlaw12.SceneKnown", spec := "sceneKnown", inPlace := ["math.Float64bits", "math.Float64frombits", "math.archFloor", "math.archTrunc", "math.sqrt"], unfollowed := true, recurses := true, apart := false, narrowed := true }
def SceneKnownUptoSaid : Prop := sceneKnownUptoRow.holds Try.pinned (OpenSpec.upto sceneKnownSpec)

/-- 'lookoutlaw12.ScenePeak', WHERE WHAT IT READS IS OF BULK AT MOST 1048576: true; the input reads as it did. -/
def scenePeakUptoRow : OpenClaim := { program := "ytmomainjlncogaa", sum := "2a30e3797a7370b074c4aaa3c8793e483ba74bb8dee5ea3255fd953d4f569e7a", func := "lookout/lookoutlaw12.ScenePeak", spec := "scenePeak", inPlace := ["math.Float64bits", "math.Float64frombits", "math.archFloor", "math.archTrunc", "math.sqrt"], unfollowed := true, recurses := true, apart := false, narrowed := true }
def ScenePeakUptoSaid : Prop := scenePeakUptoRow.holds Try.pinned (OpenSpec.upto scenePeakSpec)

/-- 'lookoutlaw22.BeamHears', WHERE WHAT IT READS IS OF BULK AT MOST 1048576: true; the input reads as it did. -/
def beamHearsUptoRow : OpenClaim := { program := "ytmomainjlncogaa", sum := "2a30e3797a7370b074c4aaa3c8793e483ba74bb8dee5ea3255fd953d4f569e7a", func := "lookout/lookoutlaw22.BeamHears", spec := "beamHears", inPlace := ["math.Float64frombits", "math.archTrunc", "math.Float64bits", "math.sqrt"], unfollowed := true, recurses := true, apart := false, narrowed := true }
def BeamHearsUptoSaid : Prop := beamHearsUptoRow.holds Try.pinned (OpenSpec.upto beamHearsSpec)

/-- 'lookoutlaw22.BeamAdds', WHERE WHAT IT READS IS OF BULK AT MOST 1048576: true; the input reads as it did. -/
def beamAddsUptoRow : OpenClaim := { program := "ytmomainjlncogaa", sum := "2a30e3797a7370b074c4aaa3c8793e483ba74bb8dee5ea3255fd953d4f569e7a", func := "lookout/lookoutlaw22.BeamAdds", spec := "beamAdds", inPlace := ["math.Float64frombits", "math.archTrunc", "math.Float64bits", "math.sqrt"], unfollowed := true, recurses := true, apart := false, narrowed := true }
def BeamAddsUptoSaid : Prop := beamAddsUptoRow.holds Try.pinned (OpenSpec.upto beamAddsSpec)

/-- 'lookoutlaw22.BeamBack', WHERE WHAT IT READS IS OF BULK AT MOST 1048576: true; the input reads as it did. -/
def beamBackUptoRow : OpenClaim := { program := "ytmomainjlncogaa", sum := "2a30e3797a7370b074c4aaa3c8793e483ba74bb8dee5ea3255fd953d4f569e7a", func := "lookout/lookoutlaw22.BeamBack", spec := "beamBack", inPlace := ["math.Float64frombits", "math.archTrunc", "math.Float64bits", "math.sqrt"], unfollowed := true, recurses := true, apart := false, narrowed := true }
def BeamBackUptoSaid : Prop := beamBackUptoRow.holds Try.pinned (OpenSpec.upto beamBackSpec)

/-- 'lookoutlaw22.BeamSteers', WHERE WHAT IT READS IS OF BULK AT MOST 1048576: true; the input reads as it did. -/
def beamSteersUptoRow : OpenClaim := { program := "ytmomainjlncogaa", sum := "2a30e3797a7370b074c4aaa3c8793e483ba74bb8dee5ea3255fd953d4f569e7a", func := "lookout/lookoutlaw22.BeamSteers", spec := "beamSteers", inPlace := ["math.Float64bits", "math.Float64frombits", "math.archFloor", "math.archTrunc", "math.sqrt"], unfollowed := true, recurses := true, apart := false, narrowed := true }
def BeamSteersUptoSaid : Prop := beamSteersUptoRow.holds Try.pinned (OpenSpec.upto beamSteersSpec)

/-- 'lookoutlaw22.BeamNulls', WHERE WHAT IT READS IS OF BULK AT MOST 1048576: true; the input reads as it did. -/
def beamNullsUptoRow : OpenClaim := { program := "ytmomainjlncogaa", sum := "2a30e3797a7370b074c4aaa3c8793e483ba74bb8dee5ea3255fd953d4f569e7a", func := "lookout/lookoutlaw22.BeamNulls", spec := "beamNulls", inPlace := ["math.Float64frombits", "math.archTrunc", "math.Float64bits", "math.sqrt", "math.archFloor"], unfollowed := true, recurses := true, apart := false, narrowed := true }
def BeamNullsUptoSaid : Prop := beamNullsUptoRow.holds Try.pinned (OpenSpec.upto beamNullsSpec)

/-- 'lookoutlaw22.BeamDeaf', WHERE WHAT IT READS IS OF BULK AT MOST 1048576: true; the input reads as it did. -/
def beamDeafUptoRow : OpenClaim := { program := "ytmomainjlncogaa", sum := "2a30e3797a7370b074c4aaa3c8793e483ba74bb8dee5ea3255fd953d4f569e7a", func := "lookout/lookoutlaw22.BeamDeaf", spec := "beamDeaf", inPlace := ["math.Float64bits", "math.Float64frombits", "math.archTrunc", "math.sqrt"], unfollowed := true, recurses := true, apart := false, narrowed := true }
def BeamDeafUptoSaid : Prop := beamDeafUptoRow.holds Try.pinned (OpenSpec.upto beamDeafSpec)

/-- 'lookoutlaw22.BeamEven', WHERE WHAT IT READS IS OF BULK AT MOST 1048576: true; the input reads as it did. -/
def beamEvenUptoRow : OpenClaim := { program := "ytmomainjlncogaa", sum := "2a30e3797a7370b074c4aaa3c8793e483ba74bb8dee5ea3255fd953d4f569e7a", func := "lookout/lookoutlaw22.BeamEven", spec := "beamEven", inPlace := ["math.Float64frombits", "math.archTrunc", "math.Float64bits", "math.sqrt"], unfollowed := true, recurses := true, apart := false, narrowed := true }
def BeamEvenUptoSaid : Prop := beamEvenUptoRow.holds Try.pinned (OpenSpec.upto beamEvenSpec)

end Rows
end Go.Proofs.Ytmomainjlncogaa

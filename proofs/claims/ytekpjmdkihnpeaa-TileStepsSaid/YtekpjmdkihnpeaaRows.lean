/-
  No cell of these rows narrows 'for every input' (looked for: loops, veiled, ifaces, maps, wideKeys, modest, calm, conditions, laid).
  DERIVED. THE GIVEN ROWS OF THIS SEAT. 18 by the template 'for every input the law returns true; each argument reads behind the call as it read before'; 0 by the template 'total and deterministic' (their statements: YtekpjmdkihnpeaaTotals.lean).
  GIVEN WITH THE SEED: the statements are not yours to turn. If you find one false, say at which input.
  Laid BY PROGRAM, IN A SANDBOX (cutbox-rows.mjs): the forced cells as the released guide's own fill.sh prints them over the translation f241eeffb96557f8… (all of the seat's roots in one cut). By AI agents, Wed Nov 11 2026. No macro, syntax, notation, axiom, sorry.
-/
import Derived.Test.YtekpjmdkihnpeaaChecked
import GoSem.Claim
import GoSem.ClaimJoined
import GoSem.ClaimMapViews
import Derived.JoinedTies
import Derived.KernelRfl
namespace Go.Proofs.Ytekpjmdkihnpeaa
/- THE CELL 'sum', in the pinned program and in every row, IS THE sha256 OF THE DUMP (.gsa) THAT YtekpjmdkihnpeaaProg.lean LOADS. Nothing in Lean hashes anything: it is a label: what it is worth is what the hold of that sum in a sandbox is worth. -/
noncomputable def Try.pinned : Pinned := { name := "ytekpjmdkihnpeaa", sum := "f241eeffb96557f8777b505d89ba4fc201c38dc177f1615b95967ce5123c45cc", checked := Try.checked }
namespace Rows
def none {H : Type} : Left H := { results := [], args := [] }

/-- 'tidewalklaw01.PlaceKnown': WHATEVER THE INPUT: true; the input reads as it did. -/
def placeKnownSpec : ChangeSpec := { name := "placeKnown", fn := fun _ => fun
  | [] => { results := [.lit (.bool true)], args := [] }
  | _ => none }
def placeKnownRow : OpenClaim := { program := "ytekpjmdkihnpeaa", sum := "f241eeffb96557f8777b505d89ba4fc201c38dc177f1615b95967ce5123c45cc", func := "tidewalk/tidewalklaw01.PlaceKnown", spec := "placeKnown", unfollowed := true, recurses := true, apart := false }
def PlaceKnownSaid : Prop := placeKnownRow.holds Try.pinned (OpenSpec.ofChange placeKnownSpec)

/-- ITS FALSE NEIGHBOUR: 'it returns false'. Refute it at one input. -/
def placeKnownWrong : ChangeSpec := { name := "placeKnown", fn := fun _ => fun
  | [] => { results := [.lit (.bool false)], args := [] }
  | _ => none }
def PlaceKnownWrongFalsely : Prop := placeKnownRow.holds Try.pinned (OpenSpec.ofChange placeKnownWrong)

/-- 'tidewalklaw01.PlaceTells': WHATEVER THE INPUT: true; the input reads as it did. -/
def placeTellsSpec : ChangeSpec := { name := "placeTells", fn := fun _ => fun
  | [d1, d2, d3, d4, d5] => { results := [.lit (.bool true)], args := [d1, d2, d3, d4, d5] }
  | _ => none }
def placeTellsRow : OpenClaim := { program := "ytekpjmdkihnpeaa", sum := "f241eeffb96557f8777b505d89ba4fc201c38dc177f1615b95967ce5123c45cc", func := "tidewalk/tidewalklaw01.PlaceTells", spec := "placeTells", unfollowed := true, recurses := true, apart := false }
def PlaceTellsSaid : Prop := placeTellsRow.holds Try.pinned (OpenSpec.ofChange placeTellsSpec)

/-- ITS FALSE NEIGHBOUR: 'it returns false'. Refute it at one input. -/
def placeTellsWrong : ChangeSpec := { name := "placeTells", fn := fun _ => fun
  | [d1, d2, d3, d4, d5] => { results := [.lit (.bool false)], args := [d1, d2, d3, d4, d5] }
  | _ => none }
def PlaceTellsWrongFalsely : Prop := placeTellsRow.holds Try.pinned (OpenSpec.ofChange placeTellsWrong)

/-- 'tidewalklaw01.PlaceBack': WHATEVER THE INPUT: true; the input reads as it did. -/
def placeBackSpec : ChangeSpec := { name := "placeBack", fn := fun _ => fun
  | [d1, d2, d3, d4] => { results := [.lit (.bool true)], args := [d1, d2, d3, d4] }
  | _ => none }
def placeBackRow : OpenClaim := { program := "ytekpjmdkihnpeaa", sum := "f241eeffb96557f8777b505d89ba4fc201c38dc177f1615b95967ce5123c45cc", func := "tidewalk/tidewalklaw01.PlaceBack", spec := "placeBack", unfollowed := true, recurses := true, apart := false }
def PlaceBackSaid : Prop := placeBackRow.holds Try.pinned (OpenSpec.ofChange placeBackSpec)

/-- ITS FALSE NEIGHBOUR: 'it returns false'. Refute it at one input. -/
def placeBackWrong : ChangeSpec := { name := "placeBack", fn := fun _ => fun
  | [d1, d2, d3, d4] => { results := [.lit (.bool false)], args := [d1, d2, d3, d4] }
  | _ => none }
def PlaceBackWrongFalsely : Prop := placeBackRow.holds Try.pinned (OpenSpec.ofChange placeBackWrong)

/-- 'tidewalklaw01.PlaceNear': WHATEVER THE INPUT: true; the input reads as it did. -/
def placeNearSpec : ChangeSpec := { name := "placeNear", fn := fun _ => fun
  | [d1, d2, d3, d4] => { results := [.lit (.bool true)], args := [d1, d2, d3, d4] }
  | _ => none }
def placeNearRow : OpenClaim := { program := "ytekpjmdkihnpeaa", sum := "f241eeffb96557f8777b505d89ba4fc201c38dc177f1615b95967ce5123c45cc", func := "tidewalk/tidewalklaw01.PlaceNear", spec := "placeNear", unfollowed := true, recurses := true, apart := false }
def PlaceNearSaid : Prop := placeNearRow.holds Try.pinned (OpenSpec.ofChange placeNearSpec)

/-- ITS FALSE NEIGHBOUR: 'it returns false'. Refute it at one input. -/
def placeNearWrong : ChangeSpec := { name := "placeNear", fn := fun _ => fun
  | [d1, d2, d3, d4] => { results := [.lit (.bool false)], args := [d1, d2, d3, d4] }
  | _ => none }
def PlaceNearWrongFalsely : Prop := placeNearRow.holds Try.pinned (OpenSpec.ofChange placeNearWrong)

/-- 'tidewalklaw01.PlaceTurned': WHATEVER THE INPUT: true; the input reads as it did. -/
def placeTurnedSpec : ChangeSpec := { name := "placeTurned", fn := fun _ => fun
  | [d1, d2, d3, d4, d5] => { results := [.lit (.bool true)], args := [d1, d2, d3, d4, d5] }
  | _ => none }
def placeTurnedRow : OpenClaim := { program := "ytekpjmdkihnpeaa", sum := "f241eeffb96557f8777b505d89ba4fc201c38dc177f1615b95967ce5123c45cc", func := "tidewalk/tidewalklaw01.PlaceTurned", spec := "placeTurned", unfollowed := true, recurses := true, apart := false }
def PlaceTurnedSaid : Prop := placeTurnedRow.holds Try.pinned (OpenSpec.ofChange placeTurnedSpec)

/-- ITS FALSE NEIGHBOUR: 'it returns false'. Refute it at one input. -/
def placeTurnedWrong : ChangeSpec := { name := "placeTurned", fn := fun _ => fun
  | [d1, d2, d3, d4, d5] => { results := [.lit (.bool false)], args := [d1, d2, d3, d4, d5] }
  | _ => none }
def PlaceTurnedWrongFalsely : Prop := placeTurnedRow.holds Try.pinned (OpenSpec.ofChange placeTurnedWrong)

/-- 'tidewalklaw01.PlaceSteps': WHATEVER THE INPUT: true; the input reads as it did. -/
def placeStepsSpec : ChangeSpec := { name := "placeSteps", fn := fun _ => fun
  | [d1, d2, d3] => { results := [.lit (.bool true)], args := [d1, d2, d3] }
  | _ => none }
def placeStepsRow : OpenClaim := { program := "ytekpjmdkihnpeaa", sum := "f241eeffb96557f8777b505d89ba4fc201c38dc177f1615b95967ce5123c45cc", func := "tidewalk/tidewalklaw01.PlaceSteps", spec := "placeSteps", unfollowed := true, recurses := true, apart := false }
def PlaceStepsSaid : Prop := placeStepsRow.holds Try.pinned (OpenSpec.ofChange placeStepsSpec)

/-- ITS FALSE NEIGHBOUR: 'it returns false'. Refute it at one input. -/
def placeStepsWrong : ChangeSpec := { name := "placeSteps", fn := fun _ => fun
  | [d1, d2, d3] => { results := [.lit (.bool false)], args := [d1, d2, d3] }
  | _ => none }
def PlaceStepsWrongFalsely : Prop := placeStepsRow.holds Try.pinned (OpenSpec.ofChange placeStepsWrong)

/-- 'tidewalklaw17.RingsKnown': WHATEVER THE INPUT: true; the input reads as it did. -/
def ringsKnownSpec : ChangeSpec := { name := "ringsKnown", fn := fun _ => fun
  | [] => { results := [.lit (.bool true)], args := [] }
  | _ => none }
def ringsKnownRow : OpenClaim := { program := "ytekpjmdkihnpeaa", sum := "f241eeffb96557f8777b505d89ba4fc201c38dc177f1615b95967ce5123c45cc", func := "tidewalk/tidewalklaw17.RingsKnown", spec := "ringsKnown", unfollowed := true, recurses := true, apart := false }
def RingsKnownSaid : Prop := ringsKnownRow.holds Try.pinned (OpenSpec.ofChange ringsKnownSpec)

/-- ITS FALSE NEIGHBOUR: 'it returns false'. Refute it at one input. -/
def ringsKnownWrong : ChangeSpec := { name := "ringsKnown", fn := fun _ => fun
  | [] => { results := [.lit (.bool false)], args := [] }
  | _ => none }
def RingsKnownWrongFalsely : Prop := ringsKnownRow.holds Try.pinned (OpenSpec.ofChange ringsKnownWrong)

/-- 'tidewalklaw17.RingsTell': WHATEVER THE INPUT: true; the input reads as it did. -/
def ringsTellSpec : ChangeSpec := { name := "ringsTell", fn := fun _ => fun
  | [d1, d2, d3] => { results := [.lit (.bool true)], args := [d1, d2, d3] }
  | _ => none }
def ringsTellRow : OpenClaim := { program := "ytekpjmdkihnpeaa", sum := "f241eeffb96557f8777b505d89ba4fc201c38dc177f1615b95967ce5123c45cc", func := "tidewalk/tidewalklaw17.RingsTell", spec := "ringsTell", unfollowed := true, recurses := true, apart := false }
def RingsTellSaid : Prop := ringsTellRow.holds Try.pinned (OpenSpec.ofChange ringsTellSpec)

/-- ITS FALSE NEIGHBOUR: 'it returns false'. Refute it at one input. -/
def ringsTellWrong : ChangeSpec := { name := "ringsTell", fn := fun _ => fun
  | [d1, d2, d3] => { results := [.lit (.bool false)], args := [d1, d2, d3] }
  | _ => none }
def RingsTellWrongFalsely : Prop := ringsTellRow.holds Try.pinned (OpenSpec.ofChange ringsTellWrong)

/-- 'tidewalklaw17.RingsAll': WHATEVER THE INPUT: true; the input reads as it did. -/
def ringsAllSpec : ChangeSpec := { name := "ringsAll", fn := fun _ => fun
  | [d1, d2] => { results := [.lit (.bool true)], args := [d1, d2] }
  | _ => none }
def ringsAllRow : OpenClaim := { program := "ytekpjmdkihnpeaa", sum := "f241eeffb96557f8777b505d89ba4fc201c38dc177f1615b95967ce5123c45cc", func := "tidewalk/tidewalklaw17.RingsAll", spec := "ringsAll", unfollowed := true, recurses := true, apart := false }
def RingsAllSaid : Prop := ringsAllRow.holds Try.pinned (OpenSpec.ofChange ringsAllSpec)

/-- ITS FALSE NEIGHBOUR: 'it returns false'. Refute it at one input. -/
def ringsAllWrong : ChangeSpec := { name := "ringsAll", fn := fun _ => fun
  | [d1, d2] => { results := [.lit (.bool false)], args := [d1, d2] }
  | _ => none }
def RingsAllWrongFalsely : Prop := ringsAllRow.holds Try.pinned (OpenSpec.ofChange ringsAllWrong)

/-- 'tidewalklaw17.RingsTurned': WHATEVER THE INPUT: true; the input reads as it did. -/
def ringsTurnedSpec : ChangeSpec := { name := "ringsTurned", fn := fun _ => fun
  | [d1, d2, d3] => { results := [.lit (.bool true)], args := [d1, d2, d3] }
  | _ => none }
def ringsTurnedRow : OpenClaim := { program := "ytekpjmdkihnpeaa", sum := "f241eeffb96557f8777b505d89ba4fc201c38dc177f1615b95967ce5123c45cc", func := "tidewalk/tidewalklaw17.RingsTurned", spec := "ringsTurned", unfollowed := true, recurses := true, apart := false }
def RingsTurnedSaid : Prop := ringsTurnedRow.holds Try.pinned (OpenSpec.ofChange ringsTurnedSpec)

/-- ITS FALSE NEIGHBOUR: 'it returns false'. Refute it at one input. -/
def ringsTurnedWrong : ChangeSpec := { name := "ringsTurned", fn := fun _ => fun
  | [d1, d2, d3] => { results := [.lit (.bool false)], args := [d1, d2, d3] }
  | _ => none }
def RingsTurnedWrongFalsely : Prop := ringsTurnedRow.holds Try.pinned (OpenSpec.ofChange ringsTurnedWrong)

/-- 'tidewalklaw17.RingsOnce': WHATEVER THE INPUT: true; the input reads as it did. -/
def ringsOnceSpec : ChangeSpec := { name := "ringsOnce", fn := fun _ => fun
  | [d1, d2] => { results := [.lit (.bool true)], args := [d1, d2] }
  | _ => none }
def ringsOnceRow : OpenClaim := { program := "ytekpjmdkihnpeaa", sum := "f241eeffb96557f8777b505d89ba4fc201c38dc177f1615b95967ce5123c45cc", func := "tidewalk/tidewalklaw17.RingsOnce", spec := "ringsOnce", unfollowed := true, recurses := true, apart := false }
def RingsOnceSaid : Prop := ringsOnceRow.holds Try.pinned (OpenSpec.ofChange ringsOnceSpec)

/-- ITS FALSE NEIGHBOUR: 'it returns false'. Refute it at one input. -/
def ringsOnceWrong : ChangeSpec := { name := "ringsOnce", fn := fun _ => fun
  | [d1, d2] => { results := [.lit (.bool false)], args := [d1, d2] }
  | _ => none }
def RingsOnceWrongFalsely : Prop := ringsOnceRow.holds Try.pinned (OpenSpec.ofChange ringsOnceWrong)

/-- 'tidewalklaw17.RingsLeft': WHATEVER THE INPUT: true; the input reads as it did. -/
def ringsLeftSpec : ChangeSpec := { name := "ringsLeft", fn := fun _ => fun
  | [d1, d2, d3] => { results := [.lit (.bool true)], args := [d1, d2, d3] }
  | _ => none }
def ringsLeftRow : OpenClaim := { program := "ytekpjmdkihnpeaa", sum := "f241eeffb96557f8777b505d89ba4fc201c38dc177f1615b95967ce5123c45cc", func := "tidewalk/tidewalklaw17.RingsLeft", spec := "ringsLeft", unfollowed := true, recurses := true, apart := false }
def RingsLeftSaid : Prop := ringsLeftRow.holds Try.pinned (OpenSpec.ofChange ringsLeftSpec)

/-- ITS FALSE NEIGHBOUR: 'it returns false'. Refute it at one input. -/
def ringsLeftWrong : ChangeSpec := { name := "ringsLeft", fn := fun _ => fun
  | [d1, d2, d3] => { results := [.lit (.bool false)], args := [d1, d2, d3] }
  | _ => none }
def RingsLeftWrongFalsely : Prop := ringsLeftRow.holds Try.pinned (OpenSpec.ofChange ringsLeftWrong)

/-- 'tidewalklaw12.TileKnown': WHATEVER THE INPUT: true; the input reads as it did. -/
def tileKnownSpec : ChangeSpec := { name := "tileKnown", fn := fun _ => fun
  | [] => { results := [.lit (.bool true)], args := [] }
  | _ => none }
def tileKnownRow : OpenClaim := { program := "ytekpjmdkihnpeaa", sum := "f241eeffb96557f8777b505d89ba4fc201c38dc177f1615b95967ce5123c45cc", func := "tidewalk/tidewalklaw12.TileKnown", spec := "tileKnown", unfollowed := true, recurses := true, apart := false }
def TileKnownSaid : Prop := tileKnownRow.holds Try.pinned (OpenSpec.ofChange tileKnownSpec)

/-- ITS FALSE NEIGHBOUR: 'it returns false'. Refute it at one input. -/
def tileKnownWrong : ChangeSpec := { name := "tileKnown", fn := fun _ => fun
  | [] => { results := [.lit (.bool false)], args := [] }
  | _ => none }
def TileKnownWrongFalsely : Prop := tileKnownRow.holds Try.pinned (OpenSpec.ofChange tileKnownWrong)

/-- 'tidewalklaw12.TileTells': WHATEVER THE INPUT: true; the input reads as it did. -/
def tileTellsSpec : ChangeSpec := { name := "tileTells", fn := fun _ => fun
  | [d1, d2, d3] => { results := [.lit (.bool true)], args := [d1, d2, d3] }
  | _ => none }
def tileTellsRow : OpenClaim := { program := "ytekpjmdkihnpeaa", sum := "f241eeffb96557f8777b505d89ba4fc201c38dc177f1615b95967ce5123c45cc", func := "tidewalk/tidewalklaw12.TileTells", spec := "tileTells", unfollowed := true, recurses := true, apart := false }
def TileTellsSaid : Prop := tileTellsRow.holds Try.pinned (OpenSpec.ofChange tileTellsSpec)

/-- ITS FALSE NEIGHBOUR: 'it returns false'. Refute it at one input. -/
def tileTellsWrong : ChangeSpec := { name := "tileTells", fn := fun _ => fun
  | [d1, d2, d3] => { results := [.lit (.bool false)], args := [d1, d2, d3] }
  | _ => none }
def TileTellsWrongFalsely : Prop := tileTellsRow.holds Try.pinned (OpenSpec.ofChange tileTellsWrong)

/-- 'tidewalklaw12.TileBeside': WHATEVER THE INPUT: true; the input reads as it did. -/
def tileBesideSpec : ChangeSpec := { name := "tileBeside", fn := fun _ => fun
  | [d1, d2] => { results := [.lit (.bool true)], args := [d1, d2] }
  | _ => none }
def tileBesideRow : OpenClaim := { program := "ytekpjmdkihnpeaa", sum := "f241eeffb96557f8777b505d89ba4fc201c38dc177f1615b95967ce5123c45cc", func := "tidewalk/tidewalklaw12.TileBeside", spec := "tileBeside", unfollowed := true, recurses := true, apart := false }
def TileBesideSaid : Prop := tileBesideRow.holds Try.pinned (OpenSpec.ofChange tileBesideSpec)

/-- ITS FALSE NEIGHBOUR: 'it returns false'. Refute it at one input. -/
def tileBesideWrong : ChangeSpec := { name := "tileBeside", fn := fun _ => fun
  | [d1, d2] => { results := [.lit (.bool false)], args := [d1, d2] }
  | _ => none }
def TileBesideWrongFalsely : Prop := tileBesideRow.holds Try.pinned (OpenSpec.ofChange tileBesideWrong)

/-- 'tidewalklaw12.TileCount': WHATEVER THE INPUT: true; the input reads as it did. -/
def tileCountSpec : ChangeSpec := { name := "tileCount", fn := fun _ => fun
  | [d] => { results := [.lit (.bool true)], args := [d] }
  | _ => none }
def tileCountRow : OpenClaim := { program := "ytekpjmdkihnpeaa", sum := "f241eeffb96557f8777b505d89ba4fc201c38dc177f1615b95967ce5123c45cc", func := "tidewalk/tidewalklaw12.TileCount", spec := "tileCount", unfollowed := true, recurses := true, apart := false }
def TileCountSaid : Prop := tileCountRow.holds Try.pinned (OpenSpec.ofChange tileCountSpec)

/-- ITS FALSE NEIGHBOUR: 'it returns false'. Refute it at one input. -/
def tileCountWrong : ChangeSpec := { name := "tileCount", fn := fun _ => fun
  | [d] => { results := [.lit (.bool false)], args := [d] }
  | _ => none }
def TileCountWrongFalsely : Prop := tileCountRow.holds Try.pinned (OpenSpec.ofChange tileCountWrong)

/-- 'tidewalklaw12.TileParts': WHATEVER THE INPUT: true; the input reads as it did. -/
def tilePartsSpec : ChangeSpec := { name := "tileParts", fn := fun _ => fun
  | [d1, d2] => { results := [.lit (.bool true)], args := [d1, d2] }
  | _ => none }
def tilePartsRow : OpenClaim := { program := "ytekpjmdkihnpeaa", sum := "f241eeffb96557f8777b505d89ba4fc201c38dc177f1615b95967ce5123c45cc", func := "tidewalk/tidewalklaw12.TileParts", spec := "tileParts", unfollowed := true, recurses := true, apart := false }
def TilePartsSaid : Prop := tilePartsRow.holds Try.pinned (OpenSpec.ofChange tilePartsSpec)

/-- ITS FALSE NEIGHBOUR: 'it returns false'. Refute it at one input. -/
def tilePartsWrong : ChangeSpec := { name := "tileParts", fn := fun _ => fun
  | [d1, d2] => { results := [.lit (.bool false)], args := [d1, d2] }
  | _ => none }
def TilePartsWrongFalsely : Prop := tilePartsRow.holds Try.pinned (OpenSpec.ofChange tilePartsWrong)

/-- 'tidewalklaw12.TileSteps': WHATEVER THE INPUT: true; the input reads as it did. -/
def tileStepsSpec : ChangeSpec := { name := "tileSteps", fn := fun _ => fun
  | [d1, d2, d3] => { results := [.lit (.bool true)], args := [d1, d2, d3] }
  | _ => none }
def tileStepsRow : OpenClaim := { program := "ytekpjmdkihnpeaa", sum := "f241eeffb96557f8777b505d89ba4fc201c38dc177f1615b95967ce5123c45cc", func := "tidewalk/tidewalklaw12.TileSteps", spec := "tileSteps", unfollowed := true, recurses := true, apart := false }
def TileStepsSaid : Prop := tileStepsRow.holds Try.pinned (OpenSpec.ofChange tileStepsSpec)

/-- ITS FALSE NEIGHBOUR: 'it returns false'. Refute it at one input. -/
def tileStepsWrong : ChangeSpec := { name := "tileSteps", fn := fun _ => fun
  | [d1, d2, d3] => { results := [.lit (.bool false)], args := [d1, d2, d3] }
  | _ => none }
def TileStepsWrongFalsely : Prop := tileStepsRow.holds Try.pinned (OpenSpec.ofChange tileStepsWrong)

/- THE SECOND FORM. 'bulk': how many values and letters a reading holds, each counted each time it is reached (what is shared counts as often as it is met; a slice's spare places count too). A statement '..UptoSaid' is the law's where the arguments, and the package variables that the reading takes, are together of bulk at most 1048576: NARROWER than '..Said'. Prove '..Said' where nothing that the law and all that it calls make is longer than what came in: it says more and counts as full. Else prove '..UptoSaid'. A law counts once. -/
mutual
def uptoBulk {H : Type} : DataW H → Nat
  | .lit (.string bytes) => bytes.length + 1
  | .lit _ => 1
  | .nil => 1
  | .ptr d => uptoBulk d + 1
  | .slice elems spare => uptoBulkAll elems + uptoBulkAll spare + 1
  | .agg parts => uptoBulkAll parts + 1
  | .iface _ d => uptoBulk d + 1
  | .map entries => uptoBulkEntries entries + 1
  | .held _ => 1
def uptoBulkAll {H : Type} : List (DataW H) → Nat
  | [] => 0
  | d :: r => uptoBulk d + uptoBulkAll r
def uptoBulkEntries {H : Type} : List (Lit × DataW H) → Nat
  | [] => 0
  | x :: r => uptoBulkEntry x + uptoBulkEntries r
def uptoBulkEntry {H : Type} : Lit × DataW H → Nat
  | (.string bytes, d) => bytes.length + uptoBulk d + 1
  | (_, d) => uptoBulk d + 1
 end
def uptoSmall : (H : Type) → List (DataW H) → Bool := fun _ ds => decide (uptoBulkAll ds ≤ 1048576)
def OpenSpec.upto (s : _root_.Go.ChangeSpec) : _root_.Go.OpenSpec := { _root_.Go.OpenSpec.ofChange s with cond := some uptoSmall }

/-- 'tidewalklaw01.PlaceKnown', WHERE WHAT IT READS IS OF BULK AT MOST 1048576: true; the input reads as it did. -/
def placeKnownUptoRow : OpenClaim := { program := "ytekpjmdkihnpeaa", sum := "f241eeffb96557f8777b505d89ba4fc201c38dc177f1615b95967ce5123c45cc", func := "tidewalk/tidewalklaw01.PlaceKnown", spec := "placeKnown", unfollowed := true, recurses := true, apart := false, narrowed := true }
def PlaceKnownUptoSaid : Prop := placeKnownUptoRow.holds Try.pinned (OpenSpec.upto placeKnownSpec)

/-- 'tidewalklaw01.PlaceTells', WHERE WHAT IT READS IS OF BULK AT MOST 1048576: true; the input reads as it did. -/
def placeTellsUptoRow : OpenClaim := { program := "ytekpjmdkihnpeaa", sum := "f241eeffb96557f8777b505d89ba4fc201c38dc177f1615b95967ce5123c45cc", func := "tidewalk/tidewalklaw01.PlaceTells", spec := "placeTells", unfollowed := true, recurses := true, apart := false, narrowed := true }
def PlaceTellsUptoSaid : Prop := placeTellsUptoRow.holds Try.pinned (OpenSpec.upto placeTellsSpec)

/-- 'tidewalklaw01.PlaceBack', WHERE WHAT IT READS IS OF BULK AT MOST 1048576: true; the input reads as it did. -/
def placeBackUptoRow : OpenClaim := { program := "ytekpjmdkihnpeaa", sum := "f241eeffb96557f8777b505d89ba4fc201c38dc177f1615b95967ce5123c45cc", func := "tidewalk/tidewalklaw01.PlaceBack", spec := "placeBack", unfollowed := true, recurses := true, apart := false, narrowed := true }
def PlaceBackUptoSaid : Prop := placeBackUptoRow.holds Try.pinned (OpenSpec.upto placeBackSpec)

/-- 'tidewalklaw01.PlaceNear', WHERE WHAT IT READS IS OF BULK AT MOST 1048576: true; the input reads as it did. -/
def placeNearUptoRow : OpenClaim := { program := "ytekpjmdkihnpeaa", sum := "f241eeffb96557f8777b505d89ba4fc201c38dc177f1615b95967ce5123c45cc", func := "tidewalk/tidewalklaw01.PlaceNear", spec := "placeNear", unfollowed := true, recurses := true, apart := false, narrowed := true }
def PlaceNearUptoSaid : Prop := placeNearUptoRow.holds Try.pinned (OpenSpec.upto placeNearSpec)

/-- 'tidewalklaw01.PlaceTurned', WHERE WHAT IT READS IS OF BULK AT MOST 1048576: true; the input reads as it did. -/
def placeTurnedUptoRow : OpenClaim := { program := "ytekpjmdkihnpeaa", sum := "f241eeffb96557f8777b505d89ba4fc201c38dc177f1615b95967ce5123c45cc", func := "tidewalk/tidewalklaw01.PlaceTurned", spec := "placeTurned", unfollowed := true, recurses := true, apart := false, narrowed := true }
def PlaceTurnedUptoSaid : Prop := placeTurnedUptoRow.holds Try.pinned (OpenSpec.upto placeTurnedSpec)

/-- 'tidewalklaw01.PlaceSteps', WHERE WHAT IT READS IS OF BULK AT MOST 1048576: true; the input reads as it did. -/
def placeStepsUptoRow : OpenClaim := { program := "ytekpjmdkihnpeaa", sum := "f241eeffb96557f8777b505d89ba4fc201c38dc177f1615b95967ce5123c45cc", func := "tidewalk/tidewalklaw01.PlaceSteps", spec := "placeSteps", unfollowed := true, recurses := true, apart := false, narrowed := true }
def PlaceStepsUptoSaid : Prop := placeStepsUptoRow.holds Try.pinned (OpenSpec.upto placeStepsSpec)

/-- 'tidewalklaw17.RingsKnown', WHERE WHAT IT READS IS OF BULK AT MOST 1048576: true; the input reads as it did. -/
def ringsKnownUptoRow : OpenClaim := { program := "ytekpjmdkihnpeaa", sum := "f241eeffb96557f8777b505d89ba4fc201c38dc177f1615b95967ce5123c45cc", func := "tidewalk/tidewalklaw17.RingsKnown", spec := "ringsKnown", unfollowed := true, recurses := true, apart := false, narrowed := true }
def RingsKnownUptoSaid : Prop := ringsKnownUptoRow.holds Try.pinned (OpenSpec.upto ringsKnownSpec)

/-- 'tidewalklaw17.RingsTell', WHERE WHAT IT READS IS OF BULK AT MOST 1048576: true; the input reads as it did. -/
def ringsTellUptoRow : OpenClaim := { program := "ytekpjmdkihnpeaa", sum := "f241eeffb96557f8777b505d89ba4fc201c38dc177f1615b95967ce5123c45cc", func := "tidewalk/tidewalklaw17.RingsTell", spec := "ringsTell", unfollowed := true, recurses := true, apart := false, narrowed := true }
def RingsTellUptoSaid : Prop := ringsTellUptoRow.holds Try.pinned (OpenSpec.upto ringsTellSpec)

/-- 'tidewalklaw17.RingsAll', WHERE WHAT IT READS IS OF BULK AT MOST 1048576: true; the input reads as it did. -/
def ringsAllUptoRow : OpenClaim := { program := "ytekpjmdkihnpeaa", sum := "f241eeffb96557f8777b505d89ba4fc201c38dc177f1615b95967ce5123c45cc", func := "tidewalk/tidewalklaw17.RingsAll", spec := "ringsAll", unfollowed := true, recurses := true, apart := false, narrowed := true }
def RingsAllUptoSaid : Prop := ringsAllUptoRow.holds Try.pinned (OpenSpec.upto ringsAllSpec)

/-- 'tidewalklaw17.RingsTurned', WHERE WHAT IT READS IS OF BULK AT MOST 1048576: true; the input reads as it did. -/
def ringsTurnedUptoRow : OpenClaim := { program := "ytekpjmdkihnpeaa", sum := "f241eeffb96557f8777b505d89ba4fc201c38dc177f1615b95967ce5123c45cc", func := "tidewalk/tidewalklaw17.RingsTurned", spec := "ringsTurned", unfollowed := true, recurses := true, apart := false, narrowed := true }
def RingsTurnedUptoSaid : Prop := ringsTurnedUptoRow.holds Try.pinned (OpenSpec.upto ringsTurnedSpec)

/-- 'tidewalklaw17.RingsOnce', WHERE WHAT IT READS IS OF BULK AT MOST 1048576: true; the input reads as it did. -/
def ringsOnceUptoRow : OpenClaim := { program := "ytekpjmdkihnpeaa", sum := "f241eeffb96557f8777b505d89ba4fc201c38dc177f1615b95967ce5123c45cc", func := "tidewalk/tidewalklaw17.RingsOnce", spec := "ringsOnce", unfollowed := true, recurses := true, apart := false, narrowed := true }
def RingsOnceUptoSaid : Prop := ringsOnceUptoRow.holds Try.pinned (OpenSpec.upto ringsOnceSpec)

/-- 'tidewalklaw17.RingsLeft', WHERE WHAT IT READS IS OF BULK AT MOST 1048576: true; the input reads as it did. -/
def ringsLeftUptoRow : OpenClaim := { program := "ytekpjmdkihnpeaa", sum := "f241eeffb96557f8777b505d89ba4fc201c38dc177f1615b95967ce5123c45cc", func := "tidewalk/tidewalklaw17.RingsLeft", spec := "ringsLeft", unfollowed := true, recurses := true, apart := false, narrowed := true }
def RingsLeftUptoSaid : Prop := ringsLeftUptoRow.holds Try.pinned (OpenSpec.upto ringsLeftSpec)

/-- 'tidewalklaw12.TileKnown', WHERE WHAT IT READS IS OF BULK AT MOST 1048576: true; the input reads as it did. -/
def tileKnownUptoRow : OpenClaim := { program := "ytekpjmdkihnpeaa", sum := "f241eeffb96557f8777b505d89ba4fc201c38dc177f1615b95967ce5123c45cc", func := "tidewalk/tidewalklaw12.TileKnown", spec := "tileKnown", unfollowed := true, recurses := true, apart := false, narrowed := true }
def TileKnownUptoSaid : Prop := tileKnownUptoRow.holds Try.pinned (OpenSpec.upto tileKnownSpec)

/-- 'tidewalklaw12.TileTells', WHERE WHAT IT READS IS OF BULK AT MOST 1048576: true; the input reads as it did. -/
def tileTellsUptoRow : OpenClaim := { program := "ytekpjmdkihnpeaa", sum := "f241eeffb96557f8777b505d89ba4fc201c38dc177f1615b95967ce5123c45cc", func := "tidewalk/tidewalklaw12.TileTells", spec := "tileTells", unfollowed := true, recurses := true, apart := false, narrowed := true }
def TileTellsUptoSaid : Prop := tileTellsUptoRow.holds Try.pinned (OpenSpec.upto tileTellsSpec)

/-- 'tidewalklaw12.TileBeside', WHERE WHAT IT READS IS OF BULK AT MOST 1048576: true; the input reads as it did. -/
def tileBesideUptoRow : OpenClaim := { program := "ytekpjmdkihnpeaa", sum := "f241eeffb96557f8777b505d89ba4fc201c38dc177f1615b95967ce5123c45cc", func := "tidewalk/tidewalklaw12.TileBeside", spec := "tileBeside", unfollowed := true, recurses := true, apart := false, narrowed := true }
def TileBesideUptoSaid : Prop := tileBesideUptoRow.holds Try.pinned (OpenSpec.upto tileBesideSpec)

/-- 'tidewalklaw12.TileCount', WHERE WHAT IT READS IS OF BULK AT MOST 1048576: true; the input reads as it did. -/
def tileCountUptoRow : OpenClaim := { program := "ytekpjmdkihnpeaa", sum := "f241eeffb96557f8777b505d89ba4fc201c38dc177f1615b95967ce5123c45cc", func := "tidewalk/tidewalklaw12.TileCount", spec := "tileCount", unfollowed := true, recurses := true, apart := false, narrowed := true }
def TileCountUptoSaid : Prop := tileCountUptoRow.holds Try.pinned (OpenSpec.upto tileCountSpec)

/-- 'tidewalklaw12.TileParts', WHERE WHAT IT READS IS OF BULK AT MOST 1048576: true; the input reads as it did. -/
def tilePartsUptoRow : OpenClaim := { program := "ytekpjmdkihnpeaa", sum := "f241eeffb96557f8777b505d89ba4fc201c38dc177f1615b95967ce5123c45cc", func := "tidewalk/tidewalklaw12.TileParts", spec := "tileParts", unfollowed := true, recurses := true, apart := false, narrowed := true }
def TilePartsUptoSaid : Prop := tilePartsUptoRow.holds Try.pinned (OpenSpec.upto tilePartsSpec)

/-- 'tidewalklaw12.TileSteps', WHERE WHAT IT READS IS OF BULK AT MOST 1048576: true; the input reads as it did. -/
def tileStepsUptoRow : OpenClaim := { program := "ytekpjmdkihnpeaa", sum := "f241eeffb96557f8777b505d89ba4fc201c38dc177f1615b95967ce5123c45cc", func := "tidewalk/tidewalklaw12.TileSteps", spec := "tileSteps", unfollowed := true, recurses := true, apart := false, narrowed := true }
def TileStepsUptoSaid : Prop := tileStepsUptoRow.holds Try.pinned (OpenSpec.upto tileStepsSpec)

end Rows
end Go.Proofs.Ytekpjmdkihnpeaa

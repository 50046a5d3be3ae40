/-
  No cell of these rows narrows 'for every input' (looked for: loops, veiled, ifaces, maps, wideKeys, modest, calm, conditions, laid).
  DERIVED. THE GIVEN ROWS OF THIS SEAT. 9 by the template 'for every input the law returns true; each argument reads behind the call as it read before'; 0 by the template 'total and deterministic' (their statements: YtbchkofadjeblaaTotals.lean).
  GIVEN WITH THE SEED: the statements are not yours to turn. If you find one false, say at which input.
  Laid BY PROGRAM, IN A SANDBOX (cutbox-rows.mjs): the forced cells as the released guide's own fill.sh prints them over the translation 201c10c269ffb92c… (all of the seat's roots in one cut). By AI agents, Wed Nov 11 2026. No macro, syntax, notation, axiom, sorry.
-/
import Derived.Test.YtbchkofadjeblaaChecked
import GoSem.Claim
import GoSem.ClaimJoined
import GoSem.ClaimMapViews
import Derived.JoinedTies
import Derived.KernelRfl
namespace Go.Proofs.Ytbchkofadjeblaa
/- THE CELL 'sum', in the pinned program and in every row, IS THE sha256 OF THE DUMP (.gsa) THAT YtbchkofadjeblaaProg.lean LOADS. Nothing in Lean hashes anything: it is a label: what it is worth is what the hold of that sum in a sandbox is worth. -/
noncomputable def Try.pinned : Pinned := { name := "ytbchkofadjeblaa", sum := "201c10c269ffb92c4d3742c75acdd621f1dbcec9d3e77b9815bcb3717716cd09", checked := Try.checked }
namespace Rows
def none {H : Type} : Left H := { results := [], args := [] }

/-- 'crossbarlaw11.ModelFound': WHATEVER THE INPUT: true; the input reads as it did. -/
def modelFoundSpec : ChangeSpec := { name := "modelFound", fn := fun _ => fun
  | [d1, d2, d3] => { results := [.lit (.bool true)], args := [d1, d2, d3] }
  | _ => none }
def modelFoundRow : OpenClaim := { program := "ytbchkofadjeblaa", sum := "201c10c269ffb92c4d3742c75acdd621f1dbcec9d3e77b9815bcb3717716cd09", func := "crossbar/crossbarlaw11.ModelFound", spec := "modelFound", unfollowed := true, recurses := true, apart := false }
def ModelFoundSaid : Prop := modelFoundRow.holds Try.pinned (OpenSpec.ofChange modelFoundSpec)

/-- ITS FALSE NEIGHBOUR: 'it returns false'. Refute it at one input. -/
def modelFoundWrong : ChangeSpec := { name := "modelFound", fn := fun _ => fun
  | [d1, d2, d3] => { results := [.lit (.bool false)], args := [d1, d2, d3] }
  | _ => none }
def ModelFoundWrongFalsely : Prop := modelFoundRow.holds Try.pinned (OpenSpec.ofChange modelFoundWrong)

/-- 'crossbarlaw11.ModelKeys': WHATEVER THE INPUT: true; the input reads as it did. -/
def modelKeysSpec : ChangeSpec := { name := "modelKeys", fn := fun _ => fun
  | [d1, d2] => { results := [.lit (.bool true)], args := [d1, d2] }
  | _ => none }
def modelKeysRow : OpenClaim := { program := "ytbchkofadjeblaa", sum := "201c10c269ffb92c4d3742c75acdd621f1dbcec9d3e77b9815bcb3717716cd09", func := "crossbar/crossbarlaw11.ModelKeys", spec := "modelKeys", unfollowed := true, recurses := true, apart := false }
def ModelKeysSaid : Prop := modelKeysRow.holds Try.pinned (OpenSpec.ofChange modelKeysSpec)

/-- ITS FALSE NEIGHBOUR: 'it returns false'. Refute it at one input. -/
def modelKeysWrong : ChangeSpec := { name := "modelKeys", fn := fun _ => fun
  | [d1, d2] => { results := [.lit (.bool false)], args := [d1, d2] }
  | _ => none }
def ModelKeysWrongFalsely : Prop := modelKeysRow.holds Try.pinned (OpenSpec.ofChange modelKeysWrong)

/-- 'crossbarlaw11.ModelRings': WHATEVER THE INPUT: true; the input reads as it did. -/
def modelRingsSpec : ChangeSpec := { name := "modelRings", fn := fun _ => fun
  | [d1, d2, d3, d4] => { results := [.lit (.bool true)], args := [d1, d2, d3, d4] }
  | _ => none }
def modelRingsRow : OpenClaim := { program := "ytbchkofadjeblaa", sum := "201c10c269ffb92c4d3742c75acdd621f1dbcec9d3e77b9815bcb3717716cd09", func := "crossbar/crossbarlaw11.ModelRings", spec := "modelRings", unfollowed := true, recurses := true, apart := false }
def ModelRingsSaid : Prop := modelRingsRow.holds Try.pinned (OpenSpec.ofChange modelRingsSpec)

/-- ITS FALSE NEIGHBOUR: 'it returns false'. Refute it at one input. -/
def modelRingsWrong : ChangeSpec := { name := "modelRings", fn := fun _ => fun
  | [d1, d2, d3, d4] => { results := [.lit (.bool false)], args := [d1, d2, d3, d4] }
  | _ => none }
def ModelRingsWrongFalsely : Prop := modelRingsRow.holds Try.pinned (OpenSpec.ofChange modelRingsWrong)

/-- 'crossbarlaw11.ModelPlays': WHATEVER THE INPUT: true; the input reads as it did. -/
def modelPlaysSpec : ChangeSpec := { name := "modelPlays", fn := fun _ => fun
  | [d1, d2, d3] => { results := [.lit (.bool true)], args := [d1, d2, d3] }
  | _ => none }
def modelPlaysRow : OpenClaim := { program := "ytbchkofadjeblaa", sum := "201c10c269ffb92c4d3742c75acdd621f1dbcec9d3e77b9815bcb3717716cd09", func := "crossbar/crossbarlaw11.ModelPlays", spec := "modelPlays", unfollowed := true, recurses := true, apart := false }
def ModelPlaysSaid : Prop := modelPlaysRow.holds Try.pinned (OpenSpec.ofChange modelPlaysSpec)

/-- ITS FALSE NEIGHBOUR: 'it returns false'. Refute it at one input. -/
def modelPlaysWrong : ChangeSpec := { name := "modelPlays", fn := fun _ => fun
  | [d1, d2, d3] => { results := [.lit (.bool false)], args := [d1, d2, d3] }
  | _ => none }
def ModelPlaysWrongFalsely : Prop := modelPlaysRow.holds Try.pinned (OpenSpec.ofChange modelPlaysWrong)

/-- 'crossbarlaw11.ModelKnown': WHATEVER THE INPUT: true; the input reads as it did. -/
def modelKnownSpec : ChangeSpec := { name := "modelKnown", fn := fun _ => fun
  | [] => { results := [.lit (.bool true)], args := [] }
  | _ => none }
def modelKnownRow : OpenClaim := { program := "ytbchkofadjeblaa", sum := "201c10c269ffb92c4d3742c75acdd621f1dbcec9d3e77b9815bcb3717716cd09", func := "crossbar/crossbarlaw11.ModelKnown", spec := "modelKnown", unfollowed := true, recurses := true, apart := false }
def ModelKnownSaid : Prop := modelKnownRow.holds Try.pinned (OpenSpec.ofChange modelKnownSpec)

/-- ITS FALSE NEIGHBOUR: 'it returns false'. Refute it at one input. -/
def modelKnownWrong : ChangeSpec := { name := "modelKnown", fn := fun _ => fun
  | [] => { results := [.lit (.bool false)], args := [] }
  | _ => none }
def ModelKnownWrongFalsely : Prop := modelKnownRow.holds Try.pinned (OpenSpec.ofChange modelKnownWrong)

/-- 'crossbarlaw12.WalkAll': WHATEVER THE INPUT: true; the input reads as it did. -/
def walkAllSpec : ChangeSpec := { name := "walkAll", fn := fun _ => fun
  | [d1, d2, d3] => { results := [.lit (.bool true)], args := [d1, d2, d3] }
  | _ => none }
def walkAllRow : OpenClaim := { program := "ytbchkofadjeblaa", sum := "201c10c269ffb92c4d3742c75acdd621f1dbcec9d3e77b9815bcb3717716cd09", func := "crossbar/crossbarlaw12.WalkAll", spec := "walkAll", unfollowed := true, recurses := true, apart := false }
def WalkAllSaid : Prop := walkAllRow.holds Try.pinned (OpenSpec.ofChange walkAllSpec)

/-- ITS FALSE NEIGHBOUR: 'it returns false'. Refute it at one input. -/
def walkAllWrong : ChangeSpec := { name := "walkAll", fn := fun _ => fun
  | [d1, d2, d3] => { results := [.lit (.bool false)], args := [d1, d2, d3] }
  | _ => none }
def WalkAllWrongFalsely : Prop := walkAllRow.holds Try.pinned (OpenSpec.ofChange walkAllWrong)

/-- 'crossbarlaw12.WalkOnce': WHATEVER THE INPUT: true; the input reads as it did. -/
def walkOnceSpec : ChangeSpec := { name := "walkOnce", fn := fun _ => fun
  | [d1, d2] => { results := [.lit (.bool true)], args := [d1, d2] }
  | _ => none }
def walkOnceRow : OpenClaim := { program := "ytbchkofadjeblaa", sum := "201c10c269ffb92c4d3742c75acdd621f1dbcec9d3e77b9815bcb3717716cd09", func := "crossbar/crossbarlaw12.WalkOnce", spec := "walkOnce", unfollowed := true, recurses := true, apart := false }
def WalkOnceSaid : Prop := walkOnceRow.holds Try.pinned (OpenSpec.ofChange walkOnceSpec)

/-- ITS FALSE NEIGHBOUR: 'it returns false'. Refute it at one input. -/
def walkOnceWrong : ChangeSpec := { name := "walkOnce", fn := fun _ => fun
  | [d1, d2] => { results := [.lit (.bool false)], args := [d1, d2] }
  | _ => none }
def WalkOnceWrongFalsely : Prop := walkOnceRow.holds Try.pinned (OpenSpec.ofChange walkOnceWrong)

/-- 'crossbarlaw12.WalkSets': WHATEVER THE INPUT: true; the input reads as it did. -/
def walkSetsSpec : ChangeSpec := { name := "walkSets", fn := fun _ => fun
  | [d1, d2, d3] => { results := [.lit (.bool true)], args := [d1, d2, d3] }
  | _ => none }
def walkSetsRow : OpenClaim := { program := "ytbchkofadjeblaa", sum := "201c10c269ffb92c4d3742c75acdd621f1dbcec9d3e77b9815bcb3717716cd09", func := "crossbar/crossbarlaw12.WalkSets", spec := "walkSets", unfollowed := true, recurses := true, apart := false }
def WalkSetsSaid : Prop := walkSetsRow.holds Try.pinned (OpenSpec.ofChange walkSetsSpec)

/-- ITS FALSE NEIGHBOUR: 'it returns false'. Refute it at one input. -/
def walkSetsWrong : ChangeSpec := { name := "walkSets", fn := fun _ => fun
  | [d1, d2, d3] => { results := [.lit (.bool false)], args := [d1, d2, d3] }
  | _ => none }
def WalkSetsWrongFalsely : Prop := walkSetsRow.holds Try.pinned (OpenSpec.ofChange walkSetsWrong)

/-- 'crossbarlaw12.WalkUndisturbed': WHATEVER THE INPUT: true; the input reads as it did. -/
def walkUndisturbedSpec : ChangeSpec := { name := "walkUndisturbed", fn := fun _ => fun
  | [d1, d2, d3] => { results := [.lit (.bool true)], args := [d1, d2, d3] }
  | _ => none }
def walkUndisturbedRow : OpenClaim := { program := "ytbchkofadjeblaa", sum := "201c10c269ffb92c4d3742c75acdd621f1dbcec9d3e77b9815bcb3717716cd09", func := "crossbar/crossbarlaw12.WalkUndisturbed", spec := "walkUndisturbed", unfollowed := true, recurses := true, apart := false }
def WalkUndisturbedSaid : Prop := walkUndisturbedRow.holds Try.pinned (OpenSpec.ofChange walkUndisturbedSpec)

/-- ITS FALSE NEIGHBOUR: 'it returns false'. Refute it at one input. -/
def walkUndisturbedWrong : ChangeSpec := { name := "walkUndisturbed", fn := fun _ => fun
  | [d1, d2, d3] => { results := [.lit (.bool false)], args := [d1, d2, d3] }
  | _ => none }
def WalkUndisturbedWrongFalsely : Prop := walkUndisturbedRow.holds Try.pinned (OpenSpec.ofChange walkUndisturbedWrong)

/- THE SECOND FORM. 'bulk': how many values and letters a reading holds, each counted each time it is reached (what is shared counts as often as it is met; a slice's spare places count too). A statement '..UptoSaid' is the law's where the arguments, and the package variables that the reading takes, are together of bulk at most 1048576: NARROWER than '..Said'. Prove '..Said' where nothing that the law and all that it calls make is longer than what came in: it says more and counts as full. Else prove '..UptoSaid'. A law counts once. -/
mutual
def uptoBulk {H : Type} : DataW H → Nat
  | .lit (.string bytes) => bytes.length + 1
  | .lit _ => 1
  | .nil => 1
  | .ptr d => uptoBulk d + 1
  | .slice elems spare => uptoBulkAll elems + uptoBulkAll spare + 1
  | .agg parts => uptoBulkAll parts + 1
  | .iface _ d => uptoBulk d + 1
  | .map entries => uptoBulkEntries entries + 1
  | .held _ => 1
def uptoBulkAll {H : Type} : List (DataW H) → Nat
  | [] => 0
  | d :: r => uptoBulk d + uptoBulkAll r
def uptoBulkEntries {H : Type} : List (Lit × DataW H) → Nat
  | [] => 0
  | x :: r => uptoBulkEntry x + uptoBulkEntries r
def uptoBulkEntry {H : Type} : Lit × DataW H → Nat
  | (.string bytes, d) => bytes.length + uptoBulk d + 1
  | (_, d) => uptoBulk d + 1
 end
def uptoSmall : (H : Type) → List (DataW H) → Bool := fun _ ds => decide (uptoBulkAll ds ≤ 1048576)
def OpenSpec.upto (s : _root_.Go.ChangeSpec) : _root_.Go.OpenSpec := { _root_.Go.OpenSpec.ofChange s with cond := some uptoSmall }

/-- 'crossbarlaw11.ModelFound', WHERE WHAT IT READS IS OF BULK AT MOST 1048576: true; the input reads as it did. -/
def modelFoundUptoRow : OpenClaim := { program := "ytbchkofadjeblaa", sum := "201c10c269ffb92c4d3742c75acdd621f1dbcec9d3e77b9815bcb3717716cd09", func := "crossbar/crossbarlaw11.ModelFound", spec := "modelFound", unfollowed := true, recurses := true, apart := false, narrowed := true }
def ModelFoundUptoSaid : Prop := modelFoundUptoRow.holds Try.pinned (OpenSpec.upto modelFoundSpec)

/-- 'crossbarlaw11.ModelKeys', WHERE WHAT IT READS IS OF BULK AT MOST 1048576: true; the input reads as it did. -/
def modelKeysUptoRow : OpenClaim := { program := "ytbchkofadjeblaa", sum := "201c10c269ffb92c4d3742c75acdd621f1dbcec9d3e77b9815bcb3717716cd09", func := "crossbar/crossbarlaw11.ModelKeys", spec := "modelKeys", unfollowed := true, recurses := true, apart := false, narrowed := true }
def ModelKeysUptoSaid : Prop := modelKeysUptoRow.holds Try.pinned (OpenSpec.upto modelKeysSpec)

/-- 'crossbarlaw11.ModelRings', WHERE WHAT IT READS IS OF BULK AT MOST 1048576: true; the input reads as it did. -/
def modelRingsUptoRow : OpenClaim := { program := "ytbchkofadjeblaa", sum := "201c10c269ffb92c4d3742c75acdd621f1dbcec9d3e77b9815bcb3717716cd09", func := "crossbar/crossbarlaw11.ModelRings", spec := "modelRings", unfollowed := true, recurses := true, apart := false, narrowed := true }
def ModelRingsUptoSaid : Prop := modelRingsUptoRow.holds Try.pinned (OpenSpec.upto modelRingsSpec)

/-- 'crossbarlaw11.ModelPlays', WHERE WHAT IT READS IS OF BULK AT MOST 1048576: true; the input reads as it did. -/
def modelPlaysUptoRow : OpenClaim := { program := "ytbchkofadjeblaa", sum := "201c10c269ffb92c4d3742c75acdd621f1dbcec9d3e77b9815bcb3717716cd09", func := "crossbar/crossbarlaw11.ModelPlays", spec := "modelPlays", unfollowed := true, recurses := true, apart := false, narrowed := true }
def ModelPlaysUptoSaid : Prop := modelPlaysUptoRow.holds Try.pinned (OpenSpec.upto modelPlaysSpec)

/-- 'crossbarlaw11.ModelKnown', WHERE WHAT IT READS IS OF BULK AT MOST 1048576: true; the input reads as it did. -/
def modelKnownUptoRow : OpenClaim := { program := "ytbchkofadjeblaa", sum := "201c10c269ffb92c4d3742c75acdd621f1dbcec9d3e77b9815bcb3717716cd09", func := "crossbar/crossbarlaw11.ModelKnown", spec := "modelKnown", unfollowed := true, recurses := true, apart := false, narrowed := true }
def ModelKnownUptoSaid : Prop := modelKnownUptoRow.holds Try.pinned (OpenSpec.upto modelKnownSpec)

/-- 'crossbarlaw12.WalkAll', WHERE WHAT IT READS IS OF BULK AT MOST 1048576: true; the input reads as it did. -/
def walkAllUptoRow : OpenClaim := { program := "ytbchkofadjeblaa", sum := "201c10c269ffb92c4d3742c75acdd621f1dbcec9d3e77b9815bcb3717716cd09", func := "crossbar/crossbarlaw12.WalkAll", spec := "walkAll", unfollowed := true, recurses := true, apart := false, narrowed := true }
def WalkAllUptoSaid : Prop := walkAllUptoRow.holds Try.pinned (OpenSpec.upto walkAllSpec)

/-- 'crossbarlaw12.WalkOnce', WHERE WHAT IT READS IS OF BULK AT MOST 1048576: true; the input reads as it did. -/
def walkOnceUptoRow : OpenClaim := { program := "ytbchkofadjeblaa", sum := "201c10c269ffb92c4d3742c75acdd621f1dbcec9d3e77b9815bcb3717716cd09", func := "crossbar/crossbarlaw12.WalkOnce", spec := "walkOnce", unfollowed := true, recurses := true, apart := false, narrowed := true }
def WalkOnceUptoSaid : Prop := walkOnceUptoRow.holds Try.pinned (OpenSpec.upto walkOnceSpec)

/-- 'crossbarlaw12.WalkSets', WHERE WHAT IT READS IS OF BULK AT MOST 1048576: true; the input reads as it did. -/
def walkSetsUptoRow : OpenClaim := { program := "ytbchkofadjeblaa", sum := "201c10c269ffb92c4d3742c75acdd621f1dbcec9d3e77b9815bcb3717716cd09", func := "crossbar/crossbarlaw12.WalkSets", spec := "walkSets", unfollowed := true, recurses := true, apart := false, narrowed := true }
def WalkSetsUptoSaid : Prop := walkSetsUptoRow.holds Try.pinned (OpenSpec.upto walkSetsSpec)

/-- 'crossbarlaw12.WalkUndisturbed', WHERE WHAT IT READS IS OF BULK AT MOST 1048576: true; the input reads as it did. -/
def walkUndisturbedUptoRow : OpenClaim := { program := "ytbchkofadjeblaa", sum := "201c10c269ffb92c4d3742c75acdd621f1dbcec9d3e77b9815bcb3717716cd09", func := "crossbar/crossbarlaw12.WalkUndisturbed", spec := "walkUndisturbed", unfollowed := true, recurses := true, apart := false, narrowed := true }
def WalkUndisturbedUptoSaid : Prop := walkUndisturbedUptoRow.holds Try.pinned (OpenSpec.upto walkUndisturbedSpec)

end Rows
end Go.Proofs.Ytbchkofadjeblaa

/-
  No cell of these rows narrows 'for every input' (looked for: loops, veiled, ifaces, maps, wideKeys, modest, calm, conditions, laid).
  DERIVED. THE GIVEN ROWS OF THIS SEAT. 10 by the template 'for every input the law returns true; each argument reads behind the call as it read before'; 0 by the template 'total and deterministic' (their statements: YtpbccoobkmahlaaTotals.lean).
  GIVEN WITH THE SEED: the statements are not yours to turn. If you find one false, say at which input.
  Laid BY PROGRAM, IN A SANDBOX (cutbox-rows.mjs): the forced cells as the released guide's own fill.sh prints them over the translation 26af713e602a4452… (all of the seat's roots in one cut). By AI agents, Wed Nov 11 2026. No macro, syntax, notation, axiom, sorry.
-/
import Derived.Test.YtpbccoobkmahlaaChecked
import GoSem.Claim
import GoSem.ClaimJoined
import GoSem.ClaimMapViews
import Derived.JoinedTies
import Derived.KernelRfl
namespace Go.Proofs.Ytpbccoobkmahlaa
/- THE CELL 'sum', in the pinned program and in every row, IS THE sha256 OF THE DUMP (.gsa) THAT YtpbccoobkmahlaaProg.lean LOADS. Nothing in Lean hashes anything: it is a label: what it is worth is what the hold of that sum in a sandbox is worth. -/
noncomputable def Try.pinned : Pinned := { name := "ytpbccoobkmahlaa", sum := "26af713e602a44522fc977adcc56e3e1ac0094c3f4b7f18b136317bd5c56741c", checked := Try.checked }
namespace Rows
def none {H : Type} : Left H := { results := [], args := [] }

/-- 'laws.FnExactUnionOf': WHATEVER THE INPUT: true; the input reads as it did. -/
def fnExactUnionOfSpec : ChangeSpec := { name := "fnExactUnionOf", fn := fun _ => fun
  | [d] => { results := [.lit (.bool true)], args := [d] }
  | _ => none }
def fnExactUnionOfRow : OpenClaim := { program := "ytpbccoobkmahlaa", sum := "26af713e602a44522fc977adcc56e3e1ac0094c3f4b7f18b136317bd5c56741c", func := "loop.example/g01193/laws.FnExactUnionOf", spec := "fnExactUnionOf", unfollowed := true, recurses := true, apart := false }
def FnExactUnionOfSaid : Prop := fnExactUnionOfRow.holds Try.pinned (OpenSpec.ofChange fnExactUnionOfSpec)

/-- ITS FALSE NEIGHBOUR: 'it returns false'. Refute it at one input. -/
def fnExactUnionOfWrong : ChangeSpec := { name := "fnExactUnionOf", fn := fun _ => fun
  | [d] => { results := [.lit (.bool false)], args := [d] }
  | _ => none }
def FnExactUnionOfWrongFalsely : Prop := fnExactUnionOfRow.holds Try.pinned (OpenSpec.ofChange fnExactUnionOfWrong)

/-- 'laws.FnExactSameShape': WHATEVER THE INPUT: true; the input reads as it did. -/
def fnExactSameShapeSpec : ChangeSpec := { name := "fnExactSameShape", fn := fun _ => fun
  | [d1, d2] => { results := [.lit (.bool true)], args := [d1, d2] }
  | _ => none }
def fnExactSameShapeRow : OpenClaim := { program := "ytpbccoobkmahlaa", sum := "26af713e602a44522fc977adcc56e3e1ac0094c3f4b7f18b136317bd5c56741c", func := "loop.example/g01193/laws.FnExactSameShape", spec := "fnExactSameShape", inPlace := ["math.Float32bits"], unfollowed := true, recurses := true, apart := false }
def FnExactSameShapeSaid : Prop := fnExactSameShapeRow.holds Try.pinned (OpenSpec.ofChange fnExactSameShapeSpec)

/-- ITS FALSE NEIGHBOUR: 'it returns false'. Refute it at one input. -/
def fnExactSameShapeWrong : ChangeSpec := { name := "fnExactSameShape", fn := fun _ => fun
  | [d1, d2] => { results := [.lit (.bool false)], args := [d1, d2] }
  | _ => none }
def FnExactSameShapeWrongFalsely : Prop := fnExactSameShapeRow.holds Try.pinned (OpenSpec.ofChange fnExactSameShapeWrong)

/-- 'laws.FnExactValidShape': WHATEVER THE INPUT: true; the input reads as it did. -/
def fnExactValidShapeSpec : ChangeSpec := { name := "fnExactValidShape", fn := fun _ => fun
  | [d] => { results := [.lit (.bool true)], args := [d] }
  | _ => none }
def fnExactValidShapeRow : OpenClaim := { program := "ytpbccoobkmahlaa", sum := "26af713e602a44522fc977adcc56e3e1ac0094c3f4b7f18b136317bd5c56741c", func := "loop.example/g01193/laws.FnExactValidShape", spec := "fnExactValidShape", unfollowed := true, recurses := true, apart := false }
def FnExactValidShapeSaid : Prop := fnExactValidShapeRow.holds Try.pinned (OpenSpec.ofChange fnExactValidShapeSpec)

/-- ITS FALSE NEIGHBOUR: 'it returns false'. Refute it at one input. -/
def fnExactValidShapeWrong : ChangeSpec := { name := "fnExactValidShape", fn := fun _ => fun
  | [d] => { results := [.lit (.bool false)], args := [d] }
  | _ => none }
def FnExactValidShapeWrongFalsely : Prop := fnExactValidShapeRow.holds Try.pinned (OpenSpec.ofChange fnExactValidShapeWrong)

/-- 'laws.FnExactDepthOf': WHATEVER THE INPUT: true; the input reads as it did. -/
def fnExactDepthOfSpec : ChangeSpec := { name := "fnExactDepthOf", fn := fun _ => fun
  | [d] => { results := [.lit (.bool true)], args := [d] }
  | _ => none }
def fnExactDepthOfRow : OpenClaim := { program := "ytpbccoobkmahlaa", sum := "26af713e602a44522fc977adcc56e3e1ac0094c3f4b7f18b136317bd5c56741c", func := "loop.example/g01193/laws.FnExactDepthOf", spec := "fnExactDepthOf", unfollowed := true, recurses := true, apart := false }
def FnExactDepthOfSaid : Prop := fnExactDepthOfRow.holds Try.pinned (OpenSpec.ofChange fnExactDepthOfSpec)

/-- ITS FALSE NEIGHBOUR: 'it returns false'. Refute it at one input. -/
def fnExactDepthOfWrong : ChangeSpec := { name := "fnExactDepthOf", fn := fun _ => fun
  | [d] => { results := [.lit (.bool false)], args := [d] }
  | _ => none }
def FnExactDepthOfWrongFalsely : Prop := fnExactDepthOfRow.holds Try.pinned (OpenSpec.ofChange fnExactDepthOfWrong)

/-- 'laws.FnExactOneNode': WHATEVER THE INPUT: true; the input reads as it did. -/
def fnExactOneNodeSpec : ChangeSpec := { name := "fnExactOneNode", fn := fun _ => fun
  | [d1, d2] => { results := [.lit (.bool true)], args := [d1, d2] }
  | _ => none }
def fnExactOneNodeRow : OpenClaim := { program := "ytpbccoobkmahlaa", sum := "26af713e602a44522fc977adcc56e3e1ac0094c3f4b7f18b136317bd5c56741c", func := "loop.example/g01193/laws.FnExactOneNode", spec := "fnExactOneNode", unfollowed := true, recurses := true, apart := false }
def FnExactOneNodeSaid : Prop := fnExactOneNodeRow.holds Try.pinned (OpenSpec.ofChange fnExactOneNodeSpec)

/-- ITS FALSE NEIGHBOUR: 'it returns false'. Refute it at one input. -/
def fnExactOneNodeWrong : ChangeSpec := { name := "fnExactOneNode", fn := fun _ => fun
  | [d1, d2] => { results := [.lit (.bool false)], args := [d1, d2] }
  | _ => none }
def FnExactOneNodeWrongFalsely : Prop := fnExactOneNodeRow.holds Try.pinned (OpenSpec.ofChange fnExactOneNodeWrong)

/-- 'laws.FnExactLeavesOf': WHATEVER THE INPUT: true; the input reads as it did. -/
def fnExactLeavesOfSpec : ChangeSpec := { name := "fnExactLeavesOf", fn := fun _ => fun
  | [d] => { results := [.lit (.bool true)], args := [d] }
  | _ => none }
def fnExactLeavesOfRow : OpenClaim := { program := "ytpbccoobkmahlaa", sum := "26af713e602a44522fc977adcc56e3e1ac0094c3f4b7f18b136317bd5c56741c", func := "loop.example/g01193/laws.FnExactLeavesOf", spec := "fnExactLeavesOf", unfollowed := true, recurses := true, apart := false }
def FnExactLeavesOfSaid : Prop := fnExactLeavesOfRow.holds Try.pinned (OpenSpec.ofChange fnExactLeavesOfSpec)

/-- ITS FALSE NEIGHBOUR: 'it returns false'. Refute it at one input. -/
def fnExactLeavesOfWrong : ChangeSpec := { name := "fnExactLeavesOf", fn := fun _ => fun
  | [d] => { results := [.lit (.bool false)], args := [d] }
  | _ => none }
def FnExactLeavesOfWrongFalsely : Prop := fnExactLeavesOfRow.holds Try.pinned (OpenSpec.ofChange fnExactLeavesOfWrong)

/-- 'laws.FnExactWrapShape': WHATEVER THE INPUT: true; the input reads as it did. -/
def fnExactWrapShapeSpec : ChangeSpec := { name := "fnExactWrapShape", fn := fun _ => fun
  | [d1, d2, d3, d4] => { results := [.lit (.bool true)], args := [d1, d2, d3, d4] }
  | _ => none }
def fnExactWrapShapeRow : OpenClaim := { program := "ytpbccoobkmahlaa", sum := "26af713e602a44522fc977adcc56e3e1ac0094c3f4b7f18b136317bd5c56741c", func := "loop.example/g01193/laws.FnExactWrapShape", spec := "fnExactWrapShape", unfollowed := true, recurses := true, apart := false }
def FnExactWrapShapeSaid : Prop := fnExactWrapShapeRow.holds Try.pinned (OpenSpec.ofChange fnExactWrapShapeSpec)

/-- ITS FALSE NEIGHBOUR: 'it returns false'. Refute it at one input. -/
def fnExactWrapShapeWrong : ChangeSpec := { name := "fnExactWrapShape", fn := fun _ => fun
  | [d1, d2, d3, d4] => { results := [.lit (.bool false)], args := [d1, d2, d3, d4] }
  | _ => none }
def FnExactWrapShapeWrongFalsely : Prop := fnExactWrapShapeRow.holds Try.pinned (OpenSpec.ofChange fnExactWrapShapeWrong)

/-- 'laws.FnExactJoinShapes': WHATEVER THE INPUT: true; the input reads as it did. -/
def fnExactJoinShapesSpec : ChangeSpec := { name := "fnExactJoinShapes", fn := fun _ => fun
  | [d1, d2, d3, d4] => { results := [.lit (.bool true)], args := [d1, d2, d3, d4] }
  | _ => none }
def fnExactJoinShapesRow : OpenClaim := { program := "ytpbccoobkmahlaa", sum := "26af713e602a44522fc977adcc56e3e1ac0094c3f4b7f18b136317bd5c56741c", func := "loop.example/g01193/laws.FnExactJoinShapes", spec := "fnExactJoinShapes", unfollowed := true, recurses := true, apart := false }
def FnExactJoinShapesSaid : Prop := fnExactJoinShapesRow.holds Try.pinned (OpenSpec.ofChange fnExactJoinShapesSpec)

/-- ITS FALSE NEIGHBOUR: 'it returns false'. Refute it at one input. -/
def fnExactJoinShapesWrong : ChangeSpec := { name := "fnExactJoinShapes", fn := fun _ => fun
  | [d1, d2, d3, d4] => { results := [.lit (.bool false)], args := [d1, d2, d3, d4] }
  | _ => none }
def FnExactJoinShapesWrongFalsely : Prop := fnExactJoinShapesRow.holds Try.pinned (OpenSpec.ofChange fnExactJoinShapesWrong)

/-- 'laws.FnExactFactorOf': WHATEVER THE INPUT: true; the input reads as it did. -/
def fnExactFactorOfSpec : ChangeSpec := { name := "fnExactFactorOf", fn := fun _ => fun
  | [d] => { results := [.lit (.bool true)], args := [d] }
  | _ => none }
def fnExactFactorOfRow : OpenClaim := { program := "ytpbccoobkmahlaa", sum := "26af713e602a44522fc977adcc56e3e1ac0094c3f4b7f18b136317bd5c56741c", func := "loop.example/g01193/laws.FnExactFactorOf", spec := "fnExactFactorOf", inPlace := ["math.sqrt"], unfollowed := true, recurses := true, apart := false }
def FnExactFactorOfSaid : Prop := fnExactFactorOfRow.holds Try.pinned (OpenSpec.ofChange fnExactFactorOfSpec)

/-- ITS FALSE NEIGHBOUR: 'it returns false'. Refute it at one input. -/
def fnExactFactorOfWrong : ChangeSpec := { name := "fnExactFactorOf", fn := fun _ => fun
  | [d] => { results := [.lit (.bool false)], args := [d] }
  | _ => none }
def FnExactFactorOfWrongFalsely : Prop := fnExactFactorOfRow.holds Try.pinned (OpenSpec.ofChange fnExactFactorOfWrong)

/-- 'laws.FnExactPartOf': WHATEVER THE INPUT: true; the input reads as it did. -/
def fnExactPartOfSpec : ChangeSpec := { name := "fnExactPartOf", fn := fun _ => fun
  | [d1, d2] => { results := [.lit (.bool true)], args := [d1, d2] }
  | _ => none }
def fnExactPartOfRow : OpenClaim := { program := "ytpbccoobkmahlaa", sum := "26af713e602a44522fc977adcc56e3e1ac0094c3f4b7f18b136317bd5c56741c", func := "loop.example/g01193/laws.FnExactPartOf", spec := "fnExactPartOf", unfollowed := true, recurses := true, apart := false }
def FnExactPartOfSaid : Prop := fnExactPartOfRow.holds Try.pinned (OpenSpec.ofChange fnExactPartOfSpec)

/-- ITS FALSE NEIGHBOUR: 'it returns false'. Refute it at one input. -/
def fnExactPartOfWrong : ChangeSpec := { name := "fnExactPartOf", fn := fun _ => fun
  | [d1, d2] => { results := [.lit (.bool false)], args := [d1, d2] }
  | _ => none }
def FnExactPartOfWrongFalsely : Prop := fnExactPartOfRow.holds Try.pinned (OpenSpec.ofChange fnExactPartOfWrong)

/- THE SECOND FORM. 'bulk': how many values and letters a reading holds, each counted each time it is reached (what is shared counts as often as it is met; a slice's spare places count too). A statement '..UptoSaid' is the law's where the arguments, and the package variables that the reading takes, are together of bulk at most 1048576: NARROWER than '..Said'. Prove '..Said' where nothing that the law and all that it calls make is longer than what came in: it says more and counts as full. Else prove '..UptoSaid'. A law counts once. -/
mutual
def uptoBulk {H : Type} : DataW H → Nat
  | .lit (.string bytes) => bytes.length + 1
  | .lit _ => 1
  | .nil => 1
  | .ptr d => uptoBulk d + 1
  | .slice elems spare => uptoBulkAll elems + uptoBulkAll spare + 1
  | .agg parts => uptoBulkAll parts + 1
  | .iface _ d => uptoBulk d + 1
  | .map entries => uptoBulkEntries entries + 1
  | .held _ => 1
def uptoBulkAll {H : Type} : List (DataW H) → Nat
  | [] => 0
  | d :: r => uptoBulk d + uptoBulkAll r
def uptoBulkEntries {H : Type} : List (Lit × DataW H) → Nat
  | [] => 0
  | x :: r => uptoBulkEntry x + uptoBulkEntries r
def uptoBulkEntry {H : Type} : Lit × DataW H → Nat
  | (.string bytes, d) => bytes.length + uptoBulk d + 1
  | (_, d) => uptoBulk d + 1
 end
def uptoSmall : (H : Type) → List (DataW H) → Bool := fun _ ds => decide (uptoBulkAll ds ≤ 1048576)
def OpenSpec.upto (s : _root_.Go.ChangeSpec) : _root_.Go.OpenSpec := { _root_.Go.OpenSpec.ofChange s with cond := some uptoSmall }

/-- 'laws.FnExactUnionOf', WHERE WHAT IT READS IS OF BULK AT MOST 1048576: true; the input reads as it did. -/
def fnExactUnionOfUptoRow : OpenClaim := { program := "ytpbccoobkmahlaa", sum := "26af713e602a44522fc977adcc56e3e1ac0094c3f4b7f18b136317bd5c56741c", func := "loop.example/g01193/laws.FnExactUnionOf", spec := "fnExactUnionOf", unfollowed := true, recurses := true, apart := false, narrowed := true }
def FnExactUnionOfUptoSaid : Prop := fnExactUnionOfUptoRow.holds Try.pinned (OpenSpec.upto fnExactUnionOfSpec)

/-- 'laws.FnExactSameShape', WHERE WHAT IT READS IS OF BULK AT MOST 1048576: true; the input reads as it did. -/
def fnExactSameShapeUptoRow : OpenClaim := { program := "ytpbccoobkmahlaa", sum := "26af713e602a44522fc977adcc56e3e1ac0094c3f4b7f18b136317bd5c56741c", func := "loop.example/g01193/laws.FnExactSameShape", spec := "fnExactSameShape", inPlace := ["math.Float32bits"], unfollowed := true, recurses := true, apart := false, narrowed := true }
def FnExactSameShapeUptoSaid : Prop := fnExactSameShapeUptoRow.holds Try.pinned (OpenSpec.upto fnExactSameShapeSpec)

/-- 'laws.FnExactValidShape', WHERE WHAT IT READS IS OF BULK AT MOST 1048576: true; the input reads as it did. -/
def fnExactValidShapeUptoRow : OpenClaim := { program := "ytpbccoobkmahlaa", sum := "26af713e602a44522fc977adcc56e3e1ac0094c3f4b7f18b136317bd5c56741c", func := "loop.example/g01193/laws.FnExactValidShape", spec := "fnExactValidShape", unfollowed := true, recurses := true, apart := false, narrowed := true }
def FnExactValidShapeUptoSaid : Prop := fnExactValidShapeUptoRow.holds Try.pinned (OpenSpec.upto fnExactValidShapeSpec)

/-- 'laws.FnExactDepthOf', WHERE WHAT IT READS IS OF BULK AT MOST 1048576: true; the input reads as it did. -/
def fnExactDepthOfUptoRow : OpenClaim := { program := "ytpbccoobkmahlaa", sum := "26af713e602a44522fc977adcc56e3e1ac0094c3f4b7f18b136317bd5c56741c", func := "loop.example/g01193/laws.FnExactDepthOf", spec := "fnExactDepthOf", unfollowed := true, recurses := true, apart := false, narrowed := true }
def FnExactDepthOfUptoSaid : Prop := fnExactDepthOfUptoRow.holds Try.pinned (OpenSpec.upto fnExactDepthOfSpec)

/-- 'laws.FnExactOneNode', WHERE WHAT IT READS IS OF BULK AT MOST 1048576: true; the input reads as it did. -/
def fnExactOneNodeUptoRow : OpenClaim := { program := "ytpbccoobkmahlaa", sum := "26af713e602a44522fc977adcc56e3e1ac0094c3f4b7f18b136317bd5c56741c", func := "loop.example/g01193/laws.FnExactOneNode", spec := "fnExactOneNode", unfollowed := true, recurses := true, apart := false, narrowed := true }
def FnExactOneNodeUptoSaid : Prop := fnExactOneNodeUptoRow.holds Try.pinned (OpenSpec.upto fnExactOneNodeSpec)

/-- 'laws.FnExactLeavesOf', WHERE WHAT IT READS IS OF BULK AT MOST 1048576: true; the input reads as it did. -/
def fnExactLeavesOfUptoRow : OpenClaim := { program := "ytpbccoobkmahlaa", sum := "26af713e602a44522fc977adcc56e3e1ac0094c3f4b7f18b136317bd5c56741c", func := "loop.example/g01193/laws.FnExactLeavesOf", spec := "fnExactLeavesOf", unfollowed := true, recurses := true, apart := false, narrowed := true }
def FnExactLeavesOfUptoSaid : Prop := fnExactLeavesOfUptoRow.holds Try.pinned (OpenSpec.upto fnExactLeavesOfSpec)

/-- 'laws.FnExactWrapShape', WHERE WHAT IT READS IS OF BULK AT MOST 1048576: true; the input reads as it did. -/
def fnExactWrapShapeUptoRow : OpenClaim := { program := "ytpbccoobkmahlaa", sum := "26af713e602a44522fc977adcc56e3e1ac0094c3f4b7f18b136317bd5c56741c", func := "loop.example/g01193/laws.FnExactWrapShape", spec := "fnExactWrapShape", unfollowed := true, recurses := true, apart := false, narrowed := true }
def FnExactWrapShapeUptoSaid : Prop := fnExactWrapShapeUptoRow.holds Try.pinned (OpenSpec.upto fnExactWrapShapeSpec)

/-- 'laws.FnExactJoinShapes', WHERE WHAT IT READS IS OF BULK AT MOST 1048576: true; the input reads as it did. -/
def fnExactJoinShapesUptoRow : OpenClaim := { program := "ytpbccoobkmahlaa", sum := "26af713e602a44522fc977adcc56e3e1ac0094c3f4b7f18b136317bd5c56741c", func := "loop.example/g01193/laws.FnExactJoinShapes", spec := "fnExactJoinShapes", unfollowed := true, recurses := true, apart := false, narrowed := true }
def FnExactJoinShapesUptoSaid : Prop := fnExactJoinShapesUptoRow.holds Try.pinned (OpenSpec.upto fnExactJoinShapesSpec)

/-- 'laws.FnExactFactorOf', WHERE WHAT IT READS IS OF BULK AT MOST 1048576: true; the input reads as it did. -/
def fnExactFactorOfUptoRow : OpenClaim := { program := "ytpbccoobkmahlaa", sum := "26af713e602a44522fc977adcc56e3e1ac0094c3f4b7f18b136317bd5c56741c", func := "loop.example/g01193/laws.FnExactFactorOf", spec := "fnExactFactorOf", inPlace := ["math.sqrt"], unfollowed := true, recurses := true, apart := false, narrowed := true }
def FnExactFactorOfUptoSaid : Prop := fnExactFactorOfUptoRow.holds Try.pinned (OpenSpec.upto fnExactFactorOfSpec)

/-- 'laws.FnExactPartOf', WHERE WHAT IT READS IS OF BULK AT MOST 1048576: true; the input reads as it did. -/
def fnExactPartOfUptoRow : OpenClaim := { program := "ytpbccoobkmahlaa", sum := "26af713e602a44522fc977adcc56e3e1ac0094c3f4b7f18b136317bd5c56741c", func := "loop.example/g01193/laws.FnExactPartOf", spec := "fnExactPartOf", unfollowed := true, recurses := true, apart := false, narrowed := true }
def FnExactPartOfUptoSaid : Prop := fnExactPartOfUptoRow.holds Try.pinned (OpenSpec.upto fnExactPartOfSpec)

end Rows
end Go.Proofs.Ytpbccoobkmahlaa

/-
  No cell of these rows narrows 'for every input' (looked for: loops, veiled, ifaces, maps, wideKeys, modest, calm, conditions, laid).
  DERIVED. THE GIVEN ROWS OF THIS SEAT. 3 by the template 'for every input the law returns true; each argument reads behind the call as it read before'; 0 by the template 'total and deterministic' (their statements: YtndffogfaocchaaGreatTotals.lean).
  GIVEN WITH THE SEED: the statements are not yours to turn. If you find one false, say at which input.
  Laid BY PROGRAM, IN A SANDBOX (cutbox-rows.mjs): the forced cells as the released guide's own fill.sh prints them over the translation 855c7be4f8d0c332… (all of the seat's roots in one cut). By AI agents, Wed Nov 11 2026. No macro, syntax, notation, axiom, sorry.
-/
import Derived.Test.YtndffogfaocchaaGreatChecked
import GoSem.Claim
import GoSem.ClaimJoined
import GoSem.ClaimMapViews
import Derived.JoinedTies
import Derived.KernelRfl
namespace Go.Proofs.YtndffogfaocchaaGreat
/- THE CELL 'sum', in the pinned program and in every row, IS THE sha256 OF THE DUMP (.gsa) THAT YtndffogfaocchaaGreatProg.lean LOADS. Nothing in Lean hashes anything: it is a label: what it is worth is what the hold of that sum in a sandbox is worth. -/
noncomputable def Tryz.pinned : Pinned := { name := "ytndffogfaocchaagreat", sum := "855c7be4f8d0c3327426558d2889acc4457d40a63b32717a61c4f7132ec2d74e", checked := Tryz.checked }
namespace Rows
def none {H : Type} : Left H := { results := [], args := [] }

/-- 'twistlocktop.TopWaits': WHATEVER THE INPUT: true; the input reads as it did. -/
def topWaitsSpec : ChangeSpec := { name := "topWaits", fn := fun _ => fun
  | [d1, d2, d3, d4, d5] => { results := [.lit (.bool true)], args := [d1, d2, d3, d4, d5] }
  | _ => none }
def topWaitsRow : OpenClaim := { program := "ytndffogfaocchaagreat", sum := "855c7be4f8d0c3327426558d2889acc4457d40a63b32717a61c4f7132ec2d74e", func := "twistlock/twistlocktop.TopWaits", spec := "topWaits", unfollowed := true, recurses := true, plainKeys := false, apart := false }
def TopWaitsSaid : Prop := topWaitsRow.holds Tryz.pinned (OpenSpec.ofChange topWaitsSpec)

/-- ITS FALSE NEIGHBOUR: 'it returns false'. Refute it at one input. -/
def topWaitsWrong : ChangeSpec := { name := "topWaits", fn := fun _ => fun
  | [d1, d2, d3, d4, d5] => { results := [.lit (.bool false)], args := [d1, d2, d3, d4, d5] }
  | _ => none }
def TopWaitsWrongFalsely : Prop := topWaitsRow.holds Tryz.pinned (OpenSpec.ofChange topWaitsWrong)

/-- 'twistlocktop.TopBackwards': WHATEVER THE INPUT: true; the input reads as it did. -/
def topBackwardsSpec : ChangeSpec := { name := "topBackwards", fn := fun _ => fun
  | [d1, d2, d3, d4, d5, d6, d7] => { results := [.lit (.bool true)], args := [d1, d2, d3, d4, d5, d6, d7] }
  | _ => none }
def topBackwardsRow : OpenClaim := { program := "ytndffogfaocchaagreat", sum := "855c7be4f8d0c3327426558d2889acc4457d40a63b32717a61c4f7132ec2d74e", func := "twistlock/twistlocktop.TopBackwards", spec := "topBackwards", unfollowed := true, recurses := true, plainKeys := false, apart := false }
def TopBackwardsSaid : Prop := topBackwardsRow.holds Tryz.pinned (OpenSpec.ofChange topBackwardsSpec)

/-- ITS FALSE NEIGHBOUR: 'it returns false'. Refute it at one input. -/
def topBackwardsWrong : ChangeSpec := { name := "topBackwards", fn := fun _ => fun
  | [d1, d2, d3, d4, d5, d6, d7] => { results := [.lit (.bool false)], args := [d1, d2, d3, d4, d5, d6, d7] }
  | _ => none }
def TopBackwardsWrongFalsely : Prop := topBackwardsRow.holds Tryz.pinned (OpenSpec.ofChange topBackwardsWrong)

/-- 'twistlocktop.TopBeside': WHATEVER THE INPUT: true; the input reads as it did. -/
def topBesideSpec : ChangeSpec := { name := "topBeside", fn := fun _ => fun
  | [d1, d2, d3, d4, d5, d6, d7] => { results := [.lit (.bool true)], args := [d1, d2, d3, d4, d5, d6, d7] }
  | _ => none }
def topBesideRow : OpenClaim := { program := "ytndffogfaocchaagreat", sum := "855c7be4f8d0c3327426558d2889acc4457d40a63b32717a61c4f7132ec2d74e", func := "twistlock/twistlocktop.TopBeside", spec := "topBeside", unfollowed := true, recurses := true, plainKeys := false, apart := false }
def TopBesideSaid : Prop := topBesideRow.holds Tryz.pinned (OpenSpec.ofChange topBesideSpec)

/-- ITS FALSE NEIGHBOUR: 'it returns false'. Refute it at one input. -/
def topBesideWrong : ChangeSpec := { name := "topBeside", fn := fun _ => fun
  | [d1, d2, d3, d4, d5, d6, d7] => { results := [.lit (.bool false)], args := [d1, d2, d3, d4, d5, d6, d7] }
  | _ => none }
def TopBesideWrongFalsely : Prop := topBesideRow.holds Tryz.pinned (OpenSpec.ofChange topBesideWrong)

/- THE SECOND FORM. 'bulk': how many values and letters a reading holds, each counted each time it is reached (what is shared counts as often as it is met; a slice's spare places count too). A statement '..UptoSaid' is the law's where the arguments, and the package variables that the reading takes, are together of bulk at most 1048576: NARROWER than '..Said'. Prove '..Said' where nothing that the law and all that it calls make is longer than what came in: it says more and counts as full. Else prove '..UptoSaid'. A law counts once. -/
mutual
def uptoBulk {H : Type} : DataW H → Nat
  | .lit (.string bytes) => bytes.length + 1
  | .lit _ => 1
  | .nil => 1
  | .ptr d => uptoBulk d + 1
  | .slice elems spare => uptoBulkAll elems + uptoBulkAll spare + 1
  | .agg parts => uptoBulkAll parts + 1
  | .iface _ d => uptoBulk d + 1
  | .map entries => uptoBulkEntries entries + 1
  | .held _ => 1
def uptoBulkAll {H : Type} : List (DataW H) → Nat
  | [] => 0
  | d :: r => uptoBulk d + uptoBulkAll r
def uptoBulkEntries {H : Type} : List (Lit × DataW H) → Nat
  | [] => 0
  | x :: r => uptoBulkEntry x + uptoBulkEntries r
def uptoBulkEntry {H : Type} : Lit × DataW H → Nat
  | (.string bytes, d) => bytes.length + uptoBulk d + 1
  | (_, d) => uptoBulk d + 1
 end
def uptoSmall : (H : Type) → List (DataW H) → Bool := fun _ ds => decide (uptoBulkAll ds ≤ 1048576)
def OpenSpec.upto (s : _root_.Go.ChangeSpec) : _root_.Go.OpenSpec := { _root_.Go.OpenSpec.ofChange s with cond := some uptoSmall }

/-- 'twistlocktop.TopWaits', WHERE WHAT IT READS IS OF BULK AT MOST 1048576: true; the input reads as it did. -/
def topWaitsUptoRow : OpenClaim := { program := "ytndffogfaocchaagreat", sum := "855c7be4f8d0c3327426558d2889acc4457d40a63b32717a61c4f7132ec2d74e", func := "twistlock/twistlocktop.TopWaits", spec := "topWaits", unfollowed := true, recurses := true, plainKeys := false, apart := false, narrowed := true }
def TopWaitsUptoSaid : Prop := topWaitsUptoRow.holds Tryz.pinned (OpenSpec.upto topWaitsSpec)

/-- 'twistlocktop.TopBackwards', WHERE WHAT IT READS IS OF BULK AT MOST 1048576: true; the input reads as it did. -/
def topBackwardsUptoRow : OpenClaim := { program := "ytndffogfaocchaagreat", sum := "855c7be4f8d0c3327426558d2889acc4457d40a63b32717a61c4f7132ec2d74e", func := "twistlock/twistlocktop.TopBackwards", spec := "topBackwards", unfollowed := true, recurses := true, plainKeys := false, apart := false, narrowed := true }
def TopBackwardsUptoSaid : Prop := topBackwardsUptoRow.holds Tryz.pinned (OpenSpec.upto topBackwardsSpec)

/-- 'twistlocktop.TopBeside', WHERE WHAT IT READS IS OF BULK AT MOST 1048576: true; the input reads as it did. -/
def topBesideUptoRow : OpenClaim := { program := "ytndffogfaocchaagreat", sum := "855c7be4f8d0c3327426558d2889acc4457d40a63b32717a61c4f7132ec2d74e", func := "twistlock/twistlocktop.TopBeside", spec := "topBeside", unfollowed := true, recurses := true, plainKeys := false, apart := false, narrowed := true }
def TopBesideUptoSaid : Prop := topBesideUptoRow.holds Tryz.pinned (OpenSpec.upto topBesideSpec)

end Rows
end Go.Proofs.YtndffogfaocchaaGreat

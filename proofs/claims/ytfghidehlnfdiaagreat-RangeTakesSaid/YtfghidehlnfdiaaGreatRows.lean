/-
  No cell of these rows narrows 'for every input' (looked for: loops, veiled, ifaces, maps, wideKeys, modest, calm, conditions, laid).
  DERIVED. THE GIVEN ROWS OF THIS SEAT. 3 by the template 'for every input the law returns true; each argument reads behind the call as it read before'; 0 by the template 'total and deterministic' (their statements: YtfghidehlnfdiaaGreatTotals.lean).
  GIVEN WITH THE SEED: the statements are not yours to turn. If you find one false, say at which input.
  Laid BY PROGRAM, IN A SANDBOX (cutbox-rows.mjs): the forced cells as the released guide's own fill.sh prints them over the translation 85abbc4f491052b0… (all of the seat's roots in one cut). By AI agents, Wed Nov 11 2026. No macro, syntax, notation, axiom, sorry.
-/
import Derived.Test.YtfghidehlnfdiaaGreatChecked
import GoSem.Claim
import GoSem.ClaimJoined
import GoSem.ClaimMapViews
import Derived.JoinedTies
import Derived.KernelRfl
namespace Go.Proofs.YtfghidehlnfdiaaGreat
/- THE CELL 'sum', in the pinned program and in every row, IS THE sha256 OF THE DUMP (.gsa) THAT YtfghidehlnfdiaaGreatProg.lean LOADS. Nothing in Lean hashes anything: it is a label: what it is worth is what the hold of that sum in a sandbox is worth. -/
noncomputable def Tryz.pinned : Pinned := { name := "ytfghidehlnfdiaagreat", sum := "85abbc4f491052b03942fbe94a5571ee1bdcda49fa16b3746cff86a4da48dc77", checked := Tryz.checked }
namespace Rows
def none {H : Type} : Left H := { results := [], args := [] }

/-- 'morainelaw16.ProofTurned': WHATEVER THE INPUT: true; the input reads as it did. -/
def proofTurnedSpec : ChangeSpec := { name := "proofTurned", fn := fun _ => fun
  | [d1, d2, d3, d4, d5, d6] => { results := [.lit (.bool true)], args := [d1, d2, d3, d4, d5, d6] }
  | _ => none }
def proofTurnedRow : OpenClaim := { program := "ytfghidehlnfdiaagreat", sum := "85abbc4f491052b03942fbe94a5571ee1bdcda49fa16b3746cff86a4da48dc77", func := "moraine/morainelaw16.ProofTurned", spec := "proofTurned", unfollowed := true, recurses := true, plainKeys := false, apart := false }
def ProofTurnedSaid : Prop := proofTurnedRow.holds Tryz.pinned (OpenSpec.ofChange proofTurnedSpec)

/-- ITS FALSE NEIGHBOUR: 'it returns false'. Refute it at one input. -/
def proofTurnedWrong : ChangeSpec := { name := "proofTurned", fn := fun _ => fun
  | [d1, d2, d3, d4, d5, d6] => { results := [.lit (.bool false)], args := [d1, d2, d3, d4, d5, d6] }
  | _ => none }
def ProofTurnedWrongFalsely : Prop := proofTurnedRow.holds Tryz.pinned (OpenSpec.ofChange proofTurnedWrong)

/-- 'morainelaw16.RangeMakes': WHATEVER THE INPUT: true; the input reads as it did. -/
def rangeMakesSpec : ChangeSpec := { name := "rangeMakes", fn := fun _ => fun
  | [d1, d2, d3, d4] => { results := [.lit (.bool true)], args := [d1, d2, d3, d4] }
  | _ => none }
def rangeMakesRow : OpenClaim := { program := "ytfghidehlnfdiaagreat", sum := "85abbc4f491052b03942fbe94a5571ee1bdcda49fa16b3746cff86a4da48dc77", func := "moraine/morainelaw16.RangeMakes", spec := "rangeMakes", inPlace := ["internal/bytealg.Compare", "internal/bytealg.MakeNoZero"], unfollowed := true, recurses := true, plainKeys := false, apart := false }
def RangeMakesSaid : Prop := rangeMakesRow.holds Tryz.pinned (OpenSpec.ofChange rangeMakesSpec)

/-- ITS FALSE NEIGHBOUR: 'it returns false'. Refute it at one input. -/
def rangeMakesWrong : ChangeSpec := { name := "rangeMakes", fn := fun _ => fun
  | [d1, d2, d3, d4] => { results := [.lit (.bool false)], args := [d1, d2, d3, d4] }
  | _ => none }
def RangeMakesWrongFalsely : Prop := rangeMakesRow.holds Tryz.pinned (OpenSpec.ofChange rangeMakesWrong)

/-- 'morainelaw16.RangeTakes': WHATEVER THE INPUT: true; the input reads as it did. -/
def rangeTakesSpec : ChangeSpec := { name := "rangeTakes", fn := fun _ => fun
  | [d1, d2, d3, d4, d5] => { results := [.lit (.bool true)], args := [d1, d2, d3, d4, d5] }
  | _ => none }
def rangeTakesRow : OpenClaim := { program := "ytfghidehlnfdiaagreat", sum := "85abbc4f491052b03942fbe94a5571ee1bdcda49fa16b3746cff86a4da48dc77", func := "moraine/morainelaw16.RangeTakes", spec := "rangeTakes", inPlace := ["internal/bytealg.Compare", "internal/bytealg.MakeNoZero"], unfollowed := true, recurses := true, plainKeys := false, apart := false }
def RangeTakesSaid : Prop := rangeTakesRow.holds Tryz.pinned (OpenSpec.ofChange rangeTakesSpec)

/-- ITS FALSE NEIGHBOUR: 'it returns false'. Refute it at one input. -/
def rangeTakesWrong : ChangeSpec := { name := "rangeTakes", fn := fun _ => fun
  | [d1, d2, d3, d4, d5] => { results := [.lit (.bool false)], args := [d1, d2, d3, d4, d5] }
  | _ => none }
def RangeTakesWrongFalsely : Prop := rangeTakesRow.holds Tryz.pinned (OpenSpec.ofChange rangeTakesWrong)

/- THE SECOND FORM. 'bulk': how many values and letters a reading holds, each counted each time it is reached (what is shared counts as often as it is met; a slice's spare places count too). A statement '..UptoSaid' is the law's where the arguments, and the package variables that the reading takes, are together of bulk at most 1048576: NARROWER than '..Said'. Prove '..Said' where nothing that the law and all that it calls make is longer than what came in: it says more and counts as full. Else prove '..UptoSaid'. A law counts once. -/
mutual
def uptoBulk {H : Type} : DataW H → Nat
  | .lit (.string bytes) => bytes.length + 1
  | .lit _ => 1
  | .nil => 1
  | .ptr d => uptoBulk d + 1
  | .slice elems spare => uptoBulkAll elems + uptoBulkAll spare + 1
  | .agg parts => uptoBulkAll parts + 1
  | .iface _ d => uptoBulk d + 1
  | .map entries => uptoBulkEntries entries + 1
  | .held _ => 1
def uptoBulkAll {H : Type} : List (DataW H) → Nat
  | [] => 0
  | d :: r => uptoBulk d + uptoBulkAll r
def uptoBulkEntries {H : Type} : List (Lit × DataW H) → Nat
  | [] => 0
  | x :: r => uptoBulkEntry x + uptoBulkEntries r
def uptoBulkEntry {H : Type} : Lit × DataW H → Nat
  | (.string bytes, d) => bytes.length + uptoBulk d + 1
  | (_, d) => uptoBulk d + 1
 end
def uptoSmall : (H : Type) → List (DataW H) → Bool := fun _ ds => decide (uptoBulkAll ds ≤ 1048576)
def OpenSpec.upto (s : _root_.Go.ChangeSpec) : _root_.Go.OpenSpec := { _root_.Go.OpenSpec.ofChange s with cond := some uptoSmall }

/-- 'morainelaw16.ProofTurned', WHERE WHAT IT READS IS OF BULK AT MOST 1048576: true; the input reads as it did. -/
def proofTurnedUptoRow : OpenClaim := { program := "ytfghidehlnfdiaagreat", sum := "85abbc4f491052b03942fbe94a5571ee1bdcda49fa16b3746cff86a4da48dc77", func := "moraine/morainelaw16.ProofTurned", spec := "proofTurned", unfollowed := true, recurses := true, plainKeys := false, apart := false, narrowed := true }
def ProofTurnedUptoSaid : Prop := proofTurnedUptoRow.holds Tryz.pinned (OpenSpec.upto proofTurnedSpec)

/-- 'morainelaw16.RangeMakes', WHERE WHAT IT READS IS OF BULK AT MOST 1048576: true; the input reads as it did. -/
def rangeMakesUptoRow : OpenClaim := { program := "ytfghidehlnfdiaagreat", sum := "85abbc4f491052b03942fbe94a5571ee1bdcda49fa16b3746cff86a4da48dc77", func := "moraine/morainelaw16.RangeMakes", spec := "rangeMakes", inPlace := ["internal/bytealg.Compare", "internal/bytealg.MakeNoZero"], unfollowed := true, recurses := true, plainKeys := false, apart := false, narrowed := true }
def RangeMakesUptoSaid : Prop := rangeMakesUptoRow.holds Tryz.pinned (OpenSpec.upto rangeMakesSpec)

/-- 'morainelaw16.RangeTakes', WHERE WHAT IT READS IS OF BULK AT MOST 1048576: true; the input reads as it did. -/
def rangeTakesUptoRow : OpenClaim := { program := "ytfghidehlnfdiaagreat", sum := "85abbc4f491052b03942fbe94a5571ee1bdcda49fa16b3746cff86a4da48dc77", func := "moraine/morainelaw16.RangeTakes", spec := "rangeTakes", inPlace := ["internal/bytealg.Compare", "internal/bytealg.MakeNoZero"], unfollowed := true, recurses := true, plainKeys := false, apart := false, narrowed := true }
def RangeTakesUptoSaid : Prop := rangeTakesUptoRow.holds Tryz.pinned (OpenSpec.upto rangeTakesSpec)

end Rows
end Go.Proofs.YtfghidehlnfdiaaGreat

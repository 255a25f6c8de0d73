/-
  No cell of these rows narrows 'for every input' (looked for: loops, veiled, ifaces, maps, wideKeys, modest, calm, conditions, laid).
  DERIVED. THE GIVEN ROWS OF THIS SEAT. 14 by the template 'for every input the law returns true; each argument reads behind the call as it read before'; 0 by the template 'total and deterministic' (their statements: YtfghidehlnfdiaaTotals.lean).
  GIVEN WITH THE SEED: the statements are not yours to turn. If you find one false, say at which input.
  Laid BY PROGRAM, IN A SANDBOX (cutbox-rows.mjs): the forced cells as the released guide's own fill.sh prints them over the translation e233345c8be7fcd4… (all of the seat's roots in one cut). By AI agents, Wed Nov 11 2026. No macro, syntax, notation, axiom, sorry.
-/
import Derived.Test.YtfghidehlnfdiaaChecked
import GoSem.Claim
import GoSem.ClaimJoined
import GoSem.ClaimMapViews
import Derived.JoinedTies
import Derived.KernelRfl
namespace Go.Proofs.Ytfghidehlnfdiaa
/- THE CELL 'sum', in the pinned program and in every row, IS THE sha256 OF THE DUMP (.gsa) THAT YtfghidehlnfdiaaProg.lean LOADS. Nothing in Lean hashes anything: it is a label: what it is worth is what the hold of that sum in a sandbox is worth. -/
noncomputable def Try.pinned : Pinned := { name := "ytfghidehlnfdiaa", sum := "e233345c8be7fcd4a44cd91cfc3ea09ce5e3b2b707427cdab08a1dc79efc040d", checked := Try.checked }
namespace Rows
def none {H : Type} : Left H := { results := [], args := [] }

/-- 'morainelaw3.KeccakSums': WHATEVER THE INPUT: true; the input reads as it did. -/
def keccakSumsSpec : ChangeSpec := { name := "keccakSums", fn := fun _ => fun
  | [d1, d2] => { results := [.lit (.bool true)], args := [d1, d2] }
  | _ => none }
def keccakSumsRow : OpenClaim := { program := "ytfghidehlnfdiaa", sum := "e233345c8be7fcd4a44cd91cfc3ea09ce5e3b2b707427cdab08a1dc79efc040d", func := "moraine/morainelaw3.KeccakSums", spec := "keccakSums", plainKeys := false, apart := false }
def KeccakSumsSaid : Prop := keccakSumsRow.holds Try.pinned (OpenSpec.ofChange keccakSumsSpec)

/-- ITS FALSE NEIGHBOUR: 'it returns false'. Refute it at one input. -/
def keccakSumsWrong : ChangeSpec := { name := "keccakSums", fn := fun _ => fun
  | [d1, d2] => { results := [.lit (.bool false)], args := [d1, d2] }
  | _ => none }
def KeccakSumsWrongFalsely : Prop := keccakSumsRow.holds Try.pinned (OpenSpec.ofChange keccakSumsWrong)

/-- 'morainelaw3.KeccakTwo': WHATEVER THE INPUT: true; the input reads as it did. -/
def keccakTwoSpec : ChangeSpec := { name := "keccakTwo", fn := fun _ => fun
  | [d] => { results := [.lit (.bool true)], args := [d] }
  | _ => none }
def keccakTwoRow : OpenClaim := { program := "ytfghidehlnfdiaa", sum := "e233345c8be7fcd4a44cd91cfc3ea09ce5e3b2b707427cdab08a1dc79efc040d", func := "moraine/morainelaw3.KeccakTwo", spec := "keccakTwo", plainKeys := false, apart := false }
def KeccakTwoSaid : Prop := keccakTwoRow.holds Try.pinned (OpenSpec.ofChange keccakTwoSpec)

/-- ITS FALSE NEIGHBOUR: 'it returns false'. Refute it at one input. -/
def keccakTwoWrong : ChangeSpec := { name := "keccakTwo", fn := fun _ => fun
  | [d] => { results := [.lit (.bool false)], args := [d] }
  | _ => none }
def KeccakTwoWrongFalsely : Prop := keccakTwoRow.holds Try.pinned (OpenSpec.ofChange keccakTwoWrong)

/-- 'morainelaw3.KeccakPermutes': WHATEVER THE INPUT: true; the input reads as it did. -/
def keccakPermutesSpec : ChangeSpec := { name := "keccakPermutes", fn := fun _ => fun
  | [d] => { results := [.lit (.bool true)], args := [d] }
  | _ => none }
def keccakPermutesRow : OpenClaim := { program := "ytfghidehlnfdiaa", sum := "e233345c8be7fcd4a44cd91cfc3ea09ce5e3b2b707427cdab08a1dc79efc040d", func := "moraine/morainelaw3.KeccakPermutes", spec := "keccakPermutes", plainKeys := false, apart := false }
def KeccakPermutesSaid : Prop := keccakPermutesRow.holds Try.pinned (OpenSpec.ofChange keccakPermutesSpec)

/-- ITS FALSE NEIGHBOUR: 'it returns false'. Refute it at one input. -/
def keccakPermutesWrong : ChangeSpec := { name := "keccakPermutes", fn := fun _ => fun
  | [d] => { results := [.lit (.bool false)], args := [d] }
  | _ => none }
def KeccakPermutesWrongFalsely : Prop := keccakPermutesRow.holds Try.pinned (OpenSpec.ofChange keccakPermutesWrong)

/-- 'morainelaw3.KeccakApart': WHATEVER THE INPUT: true; the input reads as it did. -/
def keccakApartSpec : ChangeSpec := { name := "keccakApart", fn := fun _ => fun
  | [d1, d2, d3] => { results := [.lit (.bool true)], args := [d1, d2, d3] }
  | _ => none }
def keccakApartRow : OpenClaim := { program := "ytfghidehlnfdiaa", sum := "e233345c8be7fcd4a44cd91cfc3ea09ce5e3b2b707427cdab08a1dc79efc040d", func := "moraine/morainelaw3.KeccakApart", spec := "keccakApart", plainKeys := false, apart := false }
def KeccakApartSaid : Prop := keccakApartRow.holds Try.pinned (OpenSpec.ofChange keccakApartSpec)

/-- ITS FALSE NEIGHBOUR: 'it returns false'. Refute it at one input. -/
def keccakApartWrong : ChangeSpec := { name := "keccakApart", fn := fun _ => fun
  | [d1, d2, d3] => { results := [.lit (.bool false)], args := [d1, d2, d3] }
  | _ => none }
def KeccakApartWrongFalsely : Prop := keccakApartRow.holds Try.pinned (OpenSpec.ofChange keccakApartWrong)

/-- 'morainelaw16.ProofMakes': WHATEVER THE INPUT: true; the input reads as it did. -/
def proofMakesSpec : ChangeSpec := { name := "proofMakes", fn := fun _ => fun
  | [d1, d2, d3, d4] => { results := [.lit (.bool true)], args := [d1, d2, d3, d4] }
  | _ => none }
def proofMakesRow : OpenClaim := { program := "ytfghidehlnfdiaa", sum := "e233345c8be7fcd4a44cd91cfc3ea09ce5e3b2b707427cdab08a1dc79efc040d", func := "moraine/morainelaw16.ProofMakes", spec := "proofMakes", unfollowed := true, recurses := true, plainKeys := false, apart := false }
def ProofMakesSaid : Prop := proofMakesRow.holds Try.pinned (OpenSpec.ofChange proofMakesSpec)

/-- ITS FALSE NEIGHBOUR: 'it returns false'. Refute it at one input. -/
def proofMakesWrong : ChangeSpec := { name := "proofMakes", fn := fun _ => fun
  | [d1, d2, d3, d4] => { results := [.lit (.bool false)], args := [d1, d2, d3, d4] }
  | _ => none }
def ProofMakesWrongFalsely : Prop := proofMakesRow.holds Try.pinned (OpenSpec.ofChange proofMakesWrong)

/-- 'morainelaw16.ProofTakes': WHATEVER THE INPUT: true; the input reads as it did. -/
def proofTakesSpec : ChangeSpec := { name := "proofTakes", fn := fun _ => fun
  | [d1, d2, d3] => { results := [.lit (.bool true)], args := [d1, d2, d3] }
  | _ => none }
def proofTakesRow : OpenClaim := { program := "ytfghidehlnfdiaa", sum := "e233345c8be7fcd4a44cd91cfc3ea09ce5e3b2b707427cdab08a1dc79efc040d", func := "moraine/morainelaw16.ProofTakes", spec := "proofTakes", unfollowed := true, recurses := true, plainKeys := false, apart := false }
def ProofTakesSaid : Prop := proofTakesRow.holds Try.pinned (OpenSpec.ofChange proofTakesSpec)

/-- ITS FALSE NEIGHBOUR: 'it returns false'. Refute it at one input. -/
def proofTakesWrong : ChangeSpec := { name := "proofTakes", fn := fun _ => fun
  | [d1, d2, d3] => { results := [.lit (.bool false)], args := [d1, d2, d3] }
  | _ => none }
def ProofTakesWrongFalsely : Prop := proofTakesRow.holds Try.pinned (OpenSpec.ofChange proofTakesWrong)

/-- 'morainelaw16.ProofForeign': WHATEVER THE INPUT: true; the input reads as it did. -/
def proofForeignSpec : ChangeSpec := { name := "proofForeign", fn := fun _ => fun
  | [d1, d2, d3] => { results := [.lit (.bool true)], args := [d1, d2, d3] }
  | _ => none }
def proofForeignRow : OpenClaim := { program := "ytfghidehlnfdiaa", sum := "e233345c8be7fcd4a44cd91cfc3ea09ce5e3b2b707427cdab08a1dc79efc040d", func := "moraine/morainelaw16.ProofForeign", spec := "proofForeign", unfollowed := true, recurses := true, plainKeys := false, apart := false }
def ProofForeignSaid : Prop := proofForeignRow.holds Try.pinned (OpenSpec.ofChange proofForeignSpec)

/-- ITS FALSE NEIGHBOUR: 'it returns false'. Refute it at one input. -/
def proofForeignWrong : ChangeSpec := { name := "proofForeign", fn := fun _ => fun
  | [d1, d2, d3] => { results := [.lit (.bool false)], args := [d1, d2, d3] }
  | _ => none }
def ProofForeignWrongFalsely : Prop := proofForeignRow.holds Try.pinned (OpenSpec.ofChange proofForeignWrong)

/-- 'morainelaw14.TriePaths': WHATEVER THE INPUT: true; the input reads as it did. -/
def triePathsSpec : ChangeSpec := { name := "triePaths", fn := fun _ => fun
  | [d1, d2, d3, d4] => { results := [.lit (.bool true)], args := [d1, d2, d3, d4] }
  | _ => none }
def triePathsRow : OpenClaim := { program := "ytfghidehlnfdiaa", sum := "e233345c8be7fcd4a44cd91cfc3ea09ce5e3b2b707427cdab08a1dc79efc040d", func := "moraine/morainelaw14.TriePaths", spec := "triePaths", unfollowed := true, recurses := true, plainKeys := false, apart := false }
def TriePathsSaid : Prop := triePathsRow.holds Try.pinned (OpenSpec.ofChange triePathsSpec)

/-- ITS FALSE NEIGHBOUR: 'it returns false'. Refute it at one input. -/
def triePathsWrong : ChangeSpec := { name := "triePaths", fn := fun _ => fun
  | [d1, d2, d3, d4] => { results := [.lit (.bool false)], args := [d1, d2, d3, d4] }
  | _ => none }
def TriePathsWrongFalsely : Prop := triePathsRow.holds Try.pinned (OpenSpec.ofChange triePathsWrong)

/-- 'morainelaw14.TrieForms': WHATEVER THE INPUT: true; the input reads as it did. -/
def trieFormsSpec : ChangeSpec := { name := "trieForms", fn := fun _ => fun
  | [d] => { results := [.lit (.bool true)], args := [d] }
  | _ => none }
def trieFormsRow : OpenClaim := { program := "ytfghidehlnfdiaa", sum := "e233345c8be7fcd4a44cd91cfc3ea09ce5e3b2b707427cdab08a1dc79efc040d", func := "moraine/morainelaw14.TrieForms", spec := "trieForms", unfollowed := true, recurses := true, plainKeys := false, apart := false }
def TrieFormsSaid : Prop := trieFormsRow.holds Try.pinned (OpenSpec.ofChange trieFormsSpec)

/-- ITS FALSE NEIGHBOUR: 'it returns false'. Refute it at one input. -/
def trieFormsWrong : ChangeSpec := { name := "trieForms", fn := fun _ => fun
  | [d] => { results := [.lit (.bool false)], args := [d] }
  | _ => none }
def TrieFormsWrongFalsely : Prop := trieFormsRow.holds Try.pinned (OpenSpec.ofChange trieFormsWrong)

/-- 'morainelaw14.TrieIdle': WHATEVER THE INPUT: true; the input reads as it did. -/
def trieIdleSpec : ChangeSpec := { name := "trieIdle", fn := fun _ => fun
  | [d1, d2] => { results := [.lit (.bool true)], args := [d1, d2] }
  | _ => none }
def trieIdleRow : OpenClaim := { program := "ytfghidehlnfdiaa", sum := "e233345c8be7fcd4a44cd91cfc3ea09ce5e3b2b707427cdab08a1dc79efc040d", func := "moraine/morainelaw14.TrieIdle", spec := "trieIdle", unfollowed := true, recurses := true, plainKeys := false, apart := false }
def TrieIdleSaid : Prop := trieIdleRow.holds Try.pinned (OpenSpec.ofChange trieIdleSpec)

/-- ITS FALSE NEIGHBOUR: 'it returns false'. Refute it at one input. -/
def trieIdleWrong : ChangeSpec := { name := "trieIdle", fn := fun _ => fun
  | [d1, d2] => { results := [.lit (.bool false)], args := [d1, d2] }
  | _ => none }
def TrieIdleWrongFalsely : Prop := trieIdleRow.holds Try.pinned (OpenSpec.ofChange trieIdleWrong)

/-- 'morainelaw14.TrieMany': WHATEVER THE INPUT: true; the input reads as it did. -/
def trieManySpec : ChangeSpec := { name := "trieMany", fn := fun _ => fun
  | [d1, d2, d3] => { results := [.lit (.bool true)], args := [d1, d2, d3] }
  | _ => none }
def trieManyRow : OpenClaim := { program := "ytfghidehlnfdiaa", sum := "e233345c8be7fcd4a44cd91cfc3ea09ce5e3b2b707427cdab08a1dc79efc040d", func := "moraine/morainelaw14.TrieMany", spec := "trieMany", unfollowed := true, recurses := true, plainKeys := false, apart := false }
def TrieManySaid : Prop := trieManyRow.holds Try.pinned (OpenSpec.ofChange trieManySpec)

/-- ITS FALSE NEIGHBOUR: 'it returns false'. Refute it at one input. -/
def trieManyWrong : ChangeSpec := { name := "trieMany", fn := fun _ => fun
  | [d1, d2, d3] => { results := [.lit (.bool false)], args := [d1, d2, d3] }
  | _ => none }
def TrieManyWrongFalsely : Prop := trieManyRow.holds Try.pinned (OpenSpec.ofChange trieManyWrong)

/-- 'morainelaw14.TrieRoots': WHATEVER THE INPUT: true; the input reads as it did. -/
def trieRootsSpec : ChangeSpec := { name := "trieRoots", fn := fun _ => fun
  | [d1, d2] => { results := [.lit (.bool true)], args := [d1, d2] }
  | _ => none }
def trieRootsRow : OpenClaim := { program := "ytfghidehlnfdiaa", sum := "e233345c8be7fcd4a44cd91cfc3ea09ce5e3b2b707427cdab08a1dc79efc040d", func := "moraine/morainelaw14.TrieRoots", spec := "trieRoots", unfollowed := true, recurses := true, plainKeys := false, apart := false }
def TrieRootsSaid : Prop := trieRootsRow.holds Try.pinned (OpenSpec.ofChange trieRootsSpec)

/-- ITS FALSE NEIGHBOUR: 'it returns false'. Refute it at one input. -/
def trieRootsWrong : ChangeSpec := { name := "trieRoots", fn := fun _ => fun
  | [d1, d2] => { results := [.lit (.bool false)], args := [d1, d2] }
  | _ => none }
def TrieRootsWrongFalsely : Prop := trieRootsRow.holds Try.pinned (OpenSpec.ofChange trieRootsWrong)

/-- 'morainelaw14.TrieOrder': WHATEVER THE INPUT: true; the input reads as it did. -/
def trieOrderSpec : ChangeSpec := { name := "trieOrder", fn := fun _ => fun
  | [d1, d2, d3] => { results := [.lit (.bool true)], args := [d1, d2, d3] }
  | _ => none }
def trieOrderRow : OpenClaim := { program := "ytfghidehlnfdiaa", sum := "e233345c8be7fcd4a44cd91cfc3ea09ce5e3b2b707427cdab08a1dc79efc040d", func := "moraine/morainelaw14.TrieOrder", spec := "trieOrder", unfollowed := true, recurses := true, plainKeys := false, apart := false }
def TrieOrderSaid : Prop := trieOrderRow.holds Try.pinned (OpenSpec.ofChange trieOrderSpec)

/-- ITS FALSE NEIGHBOUR: 'it returns false'. Refute it at one input. -/
def trieOrderWrong : ChangeSpec := { name := "trieOrder", fn := fun _ => fun
  | [d1, d2, d3] => { results := [.lit (.bool false)], args := [d1, d2, d3] }
  | _ => none }
def TrieOrderWrongFalsely : Prop := trieOrderRow.holds Try.pinned (OpenSpec.ofChange trieOrderWrong)

/-- 'morainelaw14.TrieOne': WHATEVER THE INPUT: true; the input reads as it did. -/
def trieOneSpec : ChangeSpec := { name := "trieOne", fn := fun _ => fun
  | [d1, d2] => { results := [.lit (.bool true)], args := [d1, d2] }
  | _ => none }
def trieOneRow : OpenClaim := { program := "ytfghidehlnfdiaa", sum := "e233345c8be7fcd4a44cd91cfc3ea09ce5e3b2b707427cdab08a1dc79efc040d", func := "moraine/morainelaw14.TrieOne", spec := "trieOne", unfollowed := true, recurses := true, plainKeys := false, apart := false }
def TrieOneSaid : Prop := trieOneRow.holds Try.pinned (OpenSpec.ofChange trieOneSpec)

/-- ITS FALSE NEIGHBOUR: 'it returns false'. Refute it at one input. -/
def trieOneWrong : ChangeSpec := { name := "trieOne", fn := fun _ => fun
  | [d1, d2] => { results := [.lit (.bool false)], args := [d1, d2] }
  | _ => none }
def TrieOneWrongFalsely : Prop := trieOneRow.holds Try.pinned (OpenSpec.ofChange trieOneWrong)

/- THE SECOND FORM. 'bulk': how many values and letters a reading holds, each counted each time it is reached (what is shared counts as often as it is met; a slice's spare places count too). A statement '..UptoSaid' is the law's where the arguments, and the package variables that the reading takes, are together of bulk at most 1048576: NARROWER than '..Said'. Prove '..Said' where nothing that the law and all that it calls make is longer than what came in: it says more and counts as full. Else prove '..UptoSaid'. A law counts once. -/
mutual
def uptoBulk {H : Type} : DataW H → Nat
  | .lit (.string bytes) => bytes.length + 1
  | .lit _ => 1
  | .nil => 1
  | .ptr d => uptoBulk d + 1
  | .slice elems spare => uptoBulkAll elems + uptoBulkAll spare + 1
  | .agg parts => uptoBulkAll parts + 1
  | .iface _ d => uptoBulk d + 1
  | .map entries => uptoBulkEntries entries + 1
  | .held _ => 1
def uptoBulkAll {H : Type} : List (DataW H) → Nat
  | [] => 0
  | d :: r => uptoBulk d + uptoBulkAll r
def uptoBulkEntries {H : Type} : List (Lit × DataW H) → Nat
  | [] => 0
  | x :: r => uptoBulkEntry x + uptoBulkEntries r
def uptoBulkEntry {H : Type} : Lit × DataW H → Nat
  | (.string bytes, d) => bytes.length + uptoBulk d + 1
  | (_, d) => uptoBulk d + 1
 end
def uptoSmall : (H : Type) → List (DataW H) → Bool := fun _ ds => decide (uptoBulkAll ds ≤ 1048576)
def OpenSpec.upto (s : _root_.Go.ChangeSpec) : _root_.Go.OpenSpec := { _root_.Go.OpenSpec.ofChange s with cond := some uptoSmall }

/-- 'morainelaw3.KeccakSums', WHERE WHAT IT READS IS OF BULK AT MOST 1048576: true; the input reads as it did. -/
def keccakSumsUptoRow : OpenClaim := { program := "ytfghidehlnfdiaa", sum := "e233345c8be7fcd4a44cd91cfc3ea09ce5e3b2b707427cdab08a1dc79efc040d", func := "moraine/morainelaw3.KeccakSums", spec := "keccakSums", plainKeys := false, apart := false, narrowed := true }
def KeccakSumsUptoSaid : Prop := keccakSumsUptoRow.holds Try.pinned (OpenSpec.upto keccakSumsSpec)

/-- 'morainelaw3.KeccakTwo', WHERE WHAT IT READS IS OF BULK AT MOST 1048576: true; the input reads as it did. -/
def keccakTwoUptoRow : OpenClaim := { program := "ytfghidehlnfdiaa", sum := "e233345c8be7fcd4a44cd91cfc3ea09ce5e3b2b707427cdab08a1dc79efc040d", func := "moraine/morainelaw3.KeccakTwo", spec := "keccakTwo", plainKeys := false, apart := false, narrowed := true }
def KeccakTwoUptoSaid : Prop := keccakTwoUptoRow.holds Try.pinned (OpenSpec.upto keccakTwoSpec)

/-- 'morainelaw3.KeccakPermutes', WHERE WHAT IT READS IS OF BULK AT MOST 1048576: true; the input reads as it did. -/
def keccakPermutesUptoRow : OpenClaim := { program := "ytfghidehlnfdiaa", sum := "e233345c8be7fcd4a44cd91cfc3ea09ce5e3b2b707427cdab08a1dc79efc040d", func := "moraine/morainelaw3.KeccakPermutes", spec := "keccakPermutes", plainKeys := false, apart := false, narrowed := true }
def KeccakPermutesUptoSaid : Prop := keccakPermutesUptoRow.holds Try.pinned (OpenSpec.upto keccakPermutesSpec)

/-- 'morainelaw3.KeccakApart', WHERE WHAT IT READS IS OF BULK AT MOST 1048576: true; the input reads as it did. -/
def keccakApartUptoRow : OpenClaim := { program := "ytfghidehlnfdiaa", sum := "e233345c8be7fcd4a44cd91cfc3ea09ce5e3b2b707427cdab08a1dc79efc040d", func := "moraine/morainelaw3.KeccakApart", spec := "keccakApart", plainKeys := false, apart := false, narrowed := true }
def KeccakApartUptoSaid : Prop := keccakApartUptoRow.holds Try.pinned (OpenSpec.upto keccakApartSpec)

/-- 'morainelaw16.ProofMakes', WHERE WHAT IT READS IS OF BULK AT MOST 1048576: true; the input reads as it did. -/
def proofMakesUptoRow : OpenClaim := { program := "ytfghidehlnfdiaa", sum := "e233345c8be7fcd4a44cd91cfc3ea09ce5e3b2b707427cdab08a1dc79efc040d", func := "moraine/morainelaw16.ProofMakes", spec := "proofMakes", unfollowed := true, recurses := true, plainKeys := false, apart := false, narrowed := true }
def ProofMakesUptoSaid : Prop := proofMakesUptoRow.holds Try.pinned (OpenSpec.upto proofMakesSpec)

/-- 'morainelaw16.ProofTakes', WHERE WHAT IT READS IS OF BULK AT MOST 1048576: true; the input reads as it did. -/
def proofTakesUptoRow : OpenClaim := { program := "ytfghidehlnfdiaa", sum := "e233345c8be7fcd4a44cd91cfc3ea09ce5e3b2b707427cdab08a1dc79efc040d", func := "moraine/morainelaw16.ProofTakes", spec := "proofTakes", unfollowed := true, recurses := true, plainKeys := false, apart := false, narrowed := true }
def ProofTakesUptoSaid : Prop := proofTakesUptoRow.holds Try.pinned (OpenSpec.upto proofTakesSpec)

/-- 'morainelaw16.ProofForeign', WHERE WHAT IT READS IS OF BULK AT MOST 1048576: true; the input reads as it did. -/
def proofForeignUptoRow : OpenClaim := { program := "ytfghidehlnfdiaa", sum := "e233345c8be7fcd4a44cd91cfc3ea09ce5e3b2b707427cdab08a1dc79efc040d", func := "moraine/morainelaw16.ProofForeign", spec := "proofForeign", unfollowed := true, recurses := true, plainKeys := false, apart := false, narrowed := true }
def ProofForeignUptoSaid : Prop := proofForeignUptoRow.holds Try.pinned (OpenSpec.upto proofForeignSpec)

/-- 'morainelaw14.TriePaths', WHERE WHAT IT READS IS OF BULK AT MOST 1048576: true; the input reads as it did. -/
def triePathsUptoRow : OpenClaim := { program := "ytfghidehlnfdiaa", sum := "e233345c8be7fcd4a44cd91cfc3ea09ce5e3b2b707427cdab08a1dc79efc040d", func := "moraine/morainelaw14.TriePaths", spec := "triePaths", unfollowed := true, recurses := true, plainKeys := false, apart := false, narrowed := true }
def TriePathsUptoSaid : Prop := triePathsUptoRow.holds Try.pinned (OpenSpec.upto triePathsSpec)

/-- 'morainelaw14.TrieForms', WHERE WHAT IT READS IS OF BULK AT MOST 1048576: true; the input reads as it did. -/
def trieFormsUptoRow : OpenClaim := { program := "ytfghidehlnfdiaa", sum := "e233345c8be7fcd4a44cd91cfc3ea09ce5e3b2b707427cdab08a1dc79efc040d", func := "moraine/morainelaw14.TrieForms", spec := "trieForms", unfollowed := true, recurses := true, plainKeys := false, apart := false, narrowed := true }
def TrieFormsUptoSaid : Prop := trieFormsUptoRow.holds Try.pinned (OpenSpec.upto trieFormsSpec)

/-- 'morainelaw14.TrieIdle', WHERE WHAT IT READS IS OF BULK AT MOST 1048576: true; the input reads as it did. -/
def trieIdleUptoRow : OpenClaim := { program := "ytfghidehlnfdiaa", sum := "e233345c8be7fcd4a44cd91cfc3ea09ce5e3b2b707427cdab08a1dc79efc040d", func := "moraine/morainelaw14.TrieIdle", spec := "trieIdle", unfollowed := true, recurses := true, plainKeys := false, apart := false, narrowed := true }
def TrieIdleUptoSaid : Prop := trieIdleUptoRow.holds Try.pinned (OpenSpec.upto trieIdleSpec)

/-- 'morainelaw14.TrieMany', WHERE WHAT IT READS IS OF BULK AT MOST 1048576: true; the input reads as it did. -/
def trieManyUptoRow : OpenClaim := { program := "ytfghidehlnfdiaa", sum := "e233345c8be7fcd4a44cd91cfc3ea09ce5e3b2b707427cdab08a1dc79efc040d", func := "moraine/morainelaw14.TrieMany", spec := "trieMany", unfollowed := true, recurses := true, plainKeys := false, apart := false, narrowed := true }
def TrieManyUptoSaid : Prop := trieManyUptoRow.holds Try.pinned (OpenSpec.upto trieManySpec)

/-- 'morainelaw14.TrieRoots', WHERE WHAT IT READS IS OF BULK AT MOST 1048576: true; the input reads as it did. -/
def trieRootsUptoRow : OpenClaim := { program := "ytfghidehlnfdiaa", sum := "e233345c8be7fcd4a44cd91cfc3ea09ce5e3b2b707427cdab08a1dc79efc040d", func := "moraine/morainelaw14.TrieRoots", spec := "trieRoots", unfollowed := true, recurses := true, plainKeys := false, apart := false, narrowed := true }
def TrieRootsUptoSaid : Prop := trieRootsUptoRow.holds Try.pinned (OpenSpec.upto trieRootsSpec)

/-- 'morainelaw14.TrieOrder', WHERE WHAT IT READS IS OF BULK AT MOST 1048576: true; the input reads as it did. -/
def trieOrderUptoRow : OpenClaim := { program := "ytfghidehlnfdiaa", sum := "e233345c8be7fcd4a44cd91cfc3ea09ce5e3b2b707427cdab08a1dc79efc040d", func := "moraine/morainelaw14.TrieOrder", spec := "trieOrder", unfollowed := true, recurses := true, plainKeys := false, apart := false, narrowed := true }
def TrieOrderUptoSaid : Prop := trieOrderUptoRow.holds Try.pinned (OpenSpec.upto trieOrderSpec)

/-- 'morainelaw14.TrieOne', WHERE WHAT IT READS IS OF BULK AT MOST 1048576: true; the input reads as it did. -/
def trieOneUptoRow : OpenClaim := { program := "ytfghidehlnfdiaa", sum := "e233345c8be7fcd4a44cd91cfc3ea09ce5e3b2b707427cdab08a1dc79efc040d", func := "moraine/morainelaw14.TrieOne", spec := "trieOne", unfollowed := true, recurses := true, plainKeys := false, apart := false, narrowed := true }
def TrieOneUptoSaid : Prop := trieOneUptoRow.holds Try.pinned (OpenSpec.upto trieOneSpec)

end Rows
end Go.Proofs.Ytfghidehlnfdiaa

/-
  NARROWER THAN 'FOR EVERY INPUT', by the rows' own cells (each row's printed sentence says how): MultiTerms: loops · MultiMaximal: loops · MultiThrough: loops · MultiMore: loops.
  DERIVED. THE GIVEN ROWS OF THIS SEAT. 4 by the template 'for every input the law returns true; each argument reads behind the call as it read before'; 0 by the template 'total and deterministic' (their statements: YtajilkmepjhkdaaTotals.lean).
  GIVEN WITH THE SEED: the statements are not yours to turn. If you find one false, say at which input.
  Laid BY PROGRAM, IN A SANDBOX (cutbox-rows.mjs): the forced cells as the released guide's own fill.sh prints them over the translation 9ff0c66074c41b54… (all of the seat's roots in one cut). By AI agents, Wed Nov 11 2026. No macro, syntax, notation, axiom, sorry.
-/
import Derived.Test.YtajilkmepjhkdaaChecked
import GoSem.Claim
import GoSem.ClaimJoined
import GoSem.ClaimMapViews
import Derived.JoinedTies
import Derived.KernelRfl
namespace Go.Proofs.Ytajilkmepjhkdaa
/- THE CELL 'sum', in the pinned program and in every row, IS THE sha256 OF THE DUMP (.gsa) THAT YtajilkmepjhkdaaProg.lean LOADS. Nothing in Lean hashes anything: it is a label: what it is worth is what the hold of that sum in a sandbox is worth. -/
noncomputable def Try.pinned : Pinned := { name := "ytajilkmepjhkdaa", sum := "9ff0c66074c41b544e6f9c43cae5cc6d8223b449061918740eff27e7fcdd4ac7", checked := Try.checked }
namespace Rows
def none {H : Type} : Left H := { results := [], args := [] }

/-- 'assizelaw09.MultiTerms': WHATEVER THE INPUT: true; the input reads as it did. -/
def multiTermsSpec : ChangeSpec := { name := "multiTerms", fn := fun _ => fun
  | [d1, d2, d3, d4, d5] => { results := [.lit (.bool true)], args := [d1, d2, d3, d4, d5] }
  | _ => none }
def multiTermsRow : OpenClaim := { program := "ytajilkmepjhkdaa", sum := "9ff0c66074c41b544e6f9c43cae5cc6d8223b449061918740eff27e7fcdd4ac7", func := "assize/assizelaw09.MultiTerms", spec := "multiTerms", unfollowed := true, recurses := true, loops := true, plainKeys := false, apart := false }
def MultiTermsSaid : Prop := multiTermsRow.holds Try.pinned (OpenSpec.ofChange multiTermsSpec)

/-- ITS FALSE NEIGHBOUR: 'it returns false'. Refute it at one input. -/
def multiTermsWrong : ChangeSpec := { name := "multiTerms", fn := fun _ => fun
  | [d1, d2, d3, d4, d5] => { results := [.lit (.bool false)], args := [d1, d2, d3, d4, d5] }
  | _ => none }
def MultiTermsWrongFalsely : Prop := multiTermsRow.holds Try.pinned (OpenSpec.ofChange multiTermsWrong)

/-- 'assizelaw09.MultiMaximal': WHATEVER THE INPUT: true; the input reads as it did. -/
def multiMaximalSpec : ChangeSpec := { name := "multiMaximal", fn := fun _ => fun
  | [d1, d2, d3] => { results := [.lit (.bool true)], args := [d1, d2, d3] }
  | _ => none }
def multiMaximalRow : OpenClaim := { program := "ytajilkmepjhkdaa", sum := "9ff0c66074c41b544e6f9c43cae5cc6d8223b449061918740eff27e7fcdd4ac7", func := "assize/assizelaw09.MultiMaximal", spec := "multiMaximal", unfollowed := true, recurses := true, loops := true, plainKeys := false, apart := false }
def MultiMaximalSaid : Prop := multiMaximalRow.holds Try.pinned (OpenSpec.ofChange multiMaximalSpec)

/-- ITS FALSE NEIGHBOUR: 'it returns false'. Refute it at one input. -/
def multiMaximalWrong : ChangeSpec := { name := "multiMaximal", fn := fun _ => fun
  | [d1, d2, d3] => { results := [.lit (.bool false)], args := [d1, d2, d3] }
  | _ => none }
def MultiMaximalWrongFalsely : Prop := multiMaximalRow.holds Try.pinned (OpenSpec.ofChange multiMaximalWrong)

/-- 'assizelaw09.MultiThrough': WHATEVER THE INPUT: true; the input reads as it did. -/
def multiThroughSpec : ChangeSpec := { name := "multiThrough", fn := fun _ => fun
  | [d1, d2, d3, d4] => { results := [.lit (.bool true)], args := [d1, d2, d3, d4] }
  | _ => none }
def multiThroughRow : OpenClaim := { program := "ytajilkmepjhkdaa", sum := "9ff0c66074c41b544e6f9c43cae5cc6d8223b449061918740eff27e7fcdd4ac7", func := "assize/assizelaw09.MultiThrough", spec := "multiThrough", unfollowed := true, recurses := true, loops := true, plainKeys := false, apart := false }
def MultiThroughSaid : Prop := multiThroughRow.holds Try.pinned (OpenSpec.ofChange multiThroughSpec)

/-- ITS FALSE NEIGHBOUR: 'it returns false'. Refute it at one input. -/
def multiThroughWrong : ChangeSpec := { name := "multiThrough", fn := fun _ => fun
  | [d1, d2, d3, d4] => { results := [.lit (.bool false)], args := [d1, d2, d3, d4] }
  | _ => none }
def MultiThroughWrongFalsely : Prop := multiThroughRow.holds Try.pinned (OpenSpec.ofChange multiThroughWrong)

/-- 'assizelaw09.MultiMore': WHATEVER THE INPUT: true; the input reads as it did. -/
def multiMoreSpec : ChangeSpec := { name := "multiMore", fn := fun _ => fun
  | [d1, d2, d3] => { results := [.lit (.bool true)], args := [d1, d2, d3] }
  | _ => none }
def multiMoreRow : OpenClaim := { program := "ytajilkmepjhkdaa", sum := "9ff0c66074c41b544e6f9c43cae5cc6d8223b449061918740eff27e7fcdd4ac7", func := "assize/assizelaw09.MultiMore", spec := "multiMore", unfollowed := true, recurses := true, loops := true, plainKeys := false, apart := false }
def MultiMoreSaid : Prop := multiMoreRow.holds Try.pinned (OpenSpec.ofChange multiMoreSpec)

/-- ITS FALSE NEIGHBOUR: 'it returns false'. Refute it at one input. -/
def multiMoreWrong : ChangeSpec := { name := "multiMore", fn := fun _ => fun
  | [d1, d2, d3] => { results := [.lit (.bool false)], args := [d1, d2, d3] }
  | _ => none }
def MultiMoreWrongFalsely : Prop := multiMoreRow.holds Try.pinned (OpenSpec.ofChange multiMoreWrong)

/- THE SECOND FORM. 'bulk': how many values and letters a reading holds, each counted each time it is reached (what is shared counts as often as it is met; a slice's spare places count too). A statement '..UptoSaid' is the law's where the arguments, and the package variables that the reading takes, are together of bulk at most 1048576: NARROWER than '..Said'. Prove '..Said' where nothing that the law and all that it calls make is longer than what came in: it says more and counts as full. Else prove '..UptoSaid'. A law counts once. -/
mutual
def uptoBulk {H : Type} : DataW H → Nat
  | .lit (.string bytes) => bytes.length + 1
  | .lit _ => 1
  | .nil => 1
  | .ptr d => uptoBulk d + 1
  | .slice elems spare => uptoBulkAll elems + uptoBulkAll spare + 1
  | .agg parts => uptoBulkAll parts + 1
  | .iface _ d => uptoBulk d + 1
  | .map entries => uptoBulkEntries entries + 1
  | .held _ => 1
def uptoBulkAll {H : Type} : List (DataW H) → Nat
  | [] => 0
  | d :: r => uptoBulk d + uptoBulkAll r
def uptoBulkEntries {H : Type} : List (Lit × DataW H) → Nat
  | [] => 0
  | x :: r => uptoBulkEntry x + uptoBulkEntries r
def uptoBulkEntry {H : Type} : Lit × DataW H → Nat
  | (.string bytes, d) => bytes.length + uptoBulk d + 1
  | (_, d) => uptoBulk d + 1
 end
def uptoSmall : (H : Type) → List (DataW H) → Bool := fun _ ds => decide (uptoBulkAll ds ≤ 1048576)
def OpenSpec.upto (s : _root_.Go.ChangeSpec) : _root_.Go.OpenSpec := { _root_.Go.OpenSpec.ofChange s with cond := some uptoSmall }

/-- 'assizelaw09.MultiTerms', WHERE WHAT IT READS IS OF BULK AT MOST 1048576: true; the input reads as it did. -/
def multiTermsUptoRow : OpenClaim := { program := "ytajilkmepjhkdaa", sum := "9ff0c66074c41b544e6f9c43cae5cc6d8223b449061918740eff27e7fcdd4ac7", func := "assize/assizelaw09.MultiTerms", spec := "multiTerms", unfollowed := true, recurses := true, loops := true, plainKeys := false, apart := false, narrowed := true }
def MultiTermsUptoSaid : Prop := multiTermsUptoRow.holds Try.pinned (OpenSpec.upto multiTermsSpec)

/-- 'assizelaw09.MultiMaximal', WHERE WHAT IT READS IS OF BULK AT MOST 1048576: true; the input reads as it did. -/
def multiMaximalUptoRow : OpenClaim := { program := "ytajilkmepjhkdaa", sum := "9ff0c66074c41b544e6f9c43cae5cc6d8223b449061918740eff27e7fcdd4ac7", func := "assize/assizelaw09.MultiMaximal", spec := "multiMaximal", unfollowed := true, recurses := true, loops := true, plainKeys := false, apart := false, narrowed := true }
def MultiMaximalUptoSaid : Prop := multiMaximalUptoRow.holds Try.pinned (OpenSpec.upto multiMaximalSpec)

/-- 'assizelaw09.MultiThrough', WHERE WHAT IT READS IS OF BULK AT MOST 1048576: true; the input reads as it did. -/
def multiThroughUptoRow : OpenClaim := { program := "ytajilkmepjhkdaa", sum := "9ff0c66074c41b544e6f9c43cae5cc6d8223b449061918740eff27e7fcdd4ac7", func := "assize/assizelaw09.MultiThrough", spec := "multiThrough", unfollowed := true, recurses := true, loops := true, plainKeys := false, apart := false, narrowed := true }
def MultiThroughUptoSaid : Prop := multiThroughUptoRow.holds Try.pinned (OpenSpec.upto multiThroughSpec)

/-- 'assizelaw09.MultiMore', WHERE WHAT IT READS IS OF BULK AT MOST 1048576: true; the input reads as it did. -/
def multiMoreUptoRow : OpenClaim := { program := "ytajilkmepjhkdaa", sum := "9ff0c66074c41b544e6f9c43cae5cc6d8223b449061918740eff27e7fcdd4ac7", func := "assize/assizelaw09.MultiMore", spec := "multiMore", unfollowed := true, recurses := true, loops := true, plainKeys := false, apart := false, narrowed := true }
def MultiMoreUptoSaid : Prop := multiMoreUptoRow.holds Try.pinned (OpenSpec.upto multiMoreSpec)

end Rows
end Go.Proofs.Ytajilkmepjhkdaa

/-
  NARROWER THAN 'FOR EVERY INPUT', by the rows' own cells (each row's printed sentence says how): LitsNormal: loops · LitsMeans: loops · LitsOrder: loops · LitsTwice: loops.
  DERIVED. THE GIVEN ROWS OF THIS SEAT. 4 by the template 'for every input the law returns true; each argument reads behind the call as it read before'; 0 by the template 'total and deterministic' (their statements: YtkpomccbohjjpaaTotals.lean).
  GIVEN WITH THE SEED: the statements are not yours to turn. If you find one false, say at which input.
  Laid BY PROGRAM, IN A SANDBOX (cutbox-rows.mjs): the forced cells as the released guide's own fill.sh prints them over the translation 5774de54019bab04… (all of the seat's roots in one cut). By AI agents, Wed Nov 11 2026. No macro, syntax, notation, axiom, sorry.
-/
import Derived.Test.YtkpomccbohjjpaaChecked
import GoSem.Claim
import GoSem.ClaimJoined
import GoSem.ClaimMapViews
import Derived.JoinedTies
import Derived.KernelRfl
namespace Go.Proofs.Ytkpomccbohjjpaa
/- THE CELL 'sum', in the pinned program and in every row, IS THE sha256 OF THE DUMP (.gsa) THAT YtkpomccbohjjpaaProg.lean LOADS. Nothing in Lean hashes anything: it is a label: what it is worth is what the hold of that sum in a sandbox is worth. -/
noncomputable def Try.pinned : Pinned := { name := "ytkpomccbohjjpaa", sum := "5774de54019bab04d12cd2dc46fa9e790c5c1cc9140c97322e4c94f35d51395b", checked := Try.checked }
namespace Rows
def none {H : Type} : Left H := { results := [], args := [] }

/-- 'assizelaw06.LitsNormal': WHATEVER THE INPUT: true; the input reads as it did. -/
def litsNormalSpec : ChangeSpec := { name := "litsNormal", fn := fun _ => fun
  | [d] => { results := [.lit (.bool true)], args := [d] }
  | _ => none }
def litsNormalRow : OpenClaim := { program := "ytkpomccbohjjpaa", sum := "5774de54019bab04d12cd2dc46fa9e790c5c1cc9140c97322e4c94f35d51395b", func := "assize/assizelaw06.LitsNormal", spec := "litsNormal", unfollowed := true, recurses := true, loops := true, apart := false }
def LitsNormalSaid : Prop := litsNormalRow.holds Try.pinned (OpenSpec.ofChange litsNormalSpec)

/-- ITS FALSE NEIGHBOUR: 'it returns false'. Refute it at one input. -/
def litsNormalWrong : ChangeSpec := { name := "litsNormal", fn := fun _ => fun
  | [d] => { results := [.lit (.bool false)], args := [d] }
  | _ => none }
def LitsNormalWrongFalsely : Prop := litsNormalRow.holds Try.pinned (OpenSpec.ofChange litsNormalWrong)

/-- 'assizelaw06.LitsMeans': WHATEVER THE INPUT: true; the input reads as it did. -/
def litsMeansSpec : ChangeSpec := { name := "litsMeans", fn := fun _ => fun
  | [d1, d2] => { results := [.lit (.bool true)], args := [d1, d2] }
  | _ => none }
def litsMeansRow : OpenClaim := { program := "ytkpomccbohjjpaa", sum := "5774de54019bab04d12cd2dc46fa9e790c5c1cc9140c97322e4c94f35d51395b", func := "assize/assizelaw06.LitsMeans", spec := "litsMeans", unfollowed := true, recurses := true, loops := true, apart := false }
def LitsMeansSaid : Prop := litsMeansRow.holds Try.pinned (OpenSpec.ofChange litsMeansSpec)

/-- ITS FALSE NEIGHBOUR: 'it returns false'. Refute it at one input. -/
def litsMeansWrong : ChangeSpec := { name := "litsMeans", fn := fun _ => fun
  | [d1, d2] => { results := [.lit (.bool false)], args := [d1, d2] }
  | _ => none }
def LitsMeansWrongFalsely : Prop := litsMeansRow.holds Try.pinned (OpenSpec.ofChange litsMeansWrong)

/-- 'assizelaw06.LitsOrder': WHATEVER THE INPUT: true; the input reads as it did. -/
def litsOrderSpec : ChangeSpec := { name := "litsOrder", fn := fun _ => fun
  | [d1, d2, d3] => { results := [.lit (.bool true)], args := [d1, d2, d3] }
  | _ => none }
def litsOrderRow : OpenClaim := { program := "ytkpomccbohjjpaa", sum := "5774de54019bab04d12cd2dc46fa9e790c5c1cc9140c97322e4c94f35d51395b", func := "assize/assizelaw06.LitsOrder", spec := "litsOrder", unfollowed := true, recurses := true, loops := true, apart := false }
def LitsOrderSaid : Prop := litsOrderRow.holds Try.pinned (OpenSpec.ofChange litsOrderSpec)

/-- ITS FALSE NEIGHBOUR: 'it returns false'. Refute it at one input. -/
def litsOrderWrong : ChangeSpec := { name := "litsOrder", fn := fun _ => fun
  | [d1, d2, d3] => { results := [.lit (.bool false)], args := [d1, d2, d3] }
  | _ => none }
def LitsOrderWrongFalsely : Prop := litsOrderRow.holds Try.pinned (OpenSpec.ofChange litsOrderWrong)

/-- 'assizelaw06.LitsTwice': WHATEVER THE INPUT: true; the input reads as it did. -/
def litsTwiceSpec : ChangeSpec := { name := "litsTwice", fn := fun _ => fun
  | [d1, d2] => { results := [.lit (.bool true)], args := [d1, d2] }
  | _ => none }
def litsTwiceRow : OpenClaim := { program := "ytkpomccbohjjpaa", sum := "5774de54019bab04d12cd2dc46fa9e790c5c1cc9140c97322e4c94f35d51395b", func := "assize/assizelaw06.LitsTwice", spec := "litsTwice", unfollowed := true, recurses := true, loops := true, apart := false }
def LitsTwiceSaid : Prop := litsTwiceRow.holds Try.pinned (OpenSpec.ofChange litsTwiceSpec)

/-- ITS FALSE NEIGHBOUR: 'it returns false'. Refute it at one input. -/
def litsTwiceWrong : ChangeSpec := { name := "litsTwice", fn := fun _ => fun
  | [d1, d2] => { results := [.lit (.bool false)], args := [d1, d2] }
  | _ => none }
def LitsTwiceWrongFalsely : Prop := litsTwiceRow.holds Try.pinned (OpenSpec.ofChange litsTwiceWrong)

/- THE SECOND FORM. 'bulk': how many values and letters a reading holds, each counted each time it is reached (what is shared counts as often as it is met; a slice's spare places count too). A statement '..UptoSaid' is the law's where the arguments, and the package variables that the reading takes, are together of bulk at most 1048576: NARROWER than '..Said'. Prove '..Said' where nothing that the law and all that it calls make is longer than what came in: it says more and counts as full. Else prove '..UptoSaid'. A law counts once. -/
mutual
def uptoBulk {H : Type} : DataW H → Nat
  | .lit (.string bytes) => bytes.length + 1
  | .lit _ => 1
  | .nil => 1
  | .ptr d => uptoBulk d + 1
  | .slice elems spare => uptoBulkAll elems + uptoBulkAll spare + 1
  | .agg parts => uptoBulkAll parts + 1
  | .iface _ d => uptoBulk d + 1
  | .map entries => uptoBulkEntries entries + 1
  | .held _ => 1
def uptoBulkAll {H : Type} : List (DataW H) → Nat
  | [] => 0
  | d :: r => uptoBulk d + uptoBulkAll r
def uptoBulkEntries {H : Type} : List (Lit × DataW H) → Nat
  | [] => 0
  | x :: r => uptoBulkEntry x + uptoBulkEntries r
def uptoBulkEntry {H : Type} : Lit × DataW H → Nat
  | (.string bytes, d) => bytes.length + uptoBulk d + 1
  | (_, d) => uptoBulk d + 1
 end
def uptoSmall : (H : Type) → List (DataW H) → Bool := fun _ ds => decide (uptoBulkAll ds ≤ 1048576)
def OpenSpec.upto (s : _root_.Go.ChangeSpec) : _root_.Go.OpenSpec := { _root_.Go.OpenSpec.ofChange s with cond := some uptoSmall }

/-- 'assizelaw06.LitsNormal', WHERE WHAT IT READS IS OF BULK AT MOST 1048576: true; the input reads as it did. -/
def litsNormalUptoRow : OpenClaim := { program := "ytkpomccbohjjpaa", sum := "5774de54019bab04d12cd2dc46fa9e790c5c1cc9140c97322e4c94f35d51395b", func := "assize/assizelaw06.LitsNormal", spec := "litsNormal", unfollowed := true, recurses := true, loops := true, apart := false, narrowed := true }
def LitsNormalUptoSaid : Prop := litsNormalUptoRow.holds Try.pinned (OpenSpec.upto litsNormalSpec)

/-- 'assizelaw06.LitsMeans', WHERE WHAT IT READS IS OF BULK AT MOST 1048576: true; the input reads as it did. -/
def litsMeansUptoRow : OpenClaim := { program := "ytkpomccbohjjpaa", sum := "5774de54019bab04d12cd2dc46fa9e790c5c1cc9140c97322e4c94f35d51395b", func := "assize/assizelaw06.LitsMeans", spec := "litsMeans", unfollowed := true, recurses := true, loops := true, apart := false, narrowed := true }
def LitsMeansUptoSaid : Prop := litsMeansUptoRow.holds Try.pinned (OpenSpec.upto litsMeansSpec)

/-- 'assizelaw06.LitsOrder', WHERE WHAT IT READS IS OF BULK AT MOST 1048576: true; the input reads as it did. -/
def litsOrderUptoRow : OpenClaim := { program := "ytkpomccbohjjpaa", sum := "5774de54019bab04d12cd2dc46fa9e790c5c1cc9140c97322e4c94f35d51395b", func := "assize/assizelaw06.LitsOrder", spec := "litsOrder", unfollowed := true, recurses := true, loops := true, apart := false, narrowed := true }
def LitsOrderUptoSaid : Prop := litsOrderUptoRow.holds Try.pinned (OpenSpec.upto litsOrderSpec)

/-- 'assizelaw06.LitsTwice', WHERE WHAT IT READS IS OF BULK AT MOST 1048576: true; the input reads as it did. -/
def litsTwiceUptoRow : OpenClaim := { program := "ytkpomccbohjjpaa", sum := "5774de54019bab04d12cd2dc46fa9e790c5c1cc9140c97322e4c94f35d51395b", func := "assize/assizelaw06.LitsTwice", spec := "litsTwice", unfollowed := true, recurses := true, loops := true, apart := false, narrowed := true }
def LitsTwiceUptoSaid : Prop := litsTwiceUptoRow.holds Try.pinned (OpenSpec.upto litsTwiceSpec)

end Rows
end Go.Proofs.Ytkpomccbohjjpaa

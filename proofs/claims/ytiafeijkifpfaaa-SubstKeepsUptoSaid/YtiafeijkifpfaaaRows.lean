/-
  NARROWER THAN 'FOR EVERY INPUT', by the rows' own cells (each row's printed sentence says how): TermBanks: loops · TermOnce: loops · TermOrder: loops · TermOrders: loops · SubstApplies: loops · SubstComposes: loops · SubstBehind: loops · SubstSame: loops · SubstKeeps: loops.
  DERIVED. THE GIVEN ROWS OF THIS SEAT. 9 by the template 'for every input the law returns true; each argument reads behind the call as it read before'; 0 by the template 'total and deterministic' (their statements: YtiafeijkifpfaaaTotals.lean).
  GIVEN WITH THE SEED: the statements are not yours to turn. If you find one false, say at which input.
  Laid BY PROGRAM, IN A SANDBOX (cutbox-rows.mjs): the forced cells as the released guide's own fill.sh prints them over the translation d06041a3a52244cc… (all of the seat's roots in one cut). By AI agents, Wed Nov 11 2026. No macro, syntax, notation, axiom, sorry.
-/
import Derived.Test.YtiafeijkifpfaaaChecked
import GoSem.Claim
import GoSem.ClaimJoined
import GoSem.ClaimMapViews
import Derived.JoinedTies
import Derived.KernelRfl
namespace Go.Proofs.Ytiafeijkifpfaaa
/- THE CELL 'sum', in the pinned program and in every row, IS THE sha256 OF THE DUMP (.gsa) THAT YtiafeijkifpfaaaProg.lean LOADS. Nothing in Lean hashes anything: it is a label: what it is worth is what the hold of that sum in a sandbox is worth. -/
noncomputable def Try.pinned : Pinned := { name := "ytiafeijkifpfaaa", sum := "d06041a3a52244cca7c7beeb2ac2cb0e73fe46500d237c651867c8dc362fca7a", checked := Try.checked }
namespace Rows
def none {H : Type} : Left H := { results := [], args := [] }

/-- 'assizelaw03.TermBanks': WHATEVER THE INPUT: true; the input reads as it did. -/
def termBanksSpec : ChangeSpec := { name := "termBanks", fn := fun _ => fun
  | [d1, d2] => { results := [.lit (.bool true)], args := [d1, d2] }
  | _ => none }
def termBanksRow : OpenClaim := { program := "ytiafeijkifpfaaa", sum := "d06041a3a52244cca7c7beeb2ac2cb0e73fe46500d237c651867c8dc362fca7a", func := "assize/assizelaw03.TermBanks", spec := "termBanks", unfollowed := true, recurses := true, loops := true, plainKeys := false, apart := false }
def TermBanksSaid : Prop := termBanksRow.holds Try.pinned (OpenSpec.ofChange termBanksSpec)

/-- ITS FALSE NEIGHBOUR: 'it returns false'. Refute it at one input. -/
def termBanksWrong : ChangeSpec := { name := "termBanks", fn := fun _ => fun
  | [d1, d2] => { results := [.lit (.bool false)], args := [d1, d2] }
  | _ => none }
def TermBanksWrongFalsely : Prop := termBanksRow.holds Try.pinned (OpenSpec.ofChange termBanksWrong)

/-- 'assizelaw03.TermOnce': WHATEVER THE INPUT: true; the input reads as it did. -/
def termOnceSpec : ChangeSpec := { name := "termOnce", fn := fun _ => fun
  | [d] => { results := [.lit (.bool true)], args := [d] }
  | _ => none }
def termOnceRow : OpenClaim := { program := "ytiafeijkifpfaaa", sum := "d06041a3a52244cca7c7beeb2ac2cb0e73fe46500d237c651867c8dc362fca7a", func := "assize/assizelaw03.TermOnce", spec := "termOnce", unfollowed := true, recurses := true, loops := true, plainKeys := false, apart := false }
def TermOnceSaid : Prop := termOnceRow.holds Try.pinned (OpenSpec.ofChange termOnceSpec)

/-- ITS FALSE NEIGHBOUR: 'it returns false'. Refute it at one input. -/
def termOnceWrong : ChangeSpec := { name := "termOnce", fn := fun _ => fun
  | [d] => { results := [.lit (.bool false)], args := [d] }
  | _ => none }
def TermOnceWrongFalsely : Prop := termOnceRow.holds Try.pinned (OpenSpec.ofChange termOnceWrong)

/-- 'assizelaw03.TermOrder': WHATEVER THE INPUT: true; the input reads as it did. -/
def termOrderSpec : ChangeSpec := { name := "termOrder", fn := fun _ => fun
  | [d1, d2] => { results := [.lit (.bool true)], args := [d1, d2] }
  | _ => none }
def termOrderRow : OpenClaim := { program := "ytiafeijkifpfaaa", sum := "d06041a3a52244cca7c7beeb2ac2cb0e73fe46500d237c651867c8dc362fca7a", func := "assize/assizelaw03.TermOrder", spec := "termOrder", unfollowed := true, recurses := true, loops := true, plainKeys := false, apart := false }
def TermOrderSaid : Prop := termOrderRow.holds Try.pinned (OpenSpec.ofChange termOrderSpec)

/-- ITS FALSE NEIGHBOUR: 'it returns false'. Refute it at one input. -/
def termOrderWrong : ChangeSpec := { name := "termOrder", fn := fun _ => fun
  | [d1, d2] => { results := [.lit (.bool false)], args := [d1, d2] }
  | _ => none }
def TermOrderWrongFalsely : Prop := termOrderRow.holds Try.pinned (OpenSpec.ofChange termOrderWrong)

/-- 'assizelaw03.TermOrders': WHATEVER THE INPUT: true; the input reads as it did. -/
def termOrdersSpec : ChangeSpec := { name := "termOrders", fn := fun _ => fun
  | [d1, d2, d3] => { results := [.lit (.bool true)], args := [d1, d2, d3] }
  | _ => none }
def termOrdersRow : OpenClaim := { program := "ytiafeijkifpfaaa", sum := "d06041a3a52244cca7c7beeb2ac2cb0e73fe46500d237c651867c8dc362fca7a", func := "assize/assizelaw03.TermOrders", spec := "termOrders", unfollowed := true, recurses := true, loops := true, plainKeys := false, apart := false }
def TermOrdersSaid : Prop := termOrdersRow.holds Try.pinned (OpenSpec.ofChange termOrdersSpec)

/-- ITS FALSE NEIGHBOUR: 'it returns false'. Refute it at one input. -/
def termOrdersWrong : ChangeSpec := { name := "termOrders", fn := fun _ => fun
  | [d1, d2, d3] => { results := [.lit (.bool false)], args := [d1, d2, d3] }
  | _ => none }
def TermOrdersWrongFalsely : Prop := termOrdersRow.holds Try.pinned (OpenSpec.ofChange termOrdersWrong)

/-- 'assizelaw04.SubstApplies': WHATEVER THE INPUT: true; the input reads as it did. -/
def substAppliesSpec : ChangeSpec := { name := "substApplies", fn := fun _ => fun
  | [d1, d2] => { results := [.lit (.bool true)], args := [d1, d2] }
  | _ => none }
def substAppliesRow : OpenClaim := { program := "ytiafeijkifpfaaa", sum := "d06041a3a52244cca7c7beeb2ac2cb0e73fe46500d237c651867c8dc362fca7a", func := "assize/assizelaw04.SubstApplies", spec := "substApplies", inPlace := ["slices.overlaps[assize/api.Bind]"], unfollowed := true, recurses := true, loops := true, plainKeys := false, apart := false }
def SubstAppliesSaid : Prop := substAppliesRow.holds Try.pinned (OpenSpec.ofChange substAppliesSpec)

/-- ITS FALSE NEIGHBOUR: 'it returns false'. Refute it at one input. -/
def substAppliesWrong : ChangeSpec := { name := "substApplies", fn := fun _ => fun
  | [d1, d2] => { results := [.lit (.bool false)], args := [d1, d2] }
  | _ => none }
def SubstAppliesWrongFalsely : Prop := substAppliesRow.holds Try.pinned (OpenSpec.ofChange substAppliesWrong)

/-- 'assizelaw04.SubstComposes': WHATEVER THE INPUT: true; the input reads as it did. -/
def substComposesSpec : ChangeSpec := { name := "substComposes", fn := fun _ => fun
  | [d1, d2] => { results := [.lit (.bool true)], args := [d1, d2] }
  | _ => none }
def substComposesRow : OpenClaim := { program := "ytiafeijkifpfaaa", sum := "d06041a3a52244cca7c7beeb2ac2cb0e73fe46500d237c651867c8dc362fca7a", func := "assize/assizelaw04.SubstComposes", spec := "substComposes", inPlace := ["slices.overlaps[assize/api.Bind]"], unfollowed := true, recurses := true, loops := true, plainKeys := false, apart := false }
def SubstComposesSaid : Prop := substComposesRow.holds Try.pinned (OpenSpec.ofChange substComposesSpec)

/-- ITS FALSE NEIGHBOUR: 'it returns false'. Refute it at one input. -/
def substComposesWrong : ChangeSpec := { name := "substComposes", fn := fun _ => fun
  | [d1, d2] => { results := [.lit (.bool false)], args := [d1, d2] }
  | _ => none }
def SubstComposesWrongFalsely : Prop := substComposesRow.holds Try.pinned (OpenSpec.ofChange substComposesWrong)

/-- 'assizelaw04.SubstBehind': WHATEVER THE INPUT: true; the input reads as it did. -/
def substBehindSpec : ChangeSpec := { name := "substBehind", fn := fun _ => fun
  | [d1, d2, d3] => { results := [.lit (.bool true)], args := [d1, d2, d3] }
  | _ => none }
def substBehindRow : OpenClaim := { program := "ytiafeijkifpfaaa", sum := "d06041a3a52244cca7c7beeb2ac2cb0e73fe46500d237c651867c8dc362fca7a", func := "assize/assizelaw04.SubstBehind", spec := "substBehind", inPlace := ["slices.overlaps[assize/api.Bind]"], unfollowed := true, recurses := true, loops := true, plainKeys := false, apart := false }
def SubstBehindSaid : Prop := substBehindRow.holds Try.pinned (OpenSpec.ofChange substBehindSpec)

/-- ITS FALSE NEIGHBOUR: 'it returns false'. Refute it at one input. -/
def substBehindWrong : ChangeSpec := { name := "substBehind", fn := fun _ => fun
  | [d1, d2, d3] => { results := [.lit (.bool false)], args := [d1, d2, d3] }
  | _ => none }
def SubstBehindWrongFalsely : Prop := substBehindRow.holds Try.pinned (OpenSpec.ofChange substBehindWrong)

/-- 'assizelaw04.SubstSame': WHATEVER THE INPUT: true; the input reads as it did. -/
def substSameSpec : ChangeSpec := { name := "substSame", fn := fun _ => fun
  | [d1, d2] => { results := [.lit (.bool true)], args := [d1, d2] }
  | _ => none }
def substSameRow : OpenClaim := { program := "ytiafeijkifpfaaa", sum := "d06041a3a52244cca7c7beeb2ac2cb0e73fe46500d237c651867c8dc362fca7a", func := "assize/assizelaw04.SubstSame", spec := "substSame", inPlace := ["slices.overlaps[assize/api.Bind]"], unfollowed := true, recurses := true, loops := true, plainKeys := false, apart := false }
def SubstSameSaid : Prop := substSameRow.holds Try.pinned (OpenSpec.ofChange substSameSpec)

/-- ITS FALSE NEIGHBOUR: 'it returns false'. Refute it at one input. -/
def substSameWrong : ChangeSpec := { name := "substSame", fn := fun _ => fun
  | [d1, d2] => { results := [.lit (.bool false)], args := [d1, d2] }
  | _ => none }
def SubstSameWrongFalsely : Prop := substSameRow.holds Try.pinned (OpenSpec.ofChange substSameWrong)

/-- 'assizelaw04.SubstKeeps': WHATEVER THE INPUT: true; the input reads as it did. -/
def substKeepsSpec : ChangeSpec := { name := "substKeeps", fn := fun _ => fun
  | [d1, d2, d3] => { results := [.lit (.bool true)], args := [d1, d2, d3] }
  | _ => none }
def substKeepsRow : OpenClaim := { program := "ytiafeijkifpfaaa", sum := "d06041a3a52244cca7c7beeb2ac2cb0e73fe46500d237c651867c8dc362fca7a", func := "assize/assizelaw04.SubstKeeps", spec := "substKeeps", inPlace := ["slices.overlaps[assize/api.Bind]"], unfollowed := true, recurses := true, loops := true, plainKeys := false, apart := false }
def SubstKeepsSaid : Prop := substKeepsRow.holds Try.pinned (OpenSpec.ofChange substKeepsSpec)

/-- ITS FALSE NEIGHBOUR: 'it returns false'. Refute it at one input. -/
def substKeepsWrong : ChangeSpec := { name := "substKeeps", fn := fun _ => fun
  | [d1, d2, d3] => { results := [.lit (.bool false)], args := [d1, d2, d3] }
  | _ => none }
def SubstKeepsWrongFalsely : Prop := substKeepsRow.holds Try.pinned (OpenSpec.ofChange substKeepsWrong)

/- THE SECOND FORM. 'bulk': how many values and letters a reading holds, each counted each time it is reached (what is shared counts as often as it is met; a slice's spare places count too). A statement '..UptoSaid' is the law's where the arguments, and the package variables that the reading takes, are together of bulk at most 1048576: NARROWER than '..Said'. Prove '..Said' where nothing that the law and all that it calls make is longer than what came in: it says more and counts as full. Else prove '..UptoSaid'. A law counts once. -/
mutual
def uptoBulk {H : Type} : DataW H → Nat
  | .lit (.string bytes) => bytes.length + 1
  | .lit _ => 1
  | .nil => 1
  | .ptr d => uptoBulk d + 1
  | .slice elems spare => uptoBulkAll elems + uptoBulkAll spare + 1
  | .agg parts => uptoBulkAll parts + 1
  | .iface _ d => uptoBulk d + 1
  | .map entries => uptoBulkEntries entries + 1
  | .held _ => 1
def uptoBulkAll {H : Type} : List (DataW H) → Nat
  | [] => 0
  | d :: r => uptoBulk d + uptoBulkAll r
def uptoBulkEntries {H : Type} : List (Lit × DataW H) → Nat
  | [] => 0
  | x :: r => uptoBulkEntry x + uptoBulkEntries r
def uptoBulkEntry {H : Type} : Lit × DataW H → Nat
  | (.string bytes, d) => bytes.length + uptoBulk d + 1
  | (_, d) => uptoBulk d + 1
 end
def uptoSmall : (H : Type) → List (DataW H) → Bool := fun _ ds => decide (uptoBulkAll ds ≤ 1048576)
def OpenSpec.upto (s : _root_.Go.ChangeSpec) : _root_.Go.OpenSpec := { _root_.Go.OpenSpec.ofChange s with cond := some uptoSmall }

/-- 'assizelaw03.TermBanks', WHERE WHAT IT READS IS OF BULK AT MOST 1048576: true; the input reads as it did. -/
def termBanksUptoRow : OpenClaim := { program := "ytiafeijkifpfaaa", sum := "d06041a3a52244cca7c7beeb2ac2cb0e73fe46500d237c651867c8dc362fca7a", func := "assize/assizelaw03.TermBanks", spec := "termBanks", unfollowed := true, recurses := true, loops := true, plainKeys := false, apart := false, narrowed := true }
def TermBanksUptoSaid : Prop := termBanksUptoRow.holds Try.pinned (OpenSpec.upto termBanksSpec)

/-- 'assizelaw03.TermOnce', WHERE WHAT IT READS IS OF BULK AT MOST 1048576: true; the input reads as it did. -/
def termOnceUptoRow : OpenClaim := { program := "ytiafeijkifpfaaa", sum := "d06041a3a52244cca7c7beeb2ac2cb0e73fe46500d237c651867c8dc362fca7a", func := "assize/assizelaw03.TermOnce", spec := "termOnce", unfollowed := true, recurses := true, loops := true, plainKeys := false, apart := false, narrowed := true }
def TermOnceUptoSaid : Prop := termOnceUptoRow.holds Try.pinned (OpenSpec.upto termOnceSpec)

/-- 'assizelaw03.TermOrder', WHERE WHAT IT READS IS OF BULK AT MOST 1048576: true; the input reads as it did. -/
def termOrderUptoRow : OpenClaim := { program := "ytiafeijkifpfaaa", sum := "d06041a3a52244cca7c7beeb2ac2cb0e73fe46500d237c651867c8dc362fca7a", func := "assize/assizelaw03.TermOrder", spec := "termOrder", unfollowed := true, recurses := true, loops := true, plainKeys := false, apart := false, narrowed := true }
def TermOrderUptoSaid : Prop := termOrderUptoRow.holds Try.pinned (OpenSpec.upto termOrderSpec)

/-- 'assizelaw03.TermOrders', WHERE WHAT IT READS IS OF BULK AT MOST 1048576: true; the input reads as it did. -/
def termOrdersUptoRow : OpenClaim := { program := "ytiafeijkifpfaaa", sum := "d06041a3a52244cca7c7beeb2ac2cb0e73fe46500d237c651867c8dc362fca7a", func := "assize/assizelaw03.TermOrders", spec := "termOrders", unfollowed := true, recurses := true, loops := true, plainKeys := false, apart := false, narrowed := true }
def TermOrdersUptoSaid : Prop := termOrdersUptoRow.holds Try.pinned (OpenSpec.upto termOrdersSpec)

/-- 'assizelaw04.SubstApplies', WHERE WHAT IT READS IS OF BULK AT MOST 1048576: true; the input reads as it did. -/
def substAppliesUptoRow : OpenClaim := { program := "ytiafeijkifpfaaa", sum := "d06041a3a52244cca7c7beeb2ac2cb0e73fe46500d237c651867c8dc362fca7a", func := "assize/assizelaw04.SubstApplies", spec := "substApplies", inPlace := ["slices.overlaps[assize/api.Bind]"], unfollowed := true, recurses := true, loops := true, plainKeys := false, apart := false, narrowed := true }
def SubstAppliesUptoSaid : Prop := substAppliesUptoRow.holds Try.pinned (OpenSpec.upto substAppliesSpec)

/-- 'assizelaw04.SubstComposes', WHERE WHAT IT READS IS OF BULK AT MOST 1048576: true; the input reads as it did. -/
def substComposesUptoRow : OpenClaim := { program := "ytiafeijkifpfaaa", sum := "d06041a3a52244cca7c7beeb2ac2cb0e73fe46500d237c651867c8dc362fca7a", func := "assize/assizelaw04.SubstComposes", spec := "substComposes", inPlace := ["slices.overlaps[assize/api.Bind]"], unfollowed := true, recurses := true, loops := true, plainKeys := false, apart := false, narrowed := true }
def SubstComposesUptoSaid : Prop := substComposesUptoRow.holds Try.pinned (OpenSpec.upto substComposesSpec)

/-- 'assizelaw04.SubstBehind', WHERE WHAT IT READS IS OF BULK AT MOST 1048576: true; the input reads as it did. -/
def substBehindUptoRow : OpenClaim := { program := "ytiafeijkifpfaaa", sum := "d06041a3a52244cca7c7beeb2ac2cb0e73fe46500d237c651867c8dc362fca7a", func := "assize/assizelaw04.SubstBehind", spec := "substBehind", inPlace := ["slices.overlaps[assize/api.Bind]"], unfollowed := true, recurses := true, loops := true, plainKeys := false, apart := false, narrowed := true }
def SubstBehindUptoSaid : Prop := substBehindUptoRow.holds Try.pinned (OpenSpec.upto substBehindSpec)

/-- 'assizelaw04.SubstSame', WHERE WHAT IT READS IS OF BULK AT MOST 1048576: true; the input reads as it did. -/
def substSameUptoRow : OpenClaim := { program := "ytiafeijkifpfaaa", sum := "d06041a3a52244cca7c7beeb2ac2cb0e73fe46500d237c651867c8dc362fca7a", func := "assize/assizelaw04.SubstSame", spec := "substSame", inPlace := ["slices.overlaps[assize/api.Bind]"], unfollowed := true, recurses := true, loops := true, plainKeys := false, apart := false, narrowed := true }
def SubstSameUptoSaid : Prop := substSameUptoRow.holds Try.pinned (OpenSpec.upto substSameSpec)

/-- 'assizelaw04.SubstKeeps', WHERE WHAT IT READS IS OF BULK AT MOST 1048576: true; the input reads as it did. -/
def substKeepsUptoRow : OpenClaim := { program := "ytiafeijkifpfaaa", sum := "d06041a3a52244cca7c7beeb2ac2cb0e73fe46500d237c651867c8dc362fca7a", func := "assize/assizelaw04.SubstKeeps", spec := "substKeeps", inPlace := ["slices.overlaps[assize/api.Bind]"], unfollowed := true, recurses := true, loops := true, plainKeys := false, apart := false, narrowed := true }
def SubstKeepsUptoSaid : Prop := substKeepsUptoRow.holds Try.pinned (OpenSpec.upto substKeepsSpec)

end Rows
end Go.Proofs.Ytiafeijkifpfaaa

/-
  NARROWER THAN 'FOR EVERY INPUT', by the rows' own cells (each row's printed sentence says how): LpoCompares: loops · LpoThrough: loops · LpoKeeps: loops · LpoParts: loops · KboCompares: loops · KboThrough: loops · KboKeeps: loops · KboParts: loops.
  DERIVED. THE GIVEN ROWS OF THIS SEAT. 10 by the template 'for every input the law returns true; each argument reads behind the call as it read before'; 0 by the template 'total and deterministic' (their statements: YtfcedichoigbbaaTotals.lean).
  GIVEN WITH THE SEED: the statements are not yours to turn. If you find one false, say at which input.
  Laid BY PROGRAM, IN A SANDBOX (cutbox-rows.mjs): the forced cells as the released guide's own fill.sh prints them over the translation d7b6d003416fb4c5… (all of the seat's roots in one cut). By AI agents, Wed Nov 11 2026. No macro, syntax, notation, axiom, sorry.
-/
import Derived.Test.YtfcedichoigbbaaChecked
import GoSem.Claim
import GoSem.ClaimJoined
import GoSem.ClaimMapViews
import Derived.JoinedTies
import Derived.KernelRfl
namespace Go.Proofs.Ytfcedichoigbbaa
/- THE CELL 'sum', in the pinned program and in every row, IS THE sha256 OF THE DUMP (.gsa) THAT YtfcedichoigbbaaProg.lean LOADS. Nothing in Lean hashes anything: it is a label: what it is worth is what the hold of that sum in a sandbox is worth. -/
noncomputable def Try.pinned : Pinned := { name := "ytfcedichoigbbaa", sum := "d7b6d003416fb4c5bef9e71516f4c659a51a07a9343974e3337224b8bff76492", checked := Try.checked }
namespace Rows
def none {H : Type} : Left H := { results := [], args := [] }

/-- 'assizelaw08.LpoCompares': WHATEVER THE INPUT: true; the input reads as it did. -/
def lpoComparesSpec : ChangeSpec := { name := "lpoCompares", fn := fun _ => fun
  | [d1, d2, d3] => { results := [.lit (.bool true)], args := [d1, d2, d3] }
  | _ => none }
def lpoComparesRow : OpenClaim := { program := "ytfcedichoigbbaa", sum := "d7b6d003416fb4c5bef9e71516f4c659a51a07a9343974e3337224b8bff76492", func := "assize/assizelaw08.LpoCompares", spec := "lpoCompares", unfollowed := true, recurses := true, loops := true, plainKeys := false, apart := false }
def LpoComparesSaid : Prop := lpoComparesRow.holds Try.pinned (OpenSpec.ofChange lpoComparesSpec)

/-- ITS FALSE NEIGHBOUR: 'it returns false'. Refute it at one input. -/
def lpoComparesWrong : ChangeSpec := { name := "lpoCompares", fn := fun _ => fun
  | [d1, d2, d3] => { results := [.lit (.bool false)], args := [d1, d2, d3] }
  | _ => none }
def LpoComparesWrongFalsely : Prop := lpoComparesRow.holds Try.pinned (OpenSpec.ofChange lpoComparesWrong)

/-- 'assizelaw08.LpoThrough': WHATEVER THE INPUT: true; the input reads as it did. -/
def lpoThroughSpec : ChangeSpec := { name := "lpoThrough", fn := fun _ => fun
  | [d1, d2, d3, d4] => { results := [.lit (.bool true)], args := [d1, d2, d3, d4] }
  | _ => none }
def lpoThroughRow : OpenClaim := { program := "ytfcedichoigbbaa", sum := "d7b6d003416fb4c5bef9e71516f4c659a51a07a9343974e3337224b8bff76492", func := "assize/assizelaw08.LpoThrough", spec := "lpoThrough", unfollowed := true, recurses := true, loops := true, plainKeys := false, apart := false }
def LpoThroughSaid : Prop := lpoThroughRow.holds Try.pinned (OpenSpec.ofChange lpoThroughSpec)

/-- ITS FALSE NEIGHBOUR: 'it returns false'. Refute it at one input. -/
def lpoThroughWrong : ChangeSpec := { name := "lpoThrough", fn := fun _ => fun
  | [d1, d2, d3, d4] => { results := [.lit (.bool false)], args := [d1, d2, d3, d4] }
  | _ => none }
def LpoThroughWrongFalsely : Prop := lpoThroughRow.holds Try.pinned (OpenSpec.ofChange lpoThroughWrong)

/-- 'assizelaw08.LpoKeeps': WHATEVER THE INPUT: true; the input reads as it did. -/
def lpoKeepsSpec : ChangeSpec := { name := "lpoKeeps", fn := fun _ => fun
  | [d1, d2, d3, d4] => { results := [.lit (.bool true)], args := [d1, d2, d3, d4] }
  | _ => none }
def lpoKeepsRow : OpenClaim := { program := "ytfcedichoigbbaa", sum := "d7b6d003416fb4c5bef9e71516f4c659a51a07a9343974e3337224b8bff76492", func := "assize/assizelaw08.LpoKeeps", spec := "lpoKeeps", unfollowed := true, recurses := true, loops := true, plainKeys := false, apart := false }
def LpoKeepsSaid : Prop := lpoKeepsRow.holds Try.pinned (OpenSpec.ofChange lpoKeepsSpec)

/-- ITS FALSE NEIGHBOUR: 'it returns false'. Refute it at one input. -/
def lpoKeepsWrong : ChangeSpec := { name := "lpoKeeps", fn := fun _ => fun
  | [d1, d2, d3, d4] => { results := [.lit (.bool false)], args := [d1, d2, d3, d4] }
  | _ => none }
def LpoKeepsWrongFalsely : Prop := lpoKeepsRow.holds Try.pinned (OpenSpec.ofChange lpoKeepsWrong)

/-- 'assizelaw08.LpoParts': WHATEVER THE INPUT: true; the input reads as it did. -/
def lpoPartsSpec : ChangeSpec := { name := "lpoParts", fn := fun _ => fun
  | [d1, d2, d3, d4] => { results := [.lit (.bool true)], args := [d1, d2, d3, d4] }
  | _ => none }
def lpoPartsRow : OpenClaim := { program := "ytfcedichoigbbaa", sum := "d7b6d003416fb4c5bef9e71516f4c659a51a07a9343974e3337224b8bff76492", func := "assize/assizelaw08.LpoParts", spec := "lpoParts", unfollowed := true, recurses := true, loops := true, plainKeys := false, apart := false }
def LpoPartsSaid : Prop := lpoPartsRow.holds Try.pinned (OpenSpec.ofChange lpoPartsSpec)

/-- ITS FALSE NEIGHBOUR: 'it returns false'. Refute it at one input. -/
def lpoPartsWrong : ChangeSpec := { name := "lpoParts", fn := fun _ => fun
  | [d1, d2, d3, d4] => { results := [.lit (.bool false)], args := [d1, d2, d3, d4] }
  | _ => none }
def LpoPartsWrongFalsely : Prop := lpoPartsRow.holds Try.pinned (OpenSpec.ofChange lpoPartsWrong)

/-- 'assizelaw08.LpoSoon': WHATEVER THE INPUT: true; the input reads as it did. -/
def lpoSoonSpec : ChangeSpec := { name := "lpoSoon", fn := fun _ => fun
  | [d1, d2] => { results := [.lit (.bool true)], args := [d1, d2] }
  | _ => none }
def lpoSoonRow : OpenClaim := { program := "ytfcedichoigbbaa", sum := "d7b6d003416fb4c5bef9e71516f4c659a51a07a9343974e3337224b8bff76492", func := "assize/assizelaw08.LpoSoon", spec := "lpoSoon", unfollowed := true, recurses := true, plainKeys := false, apart := false }
def LpoSoonSaid : Prop := lpoSoonRow.holds Try.pinned (OpenSpec.ofChange lpoSoonSpec)

/-- ITS FALSE NEIGHBOUR: 'it returns false'. Refute it at one input. -/
def lpoSoonWrong : ChangeSpec := { name := "lpoSoon", fn := fun _ => fun
  | [d1, d2] => { results := [.lit (.bool false)], args := [d1, d2] }
  | _ => none }
def LpoSoonWrongFalsely : Prop := lpoSoonRow.holds Try.pinned (OpenSpec.ofChange lpoSoonWrong)

/-- 'assizelaw07.KboCompares': WHATEVER THE INPUT: true; the input reads as it did. -/
def kboComparesSpec : ChangeSpec := { name := "kboCompares", fn := fun _ => fun
  | [d1, d2, d3] => { results := [.lit (.bool true)], args := [d1, d2, d3] }
  | _ => none }
def kboComparesRow : OpenClaim := { program := "ytfcedichoigbbaa", sum := "d7b6d003416fb4c5bef9e71516f4c659a51a07a9343974e3337224b8bff76492", func := "assize/assizelaw07.KboCompares", spec := "kboCompares", unfollowed := true, recurses := true, loops := true, plainKeys := false, apart := false }
def KboComparesSaid : Prop := kboComparesRow.holds Try.pinned (OpenSpec.ofChange kboComparesSpec)

/-- ITS FALSE NEIGHBOUR: 'it returns false'. Refute it at one input. -/
def kboComparesWrong : ChangeSpec := { name := "kboCompares", fn := fun _ => fun
  | [d1, d2, d3] => { results := [.lit (.bool false)], args := [d1, d2, d3] }
  | _ => none }
def KboComparesWrongFalsely : Prop := kboComparesRow.holds Try.pinned (OpenSpec.ofChange kboComparesWrong)

/-- 'assizelaw07.KboNames': WHATEVER THE INPUT: true; the input reads as it did. -/
def kboNamesSpec : ChangeSpec := { name := "kboNames", fn := fun _ => fun
  | [d1, d2, d3] => { results := [.lit (.bool true)], args := [d1, d2, d3] }
  | _ => none }
def kboNamesRow : OpenClaim := { program := "ytfcedichoigbbaa", sum := "d7b6d003416fb4c5bef9e71516f4c659a51a07a9343974e3337224b8bff76492", func := "assize/assizelaw07.KboNames", spec := "kboNames", unfollowed := true, recurses := true, plainKeys := false, apart := false }
def KboNamesSaid : Prop := kboNamesRow.holds Try.pinned (OpenSpec.ofChange kboNamesSpec)

/-- ITS FALSE NEIGHBOUR: 'it returns false'. Refute it at one input. -/
def kboNamesWrong : ChangeSpec := { name := "kboNames", fn := fun _ => fun
  | [d1, d2, d3] => { results := [.lit (.bool false)], args := [d1, d2, d3] }
  | _ => none }
def KboNamesWrongFalsely : Prop := kboNamesRow.holds Try.pinned (OpenSpec.ofChange kboNamesWrong)

/-- 'assizelaw07.KboThrough': WHATEVER THE INPUT: true; the input reads as it did. -/
def kboThroughSpec : ChangeSpec := { name := "kboThrough", fn := fun _ => fun
  | [d1, d2, d3, d4] => { results := [.lit (.bool true)], args := [d1, d2, d3, d4] }
  | _ => none }
def kboThroughRow : OpenClaim := { program := "ytfcedichoigbbaa", sum := "d7b6d003416fb4c5bef9e71516f4c659a51a07a9343974e3337224b8bff76492", func := "assize/assizelaw07.KboThrough", spec := "kboThrough", unfollowed := true, recurses := true, loops := true, plainKeys := false, apart := false }
def KboThroughSaid : Prop := kboThroughRow.holds Try.pinned (OpenSpec.ofChange kboThroughSpec)

/-- ITS FALSE NEIGHBOUR: 'it returns false'. Refute it at one input. -/
def kboThroughWrong : ChangeSpec := { name := "kboThrough", fn := fun _ => fun
  | [d1, d2, d3, d4] => { results := [.lit (.bool false)], args := [d1, d2, d3, d4] }
  | _ => none }
def KboThroughWrongFalsely : Prop := kboThroughRow.holds Try.pinned (OpenSpec.ofChange kboThroughWrong)

/-- 'assizelaw07.KboKeeps': WHATEVER THE INPUT: true; the input reads as it did. -/
def kboKeepsSpec : ChangeSpec := { name := "kboKeeps", fn := fun _ => fun
  | [d1, d2, d3, d4] => { results := [.lit (.bool true)], args := [d1, d2, d3, d4] }
  | _ => none }
def kboKeepsRow : OpenClaim := { program := "ytfcedichoigbbaa", sum := "d7b6d003416fb4c5bef9e71516f4c659a51a07a9343974e3337224b8bff76492", func := "assize/assizelaw07.KboKeeps", spec := "kboKeeps", unfollowed := true, recurses := true, loops := true, plainKeys := false, apart := false }
def KboKeepsSaid : Prop := kboKeepsRow.holds Try.pinned (OpenSpec.ofChange kboKeepsSpec)

/-- ITS FALSE NEIGHBOUR: 'it returns false'. Refute it at one input. -/
def kboKeepsWrong : ChangeSpec := { name := "kboKeeps", fn := fun _ => fun
  | [d1, d2, d3, d4] => { results := [.lit (.bool false)], args := [d1, d2, d3, d4] }
  | _ => none }
def KboKeepsWrongFalsely : Prop := kboKeepsRow.holds Try.pinned (OpenSpec.ofChange kboKeepsWrong)

/-- 'assizelaw07.KboParts': WHATEVER THE INPUT: true; the input reads as it did. -/
def kboPartsSpec : ChangeSpec := { name := "kboParts", fn := fun _ => fun
  | [d1, d2, d3, d4] => { results := [.lit (.bool true)], args := [d1, d2, d3, d4] }
  | _ => none }
def kboPartsRow : OpenClaim := { program := "ytfcedichoigbbaa", sum := "d7b6d003416fb4c5bef9e71516f4c659a51a07a9343974e3337224b8bff76492", func := "assize/assizelaw07.KboParts", spec := "kboParts", unfollowed := true, recurses := true, loops := true, plainKeys := false, apart := false }
def KboPartsSaid : Prop := kboPartsRow.holds Try.pinned (OpenSpec.ofChange kboPartsSpec)

/-- ITS FALSE NEIGHBOUR: 'it returns false'. Refute it at one input. -/
def kboPartsWrong : ChangeSpec := { name := "kboParts", fn := fun _ => fun
  | [d1, d2, d3, d4] => { results := [.lit (.bool false)], args := [d1, d2, d3, d4] }
  | _ => none }
def KboPartsWrongFalsely : Prop := kboPartsRow.holds Try.pinned (OpenSpec.ofChange kboPartsWrong)

/- THE SECOND FORM. 'bulk': how many values and letters a reading holds, each counted each time it is reached (what is shared counts as often as it is met; a slice's spare places count too). A statement '..UptoSaid' is the law's where the arguments, and the package variables that the reading takes, are together of bulk at most 1048576: NARROWER than '..Said'. Prove '..Said' where nothing that the law and all that it calls make is longer than what came in: it says more and counts as full. Else prove '..UptoSaid'. A law counts once. -/
mutual
def uptoBulk {H : Type} : DataW H → Nat
  | .lit (.string bytes) => bytes.length + 1
  | .lit _ => 1
  | .nil => 1
  | .ptr d => uptoBulk d + 1
  | .slice elems spare => uptoBulkAll elems + uptoBulkAll spare + 1
  | .agg parts => uptoBulkAll parts + 1
  | .iface _ d => uptoBulk d + 1
  | .map entries => uptoBulkEntries entries + 1
  | .held _ => 1
def uptoBulkAll {H : Type} : List (DataW H) → Nat
  | [] => 0
  | d :: r => uptoBulk d + uptoBulkAll r
def uptoBulkEntries {H : Type} : List (Lit × DataW H) → Nat
  | [] => 0
  | x :: r => uptoBulkEntry x + uptoBulkEntries r
def uptoBulkEntry {H : Type} : Lit × DataW H → Nat
  | (.string bytes, d) => bytes.length + uptoBulk d + 1
  | (_, d) => uptoBulk d + 1
 end
def uptoSmall : (H : Type) → List (DataW H) → Bool := fun _ ds => decide (uptoBulkAll ds ≤ 1048576)
def OpenSpec.upto (s : _root_.Go.ChangeSpec) : _root_.Go.OpenSpec := { _root_.Go.OpenSpec.ofChange s with cond := some uptoSmall }

/-- 'assizelaw08.LpoCompares', WHERE WHAT IT READS IS OF BULK AT MOST 1048576: true; the input reads as it did. -/
def lpoComparesUptoRow : OpenClaim := { program := "ytfcedichoigbbaa", sum := "d7b6d003416fb4c5bef9e71516f4c659a51a07a9343974e3337224b8bff76492", func := "assize/assizelaw08.LpoCompares", spec := "lpoCompares", unfollowed := true, recurses := true, loops := true, plainKeys := false, apart := false, narrowed := true }
def LpoComparesUptoSaid : Prop := lpoComparesUptoRow.holds Try.pinned (OpenSpec.upto lpoComparesSpec)

/-- 'assizelaw08.LpoThrough', WHERE WHAT IT READS IS OF BULK AT MOST 1048576: true; the input reads as it did. -/
def lpoThroughUptoRow : OpenClaim := { program := "ytfcedichoigbbaa", sum := "d7b6d003416fb4c5bef9e71516f4c659a51a07a9343974e3337224b8bff76492", func := "assize/assizelaw08.LpoThrough", spec := "lpoThrough", unfollowed := true, recurses := true, loops := true, plainKeys := false, apart := false, narrowed := true }
def LpoThroughUptoSaid : Prop := lpoThroughUptoRow.holds Try.pinned (OpenSpec.upto lpoThroughSpec)

/-- 'assizelaw08.LpoKeeps', WHERE WHAT IT READS IS OF BULK AT MOST 1048576: true; the input reads as it did. -/
def lpoKeepsUptoRow : OpenClaim := { program := "ytfcedichoigbbaa", sum := "d7b6d003416fb4c5bef9e71516f4c659a51a07a9343974e3337224b8bff76492", func := "assize/assizelaw08.LpoKeeps", spec := "lpoKeeps", unfollowed := true, recurses := true, loops := true, plainKeys := false, apart := false, narrowed := true }
def LpoKeepsUptoSaid : Prop := lpoKeepsUptoRow.holds Try.pinned (OpenSpec.upto lpoKeepsSpec)

/-- 'assizelaw08.LpoParts', WHERE WHAT IT READS IS OF BULK AT MOST 1048576: true; the input reads as it did. -/
def lpoPartsUptoRow : OpenClaim := { program := "ytfcedichoigbbaa", sum := "d7b6d003416fb4c5bef9e71516f4c659a51a07a9343974e3337224b8bff76492", func := "assize/assizelaw08.LpoParts", spec := "lpoParts", unfollowed := true, recurses := true, loops := true, plainKeys := false, apart := false, narrowed := true }
def LpoPartsUptoSaid : Prop := lpoPartsUptoRow.holds Try.pinned (OpenSpec.upto lpoPartsSpec)

/-- 'assizelaw08.LpoSoon', WHERE WHAT IT READS IS OF BULK AT MOST 1048576: true; the input reads as it did. -/
def lpoSoonUptoRow : OpenClaim := { program := "ytfcedichoigbbaa", sum := "d7b6d003416fb4c5bef9e71516f4c659a51a07a9343974e3337224b8bff76492", func := "assize/assizelaw08.LpoSoon", spec := "lpoSoon", unfollowed := true, recurses := true, plainKeys := false, apart := false, narrowed := true }
def LpoSoonUptoSaid : Prop := lpoSoonUptoRow.holds Try.pinned (OpenSpec.upto lpoSoonSpec)

/-- 'assizelaw07.KboCompares', WHERE WHAT IT READS IS OF BULK AT MOST 1048576: true; the input reads as it did. -/
def kboComparesUptoRow : OpenClaim := { program := "ytfcedichoigbbaa", sum := "d7b6d003416fb4c5bef9e71516f4c659a51a07a9343974e3337224b8bff76492", func := "assize/assizelaw07.KboCompares", spec := "kboCompares", unfollowed := true, recurses := true, loops := true, plainKeys := false, apart := false, narrowed := true }
def KboComparesUptoSaid : Prop := kboComparesUptoRow.holds Try.pinned (OpenSpec.upto kboComparesSpec)

/-- 'assizelaw07.KboNames', WHERE WHAT IT READS IS OF BULK AT MOST 1048576: true; the input reads as it did. -/
def kboNamesUptoRow : OpenClaim := { program := "ytfcedichoigbbaa", sum := "d7b6d003416fb4c5bef9e71516f4c659a51a07a9343974e3337224b8bff76492", func := "assize/assizelaw07.KboNames", spec := "kboNames", unfollowed := true, recurses := true, plainKeys := false, apart := false, narrowed := true }
def KboNamesUptoSaid : Prop := kboNamesUptoRow.holds Try.pinned (OpenSpec.upto kboNamesSpec)

/-- 'assizelaw07.KboThrough', WHERE WHAT IT READS IS OF BULK AT MOST 1048576: true; the input reads as it did. -/
def kboThroughUptoRow : OpenClaim := { program := "ytfcedichoigbbaa", sum := "d7b6d003416fb4c5bef9e71516f4c659a51a07a9343974e3337224b8bff76492", func := "assize/assizelaw07.KboThrough", spec := "kboThrough", unfollowed := true, recurses := true, loops := true, plainKeys := false, apart := false, narrowed := true }
def KboThroughUptoSaid : Prop := kboThroughUptoRow.holds Try.pinned (OpenSpec.upto kboThroughSpec)

/-- 'assizelaw07.KboKeeps', WHERE WHAT IT READS IS OF BULK AT MOST 1048576: true; the input reads as it did. -/
def kboKeepsUptoRow : OpenClaim := { program := "ytfcedichoigbbaa", sum := "d7b6d003416fb4c5bef9e71516f4c659a51a07a9343974e3337224b8bff76492", func := "assize/assizelaw07.KboKeeps", spec := "kboKeeps", unfollowed := true, recurses := true, loops := true, plainKeys := false, apart := false, narrowed := true }
def KboKeepsUptoSaid : Prop := kboKeepsUptoRow.holds Try.pinned (OpenSpec.upto kboKeepsSpec)

/-- 'assizelaw07.KboParts', WHERE WHAT IT READS IS OF BULK AT MOST 1048576: true; the input reads as it did. -/
def kboPartsUptoRow : OpenClaim := { program := "ytfcedichoigbbaa", sum := "d7b6d003416fb4c5bef9e71516f4c659a51a07a9343974e3337224b8bff76492", func := "assize/assizelaw07.KboParts", spec := "kboParts", unfollowed := true, recurses := true, loops := true, plainKeys := false, apart := false, narrowed := true }
def KboPartsUptoSaid : Prop := kboPartsUptoRow.holds Try.pinned (OpenSpec.upto kboPartsSpec)

end Rows
end Go.Proofs.Ytfcedichoigbbaa

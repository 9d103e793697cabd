/-
  Which functions of this seat run on the caller's objects; of which data less is known; what is known from elsewhere: a term's copy. No condition.
-/
import Derived.Test.YtiafeijkifpfaaaAmC
import Derived.Test.YtiafeijkifpfaaaAmTp
namespace Go.Proofs.Ytiafeijkifpfaaa.Am
open Go Go.Proofs
open Classical in
/-- A term's copy is the term. -/
noncomputable def copyX : CallF' := fun vs H nx => if ∃ t : Term, t.size ≤ 1048576 ∧ vs = [.d (.agg t.enc)] then some (vs.headD .junk, H, nx) else none
/-- The chapter's examples hold. -/
def aliveX : CallF' := fun vs H nx => match vs with
  | [] => some (.d (.bool true), H, nx)
  | _ => none
noncomputable def plc : Pol := { raw := fun _ => false, ext := fun f => if f == 66 then some copyX else if f == 29 then some aliveX else none, weak := fun f => f == 33 || f == 82 || f == 62 || f == 31 || f == 30 || f == 61 || f == 73 || f == 81 || f == 66 }
theorem plc_raw (f : FuncId) : plc.raw f = false := rfl
@[simp] theorem plc_weak (f : FuncId) : plc.weak f = (f == 33 || f == 82 || f == 62 || f == 31 || f == 30 || f == 61 || f == 73 || f == 81 || f == 66) := rfl
theorem plc_ext (f : FuncId) : plc.ext f = if f == 66 then some copyX else if f == 29 then some aliveX else none := rfl
noncomputable abbrev Cp := acall Try.prog plc
end Go.Proofs.Ytiafeijkifpfaaa.Am

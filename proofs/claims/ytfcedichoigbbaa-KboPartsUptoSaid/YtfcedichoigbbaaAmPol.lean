/-
  Which functions of this seat run on the caller's objects. No condition.
-/
import Derived.Test.YtfcedichoigbbaaAmC
import Derived.Test.YtfcedichoigbbaaAmS
namespace Go.Proofs.Ytfcedichoigbbaa.Am
open Go Go.Proofs
/-- The numbers in a map. -/
def valsOf : List (D × AV × Nat) → Option (List Int)
  | [] => some []
  | (_, .d (.int .i64 n), _) :: r => (valsOf r).map (n :: ·)
  | _ => none
/-- What the loop over the counts leaves: is one above zero, is one below it? -/
def holeG (st : St) : Option (Ex × St) :=
  match st.tm with
  | y0 :: y1 :: y2 :: y3 :: y4 :: y5 :: y6 :: y7 :: y8 :: y9 :: y10 :: r =>
    match y7, y9, y10 with
    | .map o, .d (.bool false), .d (.bool false) =>
      match st.hp o with
      | some (.mp _ es c) => if r.length = 105 ∧ es.map (·.2.2) = List.range es.length ∧ es.length ≤ c then
          (valsOf es).map fun ns => (.normal, ⟨y0 :: y1 :: y2 :: y3 :: y4 :: y5 :: y6 :: y7 :: y8 :: .d (.bool (ns.any fun n => decide (0 < n))) :: .d (.bool (ns.any fun n => decide (n < 0))) :: List.replicate 105 .junk, st.hp, st.nx⟩)
        else none
      | _ => none
    | _, _, _ => none
  | _ => none
open Classical in
noncomputable def plc : Pol := { raw := fun f => f == 55 || f == 62, weak := fun f => f == 27 || f == 29 || f == 15 || f == 13 || f == 18 || f == 64 || f == 39 || f == 19 || f == 21 || f == 24, hole := fun c => if c = h45_0 then some holeG else none }
theorem plc_hole : plc.hole h45_0 = some holeG := if_pos rfl
theorem plc_raw (f : FuncId) : plc.raw f = (f == 55 || f == 62) := rfl
@[simp] theorem plc_weak (f : FuncId) : plc.weak f = (f == 27 || f == 29 || f == 15 || f == 13 || f == 18 || f == 64 || f == 39 || f == 19 || f == 21 || f == 24) := rfl
@[simp] theorem plc_ext (f : FuncId) : plc.ext f = none := rfl
noncomputable abbrev Cp := acall Try.prog plc
end Go.Proofs.Ytfcedichoigbbaa.Am

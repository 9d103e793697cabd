/-
  Substitutions applied: what the document's functions answer. No condition.
-/
import Derived.Test.YtiafeijkifpfaaaAmWb
namespace Go.Proofs.Ytiafeijkifpfaaa.Am
open Go Go.Proofs
set_option maxHeartbeats 4000000
set_option linter.unusedSimpArgs false
set_option linter.unusedVariables false

abbrev zeroT : Term := .mk 0 (ByteArray.mk #[]) []
theorem putS_ok (bs : List Bd) (hb : okB bs) (t : Term) : t.ok → (t.putS bs).ok := by
  refine Term.ind (p := fun t => t.ok → (t.putS bs).ok) (fun v fn args ih h => ?_) t
  have hl : ∀ (a : List Term), (∀ x ∈ a, x.ok → (x.putS bs).ok) → okL a → okL (putSL bs a) := by
    intro a
    induction a with
    | nil => intro _ _; trivial
    | cons x r ih2 => intro h1 h2; exact ⟨h1 x (by simp) h2.1, ih2 (fun z hz => h1 z (by simp [hz])) h2.2⟩
  by_cases hv : fn.toList = []
  · simp only [Term.putS, if_pos hv]
    unfold ofS
    cases hf : bs.find? (fun b => decide (b.v = v)) with
    | none => simp [Term.ok, okL]
    | some b => exact hb.2 b (List.mem_of_find?_eq_some hf)
  · simp only [Term.putS, if_neg hv]
    exact ⟨by rw [putSL_len]; exact h.1, hl args ih h.2⟩
/-- A substitution applied: the term, and the error. -/
def applyS (bs : List Bd) (t : Term) : Term × Int :=
  if isB bs = true ∧ t.rightE = 0 then (if (t.putS bs).rightE = 0 then (t.putS bs, 0) else (zeroT, (t.putS bs).rightE)) else (zeroT, 1)
theorem apply_ok (bs : List Bd) (hb : okB bs) (t : Term) (ht : t.ok) (hs : t.size ≤ 1048576) :
    ∃ r, pcl Cp 31 [.sl (encB bs) bs.length false none, .agg t.enc] = some r ∧ wk r = .tup [.agg (applyS bs t).1.enc, .int .i64 (applyS bs t).2] := by
  have h1 := ris_ok bs hb
  have h2 := rright_ok t ht
  obtain ⟨r, h3, h4⟩ := put_ok bs hb t ht hs
  have h5 := rright_ok _ (putS_ok bs hb t ht)
  unfold applyS
  generalize t.putS bs = u at *
  generalize t.rightE = z at *
  generalize u.rightE = y at *
  generalize isB bs = b at *
  obtain ⟨v, fn, args⟩ := t
  obtain ⟨v2, fn2, args2⟩ := u
  simp [Term.enc] at h2 h3 h4 h5 ⊢
  cases b
  · refine ⟨.tup [.agg [.int .i64 0, .str (ByteArray.mk #[]), .sl [] 0 false (some true)], .int .i64 1], pcl_body code31 ?_, by simp [encL, Term.enc]⟩
    simp [plc_raw, h1]
  by_cases hz : z = 0
  · by_cases hy : y = 0
    · refine ⟨.tup [.agg [.int .i64 v2, .str fn2, .sl (encL args2) args2.length false none], .int .i64 0], pcl_body code31 ?_, by simp [hz, hy, Term.enc]⟩
      simp [plc_raw, h1, h2, h3, h4, h5, hz, hy]
    · refine ⟨.tup [.agg [.int .i64 0, .str (ByteArray.mk #[]), .sl [] 0 false (some true)], .int .i64 y], pcl_body code31 ?_, by simp [hz, hy, encL, Term.enc]⟩
      simp [plc_raw, h1, h2, h3, h4, h5, hz, hy]
  · refine ⟨.tup [.agg [.int .i64 0, .str (ByteArray.mk #[]), .sl [] 0 false (some true)], .int .i64 1], pcl_body code31 ?_, by simp [hz, encL, Term.enc]⟩
    simp [plc_raw, h1, h2, hz]
end Go.Proofs.Ytiafeijkifpfaaa.Am

/-
  The document's exported functions of the order of Knuth and Bendix, and the chapter's examples. No condition.
-/
import Derived.Test.YtfcedichoigbbaaAmKq
namespace Go.Proofs.Ytfcedichoigbbaa.Am
open Go Go.Proofs
set_option maxHeartbeats 4000000
set_option linter.unusedSimpArgs false
set_option linter.unusedVariables false

theorem rWeight_ok (g : Sg) (hg : g.ok) (t : Term) (ht : t.ok) (hs : t.size ≤ 1048576) : pcl Cp 30 [.agg g.enc, .agg t.enc] = some (.int .i64 (if t.rightE = 0 then t.wt g else 0)) := by
  have h2 := rright_ok t ht
  have h1 := rweight_ok g hg t ht hs
  refine pcl_body code30 ?_
  generalize t.rightE = z at *
  generalize t.wt g = W at *
  obtain ⟨v, fn, args⟩ := t
  simp [Term.enc, Sg.enc] at h1 h2 ⊢
  by_cases hz : z = 0
  · simp [plc_raw, h1, h2, hz]
  · simp [plc_raw, h1, h2, hz]
theorem rCompare_ok (g : Sg) (hg : g.ok) (t : Term) (ht : t.ok) (hts : t.size ≤ 1048576) (u : Term) (hu : u.ok) (hus : u.size ≤ 1048576) : pcl Cp 28 [.agg g.enc, .agg t.enc, .agg u.enc] = some (.int .i64 (g.rCmp t u)) := by
  have h1 := grright_ok g hg
  have h2 := rright_ok t ht
  have h3 := rright_ok u hu
  have h4 := rsame_ok t ht u hu
  have h5 := rgreater_ok g hg t ht hts u hu hus
  have h6 := rgreater_ok g hg u hu hus t ht hts
  refine pcl_body code28 ?_
  unfold Sg.rCmp
  generalize t.rightE = z at *
  generalize u.rightE = z2 at *
  generalize t.sameB u = b at *
  generalize t.rgt g u = r1 at *
  generalize u.rgt g t = r2 at *
  generalize g.right = gr at *
  obtain ⟨v, fn, args⟩ := t
  obtain ⟨v2, fn2, args2⟩ := u
  simp [Term.enc, Sg.enc] at h1 h2 h3 h4 h5 h6 ⊢
  cases gr
  · simp [plc_raw, h1]
  by_cases hz : z = 0
  · by_cases hz2 : z2 = 0
    · cases b
      · cases r1
        · cases r2 <;> simp [plc_raw, h1, h2, h3, h4, h5, h6, hz, hz2]
        · simp [plc_raw, h1, h2, h3, h4, h5, h6, hz, hz2]
      · simp [plc_raw, h1, h2, h3, h4, h5, h6, hz, hz2]
    · simp [plc_raw, h1, h2, h3, hz, hz2]
  · simp [plc_raw, h1, h2, h3, hz]
end Go.Proofs.Ytfcedichoigbbaa.Am

/-
  The order of Knuth and Bendix: the program's exported functions and the chapter's examples. No condition.
-/
import Derived.Test.YtfcedichoigbbaaAmKd
namespace Go.Proofs.Ytfcedichoigbbaa.Am
open Go Go.Proofs
set_option maxHeartbeats 4000000
set_option linter.unusedSimpArgs false

theorem rightE_shape {t : Term} (h : t.rightE = 0) : t.shapeB = true := by
  unfold Term.rightE at h
  by_cases hs : t.shapeB = true
  · exact hs
  · rw [if_neg hs] at h; simp at h
/-- What comes of a comparison of any terms. -/
def Sg.kCmp (g : Sg) (t u : Term) : Int := if g.right = true ∧ t.rightE = 0 ∧ u.rightE = 0 then t.kcmp g u else 2
theorem kCompare_ok (g : Sg) (hg : g.ok) (t : Term) (ht : t.ok) (u : Term) (hu : u.ok) : pcl Cp 27 [.agg g.enc, .agg t.enc, .agg u.enc] = some (.int .i64 (g.kCmp t u)) := by
  have h1 := gright_ok g hg
  have h2 := tright_ok t ht
  have h3 := tright_ok u hu
  have h4 := fun hs hs2 => compare_ok g hg t ht hs u hu hs2
  refine pcl_body code27 ?_
  unfold Sg.kCmp
  generalize hk : t.kcmp g u = k at h4 ⊢
  have ht0 := @rightE_shape t
  have hu0 := @rightE_shape u
  generalize t.rightE = z at *
  generalize u.rightE = z2 at *
  obtain ⟨v, fn, args⟩ := t
  obtain ⟨v2, fn2, args2⟩ := u
  simp [Term.enc, Sg.enc] at h1 h2 h3 h4 ⊢
  by_cases hr : g.right = true
  · simp [hr] at h1
    by_cases hz : z = 0
    · by_cases hz2 : z2 = 0
      · have h5 := h4 (ht0 hz) (hu0 hz2)
        simp [plc_raw, h1, h2, h3, h5, hz, hz2, hr]
      · simp [plc_raw, h1, h2, h3, hz, hz2, hr]
    · simp [plc_raw, h1, h2, h3, hz, hr]
  · simp [hr] at h1
    simp [plc_raw, h1, hr]
theorem kWeight_ok (g : Sg) (hg : g.ok) (t : Term) (ht : t.ok) : pcl Cp 29 [.agg g.enc, .agg t.enc] = some (.int .i64 (if t.rightE = 0 then (t.loadW g 1 []).1 else 0)) := by
  have h2 := tright_ok t ht
  refine pcl_body code29 ?_
  obtain ⟨F, N, hF⟩ := (load_ok g hg 1 (8, 0) _ ht []).fn
  generalize t.rightE = z at *
  generalize (t.loadW g 1 []).1 = W at *
  obtain ⟨v, fn, args⟩ := t
  simp [Term.enc, Sg.enc, encM, encMi] at h2 hF ⊢
  have hFc := fun H nx h1 h2 => (hF H nx h1 h2).1
  by_cases hz : z = 0
  · simp [plc_raw, h2, hz, hFc]
  · simp [plc_raw, h2, hz]
theorem own_ok (g : Sg) : pcl Cp 16 [.agg g.enc] = some (.agg g.enc) := by
  refine pcl_body code16 ?_
  simp [Sg.enc, plc_raw]
end Go.Proofs.Ytfcedichoigbbaa.Am

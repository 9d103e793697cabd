/-
  Substitutions: what the document's functions compute, as the abstract machine runs them. No condition.
-/
import Derived.Test.YtiafeijkifpfaaaAmT
import Derived.Test.YtiafeijkifpfaaaAmTp
namespace Go.Proofs.Ytiafeijkifpfaaa.Am
open Go Go.Proofs
set_option maxHeartbeats 4000000
set_option linter.unusedSimpArgs false
set_option linter.unusedVariables false

/-! ### Which substitutions -/
/-- The variable ahead of a place. -/
def Prev (bs : List Bd) (i : Nat) (prev : Option Int) : Prop :=
  (i = 0 ∧ prev = none) ∨ ∃ k y, i = k + 1 ∧ IntKind.i64.wrap ((i : Int) - 1) = (k : Int) ∧ (k : Int) < bs.length ∧ k * 4 < bs.length * 4 ∧ 1 ≤ bs.length * 4 - k * 4 ∧ (∀ h : k * 4 < (encB bs).length, (encB bs)[k * 4]'h = .int .i64 y) ∧ prev = some y
theorem ris_loop (bs : List Bd) (hb : okB bs) :
    ∃ e t, aloop Try.prog plc b33_0 ⟨[true, false, true, true, false, false, false, false, false, false, false, false, false, false, false, false, false, false, false, false, false, false, false, false, false, false, false, false, false, false, false, false, false, false, false, false, false, false, false, false, false, false, false, false, false, false, false, false, false, false, false, false, false, false, false, false, false, false, false, false, false, false, false, false, false, false, false, false, false, false, false, false, false, false, false, false, false], some 5⟩ ⟨[.d (.sl (encB bs) bs.length false none), .junk, .d (.bool false), .d (.int .i64 0), .junk, .junk, .junk, .junk, .junk, .junk, .junk, .junk, .junk, .junk, .junk, .junk, .junk, .junk, .junk, .junk, .junk, .junk, .junk, .junk, .junk, .junk, .junk, .junk, .junk, .junk, .junk, .junk, .junk, .junk, .junk, .junk, .junk, .junk, .junk, .junk, .junk, .junk, .junk, .junk, .junk, .junk, .junk, .junk, .junk, .junk, .junk, .junk, .junk, .junk, .junk, .junk, .junk, .junk, .junk, .junk, .junk, .junk, .junk, .junk, .junk, .junk, .junk, .junk, .junk, .junk, .junk, .junk, .junk, .junk, .junk, .junk, .junk], fun _ => none, 5⟩ = some (e, t) ∧
      (if isOk none bs then AtExit 0 [.d (.sl (encB bs) bs.length false none), .junk, .d (.bool false), .d (.int .i64 bs.length), .junk, .junk, .junk, .junk, .junk, .junk, .junk, .junk, .junk, .junk, .junk, .junk, .junk, .junk, .junk, .junk, .junk, .junk, .junk, .junk, .junk, .junk, .junk, .junk, .junk, .junk, .junk, .junk, .junk, .junk, .junk, .junk, .junk, .junk, .junk, .junk, .junk, .junk, .junk, .junk, .junk, .junk, .junk, .junk, .junk, .junk, .junk, .junk, .junk, .junk, .junk, .junk, .junk, .junk, .junk, .junk, .junk, .junk, .junk, .junk, .junk, .junk, .junk, .junk, .junk, .junk, .junk, .junk, .junk, .junk, .junk, .junk, .junk] (fun _ => none) e t else AtRet 2 (.d (.bool false)) e t) := by
  refine loop_rule (b := 5) (tm := fun (s : Nat × Option Int) => [.d (.sl (encB bs) bs.length false none), .junk, .d (.bool false), .d (.int .i64 s.1), .junk, .junk, .junk, .junk, .junk, .junk, .junk, .junk, .junk, .junk, .junk, .junk, .junk, .junk, .junk, .junk, .junk, .junk, .junk, .junk, .junk, .junk, .junk, .junk, .junk, .junk, .junk, .junk, .junk, .junk, .junk, .junk, .junk, .junk, .junk, .junk, .junk, .junk, .junk, .junk, .junk, .junk, .junk, .junk, .junk, .junk, .junk, .junk, .junk, .junk, .junk, .junk, .junk, .junk, .junk, .junk, .junk, .junk, .junk, .junk, .junk, .junk, .junk, .junk, .junk, .junk, .junk, .junk, .junk, .junk, .junk, .junk, .junk]) (Hf := fun _ => fun _ => none)
    (I := fun s => s.1 ≤ bs.length ∧ Prev bs s.1 s.2) (μ := fun s => bs.length - s.1) (res := fun s => isOk s.2 (bs.drop s.1)) (R := fun r e t => if r then AtExit 0 [.d (.sl (encB bs) bs.length false none), .junk, .d (.bool false), .d (.int .i64 bs.length), .junk, .junk, .junk, .junk, .junk, .junk, .junk, .junk, .junk, .junk, .junk, .junk, .junk, .junk, .junk, .junk, .junk, .junk, .junk, .junk, .junk, .junk, .junk, .junk, .junk, .junk, .junk, .junk, .junk, .junk, .junk, .junk, .junk, .junk, .junk, .junk, .junk, .junk, .junk, .junk, .junk, .junk, .junk, .junk, .junk, .junk, .junk, .junk, .junk, .junk, .junk, .junk, .junk, .junk, .junk, .junk, .junk, .junk, .junk, .junk, .junk, .junk, .junk, .junk, .junk, .junk, .junk, .junk, .junk, .junk, .junk, .junk, .junk] (fun _ => none) e t else AtRet 2 (.d (.bool false)) e t)
    (fun s nx hi => ?_) (0, none) ⟨Nat.zero_le _, .inl ⟨rfl, rfl⟩⟩
  obtain ⟨i, prev⟩ := s
  obtain ⟨hi, hp⟩ := hi
  simp only at hi hp
  rcases Nat.lt_or_ge i bs.length with hl | hl
  · obtain ⟨x, v, fn, args, a⟩ := atB_ok hb.1 (i := i) hl
    have hr := rright_ok _ (hb.2 _ a.mem)
    have hpn : Prev bs (i + 1) (some x) := .inr ⟨i, x, by omega, by rw [show ((i + 1 : Nat) : Int) - 1 = (i : Int) by omega]; exact a.w0, a.lti, a.ltm, a.le1, a.e0, rfl⟩
    simp [Term.enc] at hr
    generalize hrE : (Term.mk v fn args).rightE = e at hr
    have hres : isOk prev (bs.drop i) = (!(Bd.badR prev ⟨x, .mk v fn args⟩) && isOk (some x) (bs.drop (i + 1))) := by rw [a.dr]; rfl
    have hbad : Bd.badR prev ⟨x, .mk v fn args⟩ = (decide (x < 0) || decide (1000000 ≤ x) || prevB x prev || decide (e ≠ 0) || (noName fn && decide (v = x))) := by simp only [Bd.badR, hrE, Bd.own]
    conv => arg 9; arg 4; unfold b33_0
    by_cases c1 : x < 0
    · simp [a.lti, a.sz, a.ltm, a.e0, a.le1, plc_raw, c1]
      exact .fin _ _ (by simp only [hres, hbad]; simp [c1, AtRet])
    by_cases c2 : 1000000 ≤ x
    · simp [a.lti, a.sz, a.ltm, a.e0, a.le1, plc_raw, c1, c2]
      exact .fin _ _ (by simp only [hres, hbad]; simp [c2, AtRet])
    rcases hp with ⟨p0, rfl⟩ | ⟨k, y, p1, p2, p3, p4, p5, p6, rfl⟩
    · have p1 : ¬ (0 : Int) < (i : Int) := by omega
      have p9 : ¬ 0 < i := by omega
      clear p0
      by_cases c4 : e = 0
      · by_cases c5 : fn.toList = []
        · by_cases c6 : v = x
          · subst c6
            simp [a.lti, a.sz, a.ltm, a.e0, a.c1, a.e10, a.e11, a.c0, a.c10, a.c11, a.le1, a.le4, a.le3, a.le2, a.le11, plc_raw, c1, c2, p1, p9, hr, c4, c5]
            exact .fin _ _ (by simp only [hres, hbad]; simp [c5, noName, AtRet])
          · simp [a.lti, a.sz, a.ltm, a.e0, a.c1, a.e10, a.e11, a.c0, a.c10, a.c11, a.le1, a.le4, a.le3, a.le2, a.le11, plc_raw, c1, c2, p1, p9, hr, c4, c5, c6, a.w]
            exact .next (i + 1, some x) (by omega) (by simp) rfl ⟨hl, hpn⟩ (by simp; omega) (by simp only [hres, hbad]; simp [c1, c2, c4, c5, c6, prevB, noName])
        · simp [a.lti, a.sz, a.ltm, a.e0, a.c1, a.e10, a.e11, a.c0, a.c10, a.c11, a.le1, a.le4, a.le3, a.le2, a.le11, plc_raw, c1, c2, p1, p9, hr, c4, c5, a.w]
          exact .next (i + 1, some x) (by omega) (by simp) rfl ⟨hl, hpn⟩ (by simp; omega) (by simp only [hres, hbad]; simp [c1, c2, c4, c5, prevB, noName])
      · simp [a.lti, a.sz, a.ltm, a.e0, a.c1, a.le1, a.le4, a.le3, plc_raw, c1, c2, p1, p9, hr, c4]
        exact .fin _ _ (by simp only [hres, hbad]; simp [c4, AtRet])
    · have p0 : ¬ i = 0 := by omega
      have p7 : ¬ (i : Int) = 0 := by omega
      have p8 : (0 : Int) < (i : Int) := by omega
      have p9 : 0 < i := by omega
      by_cases c3 : x ≤ y
      · simp [a.lti, a.sz, a.ltm, a.e0, a.le1, plc_raw, c1, c2, p2, p3, p4, p5, p6, c3, p8, p9]
        exact .fin _ _ (by simp only [hres, hbad]; simp [c3, prevB, AtRet])
      by_cases c4 : e = 0
      · by_cases c5 : fn.toList = []
        · by_cases c6 : v = x
          · subst c6
            simp [a.lti, a.sz, a.ltm, a.e0, a.c1, a.e10, a.e11, a.c0, a.c10, a.c11, a.le1, a.le4, a.le3, a.le2, a.le11, plc_raw, c1, c2, p2, p3, p4, p5, p6, c3, p8, p9, hr, c4, c5]
            exact .fin _ _ (by simp only [hres, hbad]; simp [c5, noName, AtRet])
          · simp [a.lti, a.sz, a.ltm, a.e0, a.c1, a.e10, a.e11, a.c0, a.c10, a.c11, a.le1, a.le4, a.le3, a.le2, a.le11, plc_raw, c1, c2, p2, p3, p4, p5, p6, c3, p8, p9, hr, c4, c5, c6, a.w]
            exact .next (i + 1, some x) (by omega) (by simp) rfl ⟨hl, hpn⟩ (by simp; omega) (by simp only [hres, hbad]; simp [c1, c2, c3, c4, c5, c6, prevB, noName])
        · simp [a.lti, a.sz, a.ltm, a.e0, a.c1, a.e10, a.e11, a.c0, a.c10, a.c11, a.le1, a.le4, a.le3, a.le2, a.le11, plc_raw, c1, c2, p2, p3, p4, p5, p6, c3, p8, p9, hr, c4, c5, a.w]
          exact .next (i + 1, some x) (by omega) (by simp) rfl ⟨hl, hpn⟩ (by simp; omega) (by simp only [hres, hbad]; simp [c1, c2, c3, c4, c5, prevB, noName])
      · simp [a.lti, a.sz, a.ltm, a.e0, a.c1, a.le1, a.le4, a.le3, plc_raw, c1, c2, p2, p3, p4, p5, p6, c3, p8, p9, hr, c4]
        exact .fin _ _ (by simp only [hres, hbad]; simp [c4, AtRet])
  · obtain rfl : i = bs.length := Nat.le_antisymm hi hl
    simp [b33_0]
    exact .fin _ _ (by simp only [List.drop_length, isOk, if_true]; exact .mk)
theorem ris_ok (bs : List Bd) (hb : okB bs) : pcl Cp 33 [.sl (encB bs) bs.length false none] = some (.bool (isB bs)) := by
  obtain ⟨e, t, hrun, hR⟩ := ris_loop bs hb
  refine pcl_body code33 ?_
  unfold isB
  by_cases hn : (bs.length : Int) ≤ 4000
  · have hn2 : bs.length ≤ 4000 := by omega
    have hn3 : ¬ (4000 : Int) < bs.length := by omega
    have hn4 : ¬ 4000 < bs.length := by omega
    simp at hrun
    cases hq : isOk none bs
    · rw [hq] at hR
      obtain ⟨rfl, hv⟩ := hR
      simp [hn, hn2, hn3, hn4, hrun, hv]
    · rw [hq] at hR
      obtain ⟨rfl, nx, rfl⟩ := hR
      simp [hn, hn2, hn3, hn4, hrun]
  · have hn2 : ¬ bs.length ≤ 4000 := by omega
    have hn3 : (4000 : Int) < bs.length := by omega
    have hn4 : 4000 < bs.length := by omega
    simp [hn, hn2, hn3, hn4]
end Go.Proofs.Ytiafeijkifpfaaa.Am

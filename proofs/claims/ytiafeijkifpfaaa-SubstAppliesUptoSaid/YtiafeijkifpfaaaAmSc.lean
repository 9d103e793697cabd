/-
  Which are substitutions: what the program's function answers. No condition.
-/
import Derived.Test.YtiafeijkifpfaaaAmT
import Derived.Test.YtiafeijkifpfaaaAmSb
namespace Go.Proofs.Ytiafeijkifpfaaa.Am
open Go Go.Proofs
set_option maxHeartbeats 4000000
set_option linter.unusedSimpArgs false
set_option linter.unusedVariables false

theorem itself_ok (x v : Int) (fn : ByteArray) (args : List Term) : pcl Cp 63 [.agg [.int .i64 x, .int .i64 v, .str fn, .sl (encL args) args.length false none]] = some (.bool (Bd.own ⟨x, .mk v fn args⟩)) := by
  refine pcl_body code63 ?_
  by_cases h0 : fn.toList = []
  · by_cases h1 : v = x
    · simp [h0, h1, Bd.own, noName]
    · simp [h0, h1, Bd.own, noName]
  · simp [h0, Bd.own, noName]
theorem sright_ok (bs : List Bd) (hb : okB bs) : pcl Cp 32 [.sl (encB bs) bs.length false none] = some (.int .i64 (if isB bs then 0 else 1)) := by
  have hloop := loop_rule (P := Try.prog) (pol := plc) (c := b32_0) (m := ⟨[true, false, true, true, false, false, true, true, true, false, false, false, false, false, false, false, false, false, false, false, false, false, false, false, false, false, false, false, false, false, false, false, false, false, false, false, false, false, false], some 5⟩)
    (b := 5) (tm := fun (s : Nat × Int) => [.d (.sl (encB bs) bs.length false none), .junk, .d (.int .i64 0), .d (.int .i64 s.2), .junk, .junk, .d (.sl (encB bs) bs.length false none), .d (.int .i64 bs.length), .d (.int .i64 s.1), .junk, .junk, .junk, .junk, .junk, .junk, .junk, .junk, .junk, .junk, .junk, .junk, .junk, .junk, .junk, .junk, .junk, .junk, .junk, .junk, .junk, .junk, .junk, .junk, .junk, .junk, .junk, .junk, .junk, .junk]) (Hf := fun _ => fun _ => none)
    (I := fun s => s.1 ≤ bs.length) (μ := fun s => bs.length - s.1) (res := fun s => subOk bs.length s.2 (bs.drop s.1))
    (R := fun r e t => if r then ∃ last, AtExit 0 [.d (.sl (encB bs) bs.length false none), .junk, .d (.int .i64 0), .d (.int .i64 last), .junk, .junk, .d (.sl (encB bs) bs.length false none), .d (.int .i64 bs.length), .d (.int .i64 bs.length), .junk, .junk, .junk, .junk, .junk, .junk, .junk, .junk, .junk, .junk, .junk, .junk, .junk, .junk, .junk, .junk, .junk, .junk, .junk, .junk, .junk, .junk, .junk, .junk, .junk, .junk, .junk, .junk, .junk, .junk] (fun _ => none) e t else AtRet 2 (.d (.int .i64 1)) e t)
    (fun s nx hi => by
      obtain ⟨i, last⟩ := s
      simp only at hi ⊢
      rcases Nat.lt_or_ge i bs.length with hl | hl
      · obtain ⟨x, v, fn, args, a⟩ := atB_ok hb.1 (i := i) hl
        have ho := itself_ok x v fn args
        have hr := tright_ok _ (hb.2 _ a.mem)
        simp [Term.enc] at hr
        have hres : subOk bs.length last (bs.drop i) = (!(Bd.badB bs.length last ⟨x, .mk v fn args⟩) && subOk bs.length x (bs.drop (i + 1))) := by rw [a.dr]; rfl
        have hbad : Bd.badB bs.length last ⟨x, .mk v fn args⟩ = (decide (x ≤ last) || decide (1000000 ≤ x) || Bd.own ⟨x, .mk v fn args⟩ || decide ((Term.mk v fn args).rightE ≠ 0) || decide ((4000 : Int) < (bs.length : Int))) := rfl
        generalize (Term.mk v fn args).rightE = e at hr hbad
        generalize Bd.own ⟨x, .mk v fn args⟩ = w at ho hbad
        conv => arg 9; arg 4; unfold b32_0
        by_cases c1 : x ≤ last
        · simp [a.lti, a.sz, a.ltm, a.cells, a.le4, plc_raw, c1]
          exact .fin _ _ (by simp only [hres, hbad]; simp [c1, AtRet])
        by_cases c2 : 1000000 ≤ x
        · simp [a.lti, a.sz, a.ltm, a.cells, a.le4, plc_raw, c1, c2]
          exact .fin _ _ (by simp only [hres, hbad]; simp [c2, AtRet])
        cases w
        · by_cases c3 : e = 0
          · by_cases c4 : (4000 : Int) < (bs.length : Int)
            · simp [a.lti, a.sz, a.ltm, a.cells, a.le4, plc_raw, c1, c2, c3, c4, ho, hr]
              exact .fin _ _ (by simp only [hres, hbad]; simp [c4, AtRet])
            · simp [a.lti, a.sz, a.ltm, a.cells, a.le4, plc_raw, c1, c2, c3, c4, ho, hr, a.w]
              exact .next (i + 1, x) (by omega) (by simp) rfl hl (by simp; omega) (by simp only [hres, hbad]; simp [c1, c2, c3, c4])
          · simp [a.lti, a.sz, a.ltm, a.cells, a.le4, plc_raw, c1, c2, c3, ho, hr]
            exact .fin _ _ (by simp only [hres, hbad]; simp [c3, AtRet])
        · simp [a.lti, a.sz, a.ltm, a.cells, a.le4, plc_raw, c1, c2, ho]
          exact .fin _ _ (by simp only [hres, hbad]; simp [AtRet])
      · obtain rfl : i = bs.length := Nat.le_antisymm hi hl
        simp [b32_0]
        exact .fin _ _ (by simp only [List.drop_length, subOk, if_true]; exact ⟨last, .mk⟩)) (0, -1) (Nat.zero_le _)
  obtain ⟨e, t, hrun, hR⟩ := hloop
  refine pcl_body code32 ?_
  rw [isB_sub]
  simp at hrun hR
  cases hs : subOk bs.length (-1) bs
  · simp only [hs] at hR
    obtain ⟨rfl, hv⟩ := hR
    simp [hrun, hv]
  · simp only [hs] at hR
    obtain ⟨last, rfl, nx, rfl⟩ := hR
    simp [hrun]
end Go.Proofs.Ytiafeijkifpfaaa.Am

/-
  Substitutions: what the program's functions and the document's compute of them, as the abstract machine runs them. No condition.
-/
import Derived.Test.YtiafeijkifpfaaaAmT34
import Derived.Test.YtiafeijkifpfaaaAmBind
namespace Go.Proofs.Ytiafeijkifpfaaa.Am
open Go Go.Proofs
set_option maxHeartbeats 4000000
set_option linter.unusedSimpArgs false

theorem own_ok (x v : Int) (fn : ByteArray) (args : List Term) : pcl C34 63 [.agg [.int .i64 x, .int .i64 v, .str fn, .sl (encL args) args.length false none]] = some (.bool (Bd.own ⟨x, .mk v fn args⟩)) := by
  refine pcl_body code63 ?_
  by_cases h0 : fn.toList = (ByteArray.mk #[]).toList
  · by_cases h1 : v = x
    · simp [h0, h1, Bd.own, noName]
    · simp [h0, h1, Bd.own, noName]
  · simp [h0, Bd.own, noName]

theorem sright_loop (bs : List Bd) (hb : okB bs) : ∀ (m i : Nat) (last : Int) (nx : Nat), i + m = bs.length →
    (subOk bs.length last (bs.drop i) = true → EndsP (aloop Try.prog pol34 b32_0 ⟨[true, false, true, true, false, false, true, true, true, false, false, false, false, false, false, false, false, false, false, false, false, false, false, false, false, false, false, false, false, false, false, false, false, false, false, false, false, false, false], 5⟩
      ⟨[.d (.sl (encB bs) bs.length false none), .junk, .d (.int .i64 0), .d (.int .i64 last), .junk, .junk, .d (.sl (encB bs) bs.length false none), .d (.int .i64 bs.length), .d (.int .i64 i), .junk, .junk, .junk, .junk, .junk, .junk, .junk, .junk, .junk, .junk, .junk, .junk, .junk, .junk, .junk, .junk, .junk, .junk, .junk, .junk, .junk, .junk, .junk, .junk, .junk, .junk, .junk, .junk, .junk, .junk], fun _ => none, nx + 5⟩)
      (.exit 0) [.d (.sl (encB bs) bs.length false none), .junk, .d (.int .i64 0)] 36 (fun _ => none)) ∧
    (subOk bs.length last (bs.drop i) = false → RetAt (aloop Try.prog pol34 b32_0 ⟨[true, false, true, true, false, false, true, true, true, false, false, false, false, false, false, false, false, false, false, false, false, false, false, false, false, false, false, false, false, false, false, false, false, false, false, false, false, false, false], 5⟩
      ⟨[.d (.sl (encB bs) bs.length false none), .junk, .d (.int .i64 0), .d (.int .i64 last), .junk, .junk, .d (.sl (encB bs) bs.length false none), .d (.int .i64 bs.length), .d (.int .i64 i), .junk, .junk, .junk, .junk, .junk, .junk, .junk, .junk, .junk, .junk, .junk, .junk, .junk, .junk, .junk, .junk, .junk, .junk, .junk, .junk, .junk, .junk, .junk, .junk, .junk, .junk, .junk, .junk, .junk, .junk], fun _ => none, nx + 5⟩) 2 (.d (.int .i64 1))) := by
  intro m
  induction m with
  | zero =>
    intro i last nx hi
    obtain rfl : i = bs.length := by omega
    refine ⟨fun _ => .body ?_, fun h => by simp [subOk] at h⟩
    simp [b32_0]
    exact .mk rfl rfl
  | succ m ih =>
    intro i last nx hi
    obtain ⟨x, v, fn, args, a⟩ := atB_ok hb.1 (i := i) (by omega)
    have ho := own_ok x v fn args
    have hr := tright_ok _ (hb.2 _ a.mem)
    have hih := fun last nx => ih (i + 1) last nx (by omega)
    simp [Term.enc] at hr
    rw [a.dr]
    generalize hrE : (Term.mk v fn args).rightE = e at hr
    generalize hoE : Bd.own ⟨x, .mk v fn args⟩ = w at ho
    by_cases c1 : x ≤ last
    · refine ⟨fun h => by simp [subOk, Bd.badB, c1] at h, fun h => .body ?_⟩
      conv => arg 1; arg 4; unfold b32_0
      simp [a.lti, a.sz, a.ltm, a.cells, a.le4, pol34, c1]
      exact .mk rfl
    · by_cases c2 : 1000000 ≤ x
      · refine ⟨fun h => by simp [subOk, Bd.badB, c2] at h, fun h => .body ?_⟩
        conv => arg 1; arg 4; unfold b32_0
        simp [a.lti, a.sz, a.ltm, a.cells, a.le4, pol34, c1, c2]
        exact .mk rfl
      · cases w with
        | true =>
          refine ⟨fun h => by simp [subOk, Bd.badB, hoE] at h, fun h => .body ?_⟩
          conv => arg 1; arg 4; unfold b32_0
          simp [a.lti, a.sz, a.ltm, a.cells, a.le4, pol34, c1, c2, ho]
          exact .mk rfl
        | false =>
          by_cases c3 : e = 0
          · by_cases c4 : (4000 : Int) < (bs.length : Int)
            · refine ⟨fun h => by simp [subOk, Bd.badB, c4] at h, fun h => .body ?_⟩
              conv => arg 1; arg 4; unfold b32_0
              simp [a.lti, a.sz, a.ltm, a.cells, a.le4, pol34, c1, c2, c3, c4, ho, hr]
              exact .mk rfl
            · have hs : subOk bs.length last (⟨x, .mk v fn args⟩ :: bs.drop (i + 1)) = subOk bs.length x (bs.drop (i + 1)) := by simp only [subOk, Bd.badB, c1, c2, hrE, hoE, c3, c4, decide_false, Bool.or_false]; simp
              rw [hs]
              refine ⟨fun h => .body ?_, fun h => .body ?_⟩
              · have h2 := fun nx => (hih x nx).1 h
                conv => arg 1; arg 4; unfold b32_0
                simp [a.lti, a.sz, a.ltm, a.cells, a.le4, pol34, c1, c2, c3, c4, ho, hr, a.w]
                exact h2 _
              · have h2 := fun nx => (hih x nx).2 h
                conv => arg 1; arg 4; unfold b32_0
                simp [a.lti, a.sz, a.ltm, a.cells, a.le4, pol34, c1, c2, c3, c4, ho, hr, a.w]
                exact h2 _
          · refine ⟨fun h => by simp [subOk, Bd.badB, hrE, c3] at h, fun h => .body ?_⟩
            conv => arg 1; arg 4; unfold b32_0
            simp [a.lti, a.sz, a.ltm, a.cells, a.le4, pol34, c1, c2, c3, ho, hr]
            exact .mk rfl
theorem sright_ok (bs : List Bd) (hb : okB bs) : pcl C34 32 [.sl (encB bs) bs.length false none] = some (.int .i64 (if isB bs then 0 else 1)) := by
  refine pcl_body code32 ?_
  rw [isB_sub]
  have hl := sright_loop bs hb bs.length 0 (-1) 0 (by omega)
  simp at hl ⊢
  generalize aloop _ _ _ _ _ = X at hl ⊢
  cases hs : subOk bs.length (-1) bs with
  | true =>
    obtain ⟨tl, nx, hl2, rfl⟩ := hl.1 hs
    simp [hl2]
  | false =>
    obtain ⟨tm, H, nx, rfl, htm⟩ := hl.2 hs
    simp [htm]

/-- What stands ahead of a place. -/
def Prev (bs : List Bd) (i : Nat) (prev : Option Int) : Prop :=
  (¬ 0 < i ∧ prev = none) ∨ ∃ (k : Nat) (y : Int), 0 < i ∧ IntKind.i64.wrap ((i : Int) - 1) = (k : Int) ∧ (k : Int) < (bs.length : Int) ∧ k * 4 < bs.length * 4 ∧ 1 ≤ bs.length * 4 - k * 4 ∧ (∀ h : k * 4 < (encB bs).length, (encB bs)[k * 4]'h = .int .i64 y) ∧ prev = some y
theorem ris_loop (bs : List Bd) (hb : okB bs) (y4 y5 y6 : AV) : ∀ (m i : Nat) (prev : Option Int) (nx : Nat), i + m = bs.length → Prev bs i prev →
    (isOk prev (bs.drop i) = true → EndsP (aloop Try.prog pol34 b33_0 ⟨[true, false, true, true, true, true, true, false, false, false, false, false, false, false, false, false, false, false, false, false, false, false, false, false, false, false, false, false, false, false, false, false, false, false, false, false, false, false, false, false, false, false, false, false, false, false, false, false, false, false, false, false, false, false, false, false, false, false, false, false, false, false, false, false, false, false, false, false, false, false, false, false, false, false, false, false, false], 5⟩
      ⟨[.d (.sl (encB bs) bs.length false none), .junk, .d (.bool false), .d (.int .i64 i), y4, y5, y6, .junk, .junk, .junk, .junk, .junk, .junk, .junk, .junk, .junk, .junk, .junk, .junk, .junk, .junk, .junk, .junk, .junk, .junk, .junk, .junk, .junk, .junk, .junk, .junk, .junk, .junk, .junk, .junk, .junk, .junk, .junk, .junk, .junk, .junk, .junk, .junk, .junk, .junk, .junk, .junk, .junk, .junk, .junk, .junk, .junk, .junk, .junk, .junk, .junk, .junk, .junk, .junk, .junk, .junk, .junk, .junk, .junk, .junk, .junk, .junk, .junk, .junk, .junk, .junk, .junk, .junk, .junk, .junk, .junk, .junk], fun _ => none, nx + 5⟩)
      (.exit 0) [.d (.sl (encB bs) bs.length false none), .junk, .d (.bool false)] 74 (fun _ => none)) ∧
    (isOk prev (bs.drop i) = false → RetAt (aloop Try.prog pol34 b33_0 ⟨[true, false, true, true, true, true, true, false, false, false, false, false, false, false, false, false, false, false, false, false, false, false, false, false, false, false, false, false, false, false, false, false, false, false, false, false, false, false, false, false, false, false, false, false, false, false, false, false, false, false, false, false, false, false, false, false, false, false, false, false, false, false, false, false, false, false, false, false, false, false, false, false, false, false, false, false, false], 5⟩
      ⟨[.d (.sl (encB bs) bs.length false none), .junk, .d (.bool false), .d (.int .i64 i), y4, y5, y6, .junk, .junk, .junk, .junk, .junk, .junk, .junk, .junk, .junk, .junk, .junk, .junk, .junk, .junk, .junk, .junk, .junk, .junk, .junk, .junk, .junk, .junk, .junk, .junk, .junk, .junk, .junk, .junk, .junk, .junk, .junk, .junk, .junk, .junk, .junk, .junk, .junk, .junk, .junk, .junk, .junk, .junk, .junk, .junk, .junk, .junk, .junk, .junk, .junk, .junk, .junk, .junk, .junk, .junk, .junk, .junk, .junk, .junk, .junk, .junk, .junk, .junk, .junk, .junk, .junk, .junk, .junk, .junk, .junk, .junk], fun _ => none, nx + 5⟩) 2 (.d (.bool false))) := by
  intro m
  induction m with
  | zero =>
    intro i prev nx hi _
    obtain rfl : i = bs.length := by omega
    refine ⟨fun _ => .body ?_, fun h => by simp [isOk] at h⟩
    simp [b33_0]
    exact .mk rfl rfl
  | succ m ih =>
    intro i prev nx hi hp
    obtain ⟨x, v, fn, args, a⟩ := atB_ok hb.1 (i := i) (by omega)
    have hr := rright_ok _ (hb.2 _ a.mem)
    have hpn : Prev bs (i + 1) (some x) := .inr ⟨i, x, by omega, by rw [show ((i + 1 : Nat) : Int) - 1 = (i : Int) by omega]; exact a.w0, a.lti, a.ltm, a.le1, a.e0, rfl⟩
    have hih := fun nx => ih (i + 1) (some x) nx (by omega) hpn
    simp [Term.enc] at hr
    rw [a.dr]
    generalize hrE : (Term.mk v fn args).rightE = e at hr
    by_cases c1 : x < 0
    · refine ⟨fun h => by simp [isOk, Bd.badR, c1] at h, fun h => .body ?_⟩
      conv => arg 1; arg 4; unfold b33_0
      simp [a.lti, a.sz, a.ltm, a.e0, a.le1, pol34, c1]
      exact .mk rfl
    · by_cases c2 : 1000000 ≤ x
      · refine ⟨fun h => by simp [isOk, Bd.badR, c2] at h, fun h => .body ?_⟩
        conv => arg 1; arg 4; unfold b33_0
        simp [a.lti, a.sz, a.ltm, a.e0, a.le1, pol34, c1, c2]
        exact .mk rfl
      · by_cases c3 : prevB x prev = true
        · rcases hp with ⟨_, rfl⟩ | ⟨k, y, p1, p2, p3, p4, p5, p6, rfl⟩
          · cases c3
          · simp [prevB] at c3
            refine ⟨fun h => by simp [isOk, Bd.badR, prevB, c3] at h, fun h => .body ?_⟩
            conv => arg 1; arg 4; unfold b33_0
            simp [a.lti, a.sz, a.ltm, a.e0, a.le1, pol34, c1, c2, p1, p2, p3, p4, p5, p6, c3]
            exact .mk rfl
        · have hs1 : isOk prev (⟨x, .mk v fn args⟩ :: bs.drop (i + 1)) = (!(decide (e ≠ 0) || Bd.own ⟨x, .mk v fn args⟩) && isOk (some x) (bs.drop (i + 1))) := by
            simp only [isOk, Bd.badR, c1, c2, hrE, decide_false, Bool.false_or]
            rw [Bool.eq_false_iff.2 c3]
            simp
          rw [hs1]
          rcases hp with ⟨p1, rfl⟩ | ⟨k, y, p1, p2, p3, p4, p5, p6, rfl⟩
          · by_cases c4 : e = 0
            · by_cases c5 : fn.toList = (ByteArray.mk #[]).toList
              · by_cases c6 : v = x
                · subst c6
                  refine ⟨fun h => by simp [Bd.own, noName, c5] at h, fun h => .body ?_⟩
                  conv => arg 1; arg 4; unfold b33_0
                  simp [a.lti, a.sz, a.ltm, a.e0, a.c1, a.e10, a.e11, a.c0, a.c10, a.c11, a.le1, a.le4, a.le3, a.le2, a.le11, pol34, c1, c2, p1, hr, c4, c5]
                  exact .mk rfl
                · have hs2 : Bd.own ⟨x, .mk v fn args⟩ = false := by simp [Bd.own, noName, c5, c6]
                  simp only [hs2, c4]
                  refine ⟨fun h => .body ?_, fun h => .body ?_⟩
                  · have h2 := fun nx => (hih nx).1 (by simpa using h)
                    conv => arg 1; arg 4; unfold b33_0
                    simp [a.lti, a.sz, a.ltm, a.e0, a.c1, a.e10, a.e11, a.c0, a.c10, a.c11, a.le1, a.le4, a.le3, a.le2, a.le11, pol34, c1, c2, p1, hr, c4, c5, c6, a.w]
                    exact h2 _
                  · have h2 := fun nx => (hih nx).2 (by simpa using h)
                    conv => arg 1; arg 4; unfold b33_0
                    simp [a.lti, a.sz, a.ltm, a.e0, a.c1, a.e10, a.e11, a.c0, a.c10, a.c11, a.le1, a.le4, a.le3, a.le2, a.le11, pol34, c1, c2, p1, hr, c4, c5, c6, a.w]
                    exact h2 _
              · have hs2 : Bd.own ⟨x, .mk v fn args⟩ = false := by simp [Bd.own, noName, c5]
                simp only [hs2, c4]
                refine ⟨fun h => .body ?_, fun h => .body ?_⟩
                · have h2 := fun nx => (hih nx).1 (by simpa using h)
                  conv => arg 1; arg 4; unfold b33_0
                  simp [a.lti, a.sz, a.ltm, a.e0, a.c1, a.e10, a.e11, a.c0, a.c10, a.c11, a.le1, a.le4, a.le3, a.le2, a.le11, pol34, c1, c2, p1, hr, c4, c5, a.w]
                  exact h2 _
                · have h2 := fun nx => (hih nx).2 (by simpa using h)
                  conv => arg 1; arg 4; unfold b33_0
                  simp [a.lti, a.sz, a.ltm, a.e0, a.c1, a.e10, a.e11, a.c0, a.c10, a.c11, a.le1, a.le4, a.le3, a.le2, a.le11, pol34, c1, c2, p1, hr, c4, c5, a.w]
                  exact h2 _
            · refine ⟨fun h => by simp [c4] at h, fun h => .body ?_⟩
              conv => arg 1; arg 4; unfold b33_0
              simp [a.lti, a.sz, a.ltm, a.e0, a.c1, a.le1, a.le4, a.le3, pol34, c1, c2, p1, hr, c4]
              exact .mk rfl
          · have c3 : ¬ x ≤ y := by simpa [prevB] using c3
            by_cases c4 : e = 0
            · by_cases c5 : fn.toList = (ByteArray.mk #[]).toList
              · by_cases c6 : v = x
                · subst c6
                  refine ⟨fun h => by simp [Bd.own, noName, c5] at h, fun h => .body ?_⟩
                  conv => arg 1; arg 4; unfold b33_0
                  simp [a.lti, a.sz, a.ltm, a.e0, a.c1, a.e10, a.e11, a.c0, a.c10, a.c11, a.le1, a.le4, a.le3, a.le2, a.le11, pol34, c1, c2, c3, p1, p2, p3, p4, p5, p6, hr, c4, c5]
                  exact .mk rfl
                · have hs2 : Bd.own ⟨x, .mk v fn args⟩ = false := by simp [Bd.own, noName, c5, c6]
                  simp only [hs2, c4]
                  refine ⟨fun h => .body ?_, fun h => .body ?_⟩
                  · have h2 := fun nx => (hih nx).1 (by simpa using h)
                    conv => arg 1; arg 4; unfold b33_0
                    simp [a.lti, a.sz, a.ltm, a.e0, a.c1, a.e10, a.e11, a.c0, a.c10, a.c11, a.le1, a.le4, a.le3, a.le2, a.le11, pol34, c1, c2, c3, p1, p2, p3, p4, p5, p6, hr, c4, c5, c6, a.w]
                    exact h2 _
                  · have h2 := fun nx => (hih nx).2 (by simpa using h)
                    conv => arg 1; arg 4; unfold b33_0
                    simp [a.lti, a.sz, a.ltm, a.e0, a.c1, a.e10, a.e11, a.c0, a.c10, a.c11, a.le1, a.le4, a.le3, a.le2, a.le11, pol34, c1, c2, c3, p1, p2, p3, p4, p5, p6, hr, c4, c5, c6, a.w]
                    exact h2 _
              · have hs2 : Bd.own ⟨x, .mk v fn args⟩ = false := by simp [Bd.own, noName, c5]
                simp only [hs2, c4]
                refine ⟨fun h => .body ?_, fun h => .body ?_⟩
                · have h2 := fun nx => (hih nx).1 (by simpa using h)
                  conv => arg 1; arg 4; unfold b33_0
                  simp [a.lti, a.sz, a.ltm, a.e0, a.c1, a.e10, a.e11, a.c0, a.c10, a.c11, a.le1, a.le4, a.le3, a.le2, a.le11, pol34, c1, c2, c3, p1, p2, p3, p4, p5, p6, hr, c4, c5, a.w]
                  exact h2 _
                · have h2 := fun nx => (hih nx).2 (by simpa using h)
                  conv => arg 1; arg 4; unfold b33_0
                  simp [a.lti, a.sz, a.ltm, a.e0, a.c1, a.e10, a.e11, a.c0, a.c10, a.c11, a.le1, a.le4, a.le3, a.le2, a.le11, pol34, c1, c2, c3, p1, p2, p3, p4, p5, p6, hr, c4, c5, a.w]
                  exact h2 _
            · refine ⟨fun h => by simp [c4] at h, fun h => .body ?_⟩
              conv => arg 1; arg 4; unfold b33_0
              simp [a.lti, a.sz, a.ltm, a.e0, a.c1, a.le1, a.le4, a.le3, pol34, c1, c2, c3, p1, p2, p3, p4, p5, p6, hr, c4]
              exact .mk rfl
theorem ris_ok (bs : List Bd) (hb : okB bs) : pcl C34 33 [.sl (encB bs) bs.length false none] = some (.bool (isB bs)) := by
  refine pcl_body code33 ?_
  by_cases hn : (4000 : Int) < (bs.length : Int)
  · have : ¬ ((bs.length : Int) ≤ 4000) := by omega
    simp [hn, isB, this]
  · have hn2 : (bs.length : Int) ≤ 4000 := by omega
    have hl := fun y4 y5 y6 => ris_loop bs hb y4 y5 y6 bs.length 0 none 0 (by omega) (.inl ⟨by simp, rfl⟩)
    simp at hl
    simp [hn, isB, hn2]
    generalize hx : aloop _ _ _ _ _ = X
    cases hs : isOk none bs with
    | true =>
      obtain ⟨tl, nx, hl2, rfl⟩ : EndsP X (.exit 0) [.d (.sl (encB bs) bs.length false none), .junk, .d (.bool false)] 74 (fun _ => none) := by
        rw [← hx]; exact (hl _ _ _).1 hs
      simp [hl2]
    | false =>
      obtain ⟨tm, H, nx, rfl, htm⟩ : RetAt X 2 (.d (.bool false)) := by
        rw [← hx]; exact (hl _ _ _).2 hs
      simp [htm]
end Go.Proofs.Ytiafeijkifpfaaa.Am

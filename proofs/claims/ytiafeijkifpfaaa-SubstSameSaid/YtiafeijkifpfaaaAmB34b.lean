/-
  Substitutions that are the same: what the program and the document compute, as the abstract machine runs them. No condition.
-/
import Derived.Test.YtiafeijkifpfaaaAmB34
namespace Go.Proofs.Ytiafeijkifpfaaa.Am
open Go Go.Proofs
set_option maxHeartbeats 4000000
set_option linter.unusedSimpArgs false

theorem pair_ok (x v : Int) (fn : ByteArray) (args : List Term) (x2 v2 : Int) (fn2 : ByteArray) (args2 : List Term) (h : (Term.mk v fn args).ok) (h2 : (Term.mk v2 fn2 args2).ok) :
    pcl C34 70 [.agg [.int .i64 x, .int .i64 v, .str fn, .sl (encL args) args.length false none], .agg [.int .i64 x2, .int .i64 v2, .str fn2, .sl (encL args2) args2.length false none]] = some (.bool (pairB ⟨x, .mk v fn args⟩ ⟨x2, .mk v2 fn2 args2⟩)) := by
  have hs := same_ok _ h _ h2
  refine pcl_body code70 ?_
  unfold pairB
  generalize Term.sameB _ _ = b at hs ⊢
  simp [Term.enc] at hs
  by_cases c : x = x2
  · simp [c, pol34, hs]
  · simp [c, pol34]

theorem bequal_loop (bs us : List Bd) (hb : okB bs) (hu : okB us) (hlen : us.length = bs.length) (y10 y11 y12 y13 y14 : AV) : ∀ (m i : Nat) (nx : Nat), i + m = bs.length →
    (allB pairB (bs.drop i) (us.drop i) = true → EndsP (aloop Try.prog pol34 b69_0 ⟨[true, true, true, false, false, false, true, false, false, false, true, true, true, true, true, true, true, true, false, false, false, false, false, false, false, false, false, false, false, false, false, false], 9⟩
      ⟨[.d (.sl (encB bs) bs.length false none), .d (.sl (encB us) bs.length false none), .d (.fn 70 []), .junk, .junk, .junk, .d (.bool false), .junk, .junk, .junk, y10, y11, y12, y13, y14, .d (.sl (encB bs) bs.length false none), .d (.int .i64 bs.length), .d (.int .i64 i), .junk, .junk, .junk, .junk, .junk, .junk, .junk, .junk, .junk, .junk, .junk, .junk, .junk, .junk], fun _ => none, nx + 9⟩)
      (.exit 0) [.d (.sl (encB bs) bs.length false none), .d (.sl (encB us) bs.length false none), .d (.fn 70 []), .junk, .junk, .junk, .d (.bool false)] 25 (fun _ => none)) ∧
    (allB pairB (bs.drop i) (us.drop i) = false → RetAt (aloop Try.prog pol34 b69_0 ⟨[true, true, true, false, false, false, true, false, false, false, true, true, true, true, true, true, true, true, false, false, false, false, false, false, false, false, false, false, false, false, false, false], 9⟩
      ⟨[.d (.sl (encB bs) bs.length false none), .d (.sl (encB us) bs.length false none), .d (.fn 70 []), .junk, .junk, .junk, .d (.bool false), .junk, .junk, .junk, y10, y11, y12, y13, y14, .d (.sl (encB bs) bs.length false none), .d (.int .i64 bs.length), .d (.int .i64 i), .junk, .junk, .junk, .junk, .junk, .junk, .junk, .junk, .junk, .junk, .junk, .junk, .junk, .junk], fun _ => none, nx + 9⟩) 6 (.d (.bool false))) := by
  intro m
  induction m with
  | zero =>
    intro i nx hi
    obtain rfl : i = bs.length := by omega
    refine ⟨fun _ => .body ?_, fun h => by simp [allB] at h⟩
    simp [b69_0]
    exact .mk rfl rfl
  | succ m ih =>
    intro i nx hi
    obtain ⟨x, v, fn, args, a⟩ := atB_ok hb.1 (i := i) (by omega)
    obtain ⟨x2, v2, fn2, args2, b⟩ := atB_ok hu.1 (i := i) (by omega)
    have hcall := pair_ok x v fn args x2 v2 fn2 args2 (hb.2 _ a.mem) (hu.2 _ b.mem)
    have hih := fun nx => ih (i + 1) nx (by omega)
    rw [a.dr, b.dr]
    have bsz := b.sz
    have bltm := b.ltm
    have ble4 := b.le4
    rw [hlen] at bsz bltm ble4
    cases hp : pairB ⟨x, .mk v fn args⟩ ⟨x2, .mk v2 fn2 args2⟩ with
    | true =>
      rw [hp] at hcall
      have hs : allB pairB (⟨x, .mk v fn args⟩ :: bs.drop (i + 1)) (⟨x2, .mk v2 fn2 args2⟩ :: us.drop (i + 1)) = allB pairB (bs.drop (i + 1)) (us.drop (i + 1)) := by simp [allB, hp]
      rw [hs]
      refine ⟨fun h => .body ?_, fun h => .body ?_⟩
      · have h2 := fun nx => (hih nx).1 h
        conv => arg 1; arg 4; unfold b69_0
        simp [a.lti, a.sz, a.ltm, a.cells, a.le4, b.cells, bsz, bltm, ble4, pol34, hcall, a.w]
        exact h2 _
      · have h2 := fun nx => (hih nx).2 h
        conv => arg 1; arg 4; unfold b69_0
        simp [a.lti, a.sz, a.ltm, a.cells, a.le4, b.cells, bsz, bltm, ble4, pol34, hcall, a.w]
        exact h2 _
    | false =>
      rw [hp] at hcall
      refine ⟨fun h => by simp [allB, hp] at h, fun h => .body ?_⟩
      conv => arg 1; arg 4; unfold b69_0
      simp [a.lti, a.sz, a.ltm, a.cells, a.le4, b.cells, bsz, bltm, ble4, pol34, hcall, a.w]
      exact .mk rfl
theorem bequal_ok (bs us : List Bd) (hb : okB bs) (hu : okB us) : pcl C34 69 [.sl (encB bs) bs.length false none, .sl (encB us) us.length false none, .fn 70 []] = some (.bool (decide (bs.length = us.length) && allB pairB bs us)) := by
  refine pcl_body code69 ?_
  by_cases hl : bs.length = us.length
  · have hloop := fun y10 y11 y12 y13 y14 => bequal_loop bs us hb hu hl.symm y10 y11 y12 y13 y14 bs.length 0 0 (by omega)
    simp at hloop
    rw [← hl]
    simp
    generalize hx : aloop _ _ _ _ _ = X
    cases hs : allB pairB bs us with
    | true =>
      obtain ⟨tl, nx, hl2, rfl⟩ : EndsP X (.exit 0) [.d (.sl (encB bs) bs.length false none), .d (.sl (encB us) bs.length false none), .d (.fn 70 []), .junk, .junk, .junk, .d (.bool false)] 25 (fun _ => none) := by
        rw [← hx]
        exact (hloop _ _ _ _ _).1 hs
      simp [hl2]
    | false =>
      obtain ⟨tm, H, nx, rfl, htm⟩ : RetAt X 6 (.d (.bool false)) := by
        rw [← hx]
        exact (hloop _ _ _ _ _).2 hs
      simp [htm]
  · have : ¬ ((bs.length : Int) = (us.length : Int)) := by omega
    simp [hl, this]
/-- Do two substitutions the same? -/
def substSameB (bs us : List Bd) : Bool := isB bs && isB us && (decide (bs.length = us.length) && allB pairB bs us)
theorem ssame_ok (bs us : List Bd) (hb : okB bs) (hu : okB us) : pcl C34 37 [.sl (encB bs) bs.length false none, .sl (encB us) us.length false none] = some (.bool (substSameB bs us)) := by
  have h1 := sright_ok bs hb
  have h2 := sright_ok us hu
  have h3 := bequal_ok bs us hb hu
  refine pcl_body code37 ?_
  unfold substSameB
  generalize (decide (bs.length = us.length) && allB pairB bs us) = c at h3 ⊢
  generalize isB bs = q1 at h1 ⊢
  generalize isB us = q2 at h2 ⊢
  cases q1
  · simp at h1
    simp [pol34, h1]
  · simp at h1
    cases q2 <;> simp at h2
    · simp [pol34, h1, h2]
    · simp [pol34, h1, h2, h3]

theorem rsame2_loop (bs us : List Bd) (hb : okB bs) (hu : okB us) (hlen : us.length = bs.length) (y6 y7 y8 y9 y10 y11 y12 y13 y14 y15 y16 y17 y18 y19 y20 : AV) : ∀ (m i : Nat) (nx : Nat), i + m = bs.length →
    (allB pairB (bs.drop i) (us.drop i) = true → EndsP (aloop Try.prog pol34 b38_0 ⟨[true, true, false, false, true, true, true, true, true, true, true, true, true, true, true, true, true, true, true, true, true, false, false, false, false, false, false, false, false, false, false, false, false, false, false, false, false, false, false, false, false, false, false, false, false, false, false, false, false, false, false, false], 17⟩
      ⟨[.d (.sl (encB bs) bs.length false none), .d (.sl (encB us) bs.length false none), .junk, .junk, .d (.bool false), .d (.int .i64 i), y6, y7, y8, y9, y10, y11, y12, y13, y14, y15, y16, y17, y18, y19, y20, .junk, .junk, .junk, .junk, .junk, .junk, .junk, .junk, .junk, .junk, .junk, .junk, .junk, .junk, .junk, .junk, .junk, .junk, .junk, .junk, .junk, .junk, .junk, .junk, .junk, .junk, .junk, .junk, .junk, .junk, .junk], fun _ => none, nx + 17⟩)
      (.exit 0) [.d (.sl (encB bs) bs.length false none), .d (.sl (encB us) bs.length false none), .junk, .junk, .d (.bool false)] 47 (fun _ => none)) ∧
    (allB pairB (bs.drop i) (us.drop i) = false → RetAt (aloop Try.prog pol34 b38_0 ⟨[true, true, false, false, true, true, true, true, true, true, true, true, true, true, true, true, true, true, true, true, true, false, false, false, false, false, false, false, false, false, false, false, false, false, false, false, false, false, false, false, false, false, false, false, false, false, false, false, false, false, false, false], 17⟩
      ⟨[.d (.sl (encB bs) bs.length false none), .d (.sl (encB us) bs.length false none), .junk, .junk, .d (.bool false), .d (.int .i64 i), y6, y7, y8, y9, y10, y11, y12, y13, y14, y15, y16, y17, y18, y19, y20, .junk, .junk, .junk, .junk, .junk, .junk, .junk, .junk, .junk, .junk, .junk, .junk, .junk, .junk, .junk, .junk, .junk, .junk, .junk, .junk, .junk, .junk, .junk, .junk, .junk, .junk, .junk, .junk, .junk, .junk, .junk], fun _ => none, nx + 17⟩) 4 (.d (.bool false))) := by
  intro m
  induction m with
  | zero =>
    intro i nx hi
    obtain rfl : i = bs.length := by omega
    refine ⟨fun _ => .body ?_, fun h => by simp [allB] at h⟩
    simp [b38_0]
    exact .mk rfl rfl
  | succ m ih =>
    intro i nx hi
    obtain ⟨x, v, fn, args, a⟩ := atB_ok hb.1 (i := i) (by omega)
    obtain ⟨x2, v2, fn2, args2, b⟩ := atB_ok hu.1 (i := i) (by omega)
    have hcall := rsame_ok _ (hb.2 _ a.mem) _ (hu.2 _ b.mem)
    have hih := fun nx => ih (i + 1) nx (by omega)
    rw [a.dr, b.dr]
    have bsz := b.sz
    have bltm := b.ltm
    have ble4 := b.le4
    have ble1 := b.le1
    have ble3 := b.le3
    rw [hlen] at bsz bltm ble4 ble1 ble3
    have hpe : pairB ⟨x, .mk v fn args⟩ ⟨x2, .mk v2 fn2 args2⟩ = (decide (x = x2) && (Term.mk v fn args).sameB (.mk v2 fn2 args2)) := rfl
    generalize hsm : (Term.mk v fn args).sameB (.mk v2 fn2 args2) = w at hcall hpe
    simp [Term.enc] at hcall
    by_cases c : x = x2
    · cases w with
      | true =>
        have hs : allB pairB (⟨x, .mk v fn args⟩ :: bs.drop (i + 1)) (⟨x2, .mk v2 fn2 args2⟩ :: us.drop (i + 1)) = allB pairB (bs.drop (i + 1)) (us.drop (i + 1)) := by simp only [allB, hpe]; simp [c]
        rw [hs]
        refine ⟨fun h => .body ?_, fun h => .body ?_⟩
        · have h2 := fun nx => (hih nx).1 h
          conv => arg 1; arg 4; unfold b38_0
          simp [a.lti, a.sz, a.ltm, a.e0, a.c1, a.le4, a.le1, a.le3, b.e0, b.c1, bsz, bltm, ble4, ble1, ble3, pol34, hcall, a.w, c]
          exact h2 _
        · have h2 := fun nx => (hih nx).2 h
          conv => arg 1; arg 4; unfold b38_0
          simp [a.lti, a.sz, a.ltm, a.e0, a.c1, a.le4, a.le1, a.le3, b.e0, b.c1, bsz, bltm, ble4, ble1, ble3, pol34, hcall, a.w, c]
          exact h2 _
      | false =>
        refine ⟨fun h => by simp only [allB, hpe] at h; simp at h, fun h => .body ?_⟩
        conv => arg 1; arg 4; unfold b38_0
        simp [a.lti, a.sz, a.ltm, a.e0, a.c1, a.le4, a.le1, a.le3, b.e0, b.c1, bsz, bltm, ble4, ble1, ble3, pol34, hcall, a.w, c]
        exact .mk rfl
    · refine ⟨fun h => by simp only [allB, hpe] at h; simp [c] at h, fun h => .body ?_⟩
      conv => arg 1; arg 4; unfold b38_0
      simp [a.lti, a.sz, a.ltm, a.e0, a.c1, a.le4, a.le1, a.le3, b.e0, b.c1, bsz, bltm, ble4, ble1, ble3, pol34, hcall, a.w, c]
      exact .mk rfl
theorem rssame_ok (bs us : List Bd) (hb : okB bs) (hu : okB us) : pcl C34 38 [.sl (encB bs) bs.length false none, .sl (encB us) us.length false none] = some (.bool (substSameB bs us)) := by
  have h1 := ris_ok bs hb
  have h2 := ris_ok us hu
  refine pcl_body code38 ?_
  unfold substSameB
  generalize isB bs = q1 at h1 ⊢
  generalize isB us = q2 at h2 ⊢
  cases q1 with
  | false => simp [pol34, h1]
  | true =>
    cases q2 with
    | false => simp [pol34, h1, h2]
    | true =>
      by_cases hl : bs.length = us.length
      · have hloop := fun y6 y7 y8 y9 y10 y11 y12 y13 y14 y15 y16 y17 y18 y19 y20 => rsame2_loop bs us hb hu hl.symm y6 y7 y8 y9 y10 y11 y12 y13 y14 y15 y16 y17 y18 y19 y20 bs.length 0 0 (by omega)
        simp at hloop
        rw [← hl] at h2 ⊢
        simp [pol34, h1, h2]
        generalize hx : aloop _ _ _ _ _ = X
        cases hs : allB pairB bs us with
        | true =>
          obtain ⟨tl, nx, hl2, rfl⟩ : EndsP X (.exit 0) [.d (.sl (encB bs) bs.length false none), .d (.sl (encB us) bs.length false none), .junk, .junk, .d (.bool false)] 47 (fun _ => none) := by
            rw [← hx]
            exact (hloop _ _ _ _ _ _ _ _ _ _ _ _ _ _ _).1 hs
          simp [hl2]
        | false =>
          obtain ⟨tm, H, nx, rfl, htm⟩ : RetAt X 4 (.d (.bool false)) := by
            rw [← hx]
            exact (hloop _ _ _ _ _ _ _ _ _ _ _ _ _ _ _).2 hs
          simp [htm]
      · have hl' : ¬ ((bs.length : Int) = (us.length : Int)) := by omega
        simp [pol34, h1, h2, hl, hl']

theorem alive04 : pcl C34 29 [] = some (.bool true) := by
  have h : pcl (oracles Try.prog pol34 60).1 29 [] = some (.bool true) := by kernel_rfl
  exact pcl_mono (fun f vs H nx r h => (acall_some Try.prog pol34).2 ⟨60, h⟩) h
/-- The law's function returns true. -/
theorem substSame_ok (bs us : List Bd) (hb : okB bs) (hu : okB us) : pcl C34 10 [.sl (encB bs) bs.length false none, .sl (encB us) us.length false none] = some (.bool true) := by
  have h1 := ssame_ok bs us hb hu
  have h2 := rssame_ok bs us hb hu
  refine pcl_body code10 ?_
  generalize substSameB bs us = c at h1 h2
  have ha := alive04
  simp [pol34, h1, h2, ha]
end Go.Proofs.Ytiafeijkifpfaaa.Am

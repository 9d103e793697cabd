/-
  Weights and counts: what the program's function does to a map, as the abstract machine runs it. No condition.
-/
import Derived.Test.YtfcedichoigbbaaAmGw
import Derived.Test.YtfcedichoigbbaaAmT
import Derived.Test.YtfcedichoigbbaaAmKb
namespace Go.Proofs.Ytfcedichoigbbaa.Am
open Go Go.Proofs
set_option maxHeartbeats 4000000
set_option linter.unusedSimpArgs false

theorem upd_old {o : Oid} {i : Nat} (h : o.1 < i) (j : Nat) (x : Am.Obj) (H : Hp) : upd H (i, j) x o = H o := by
  simp only [upd]; rw [if_neg]; intro e; rw [e] at h; simp at h
/-- A call that answers a value, turns one object and leaves the others that are older than a number. -/
def Does (f : FuncId) (args : List AV) (o : Oid) (x y : Am.Obj) (v : AV) : Prop :=
  ∀ H nx, o.1 < nx → H o = some x → ∃ q : Hp × Nat, acall Try.prog plc f args H nx = some (v, q.1, q.2) ∧ nx ≤ q.2 ∧ q.1 o = some y ∧ ∀ p, p.1 < nx → p ≠ o → q.1 p = H p
/-- Its answers as functions. -/
theorem Does.fn {f : FuncId} {args : List AV} {o : Oid} {x y : Am.Obj} {v : AV} (h : Does f args o x y v) :
    ∃ (F : Hp → Nat → Hp) (N : Hp → Nat → Nat), ∀ H nx, o.1 < nx → H o = some x → acall Try.prog plc f args H nx = some (v, F H nx, N H nx) ∧ nx ≤ N H nx ∧ F H nx o = some y ∧ ∀ p, p.1 < nx → p ≠ o → F H nx p = H p := by
  have h2 : ∀ z : Hp × Nat, ∃ q : Hp × Nat, o.1 < z.2 → z.1 o = some x → acall Try.prog plc f args z.1 z.2 = some (v, q.1, q.2) ∧ z.2 ≤ q.2 ∧ q.1 o = some y ∧ ∀ p, p.1 < z.2 → p ≠ o → q.1 p = z.1 p := fun z => by
    by_cases h1 : o.1 < z.2 ∧ z.1 o = some x
    · obtain ⟨q, hq⟩ := h z.1 z.2 h1.1 h1.2
      exact ⟨q, fun _ _ => hq⟩
    · exact ⟨default, fun a b => absurd ⟨a, b⟩ h1⟩
  obtain ⟨G, hG⟩ := Classical.skolem.1 h2
  exact ⟨fun H nx => (G (H, nx)).1, fun H nx => (G (H, nx)).2, fun H nx a b => hG (H, nx) a b⟩

theorem below_lt {k : Nat} {H : Hp} {p : Oid} (h : p.1 < k) : below k H p = H p := by simp only [below]; rw [if_pos h]
theorem load_ok (g : Sg) (hg : g.ok) (k : Int) (o : Oid) (t : Term) : t.ok → ∀ m, Does 47 [.d (.agg g.enc), .d (.agg t.enc), .d (.int .i64 k), .map o] o (encM m) (encM (t.loadW g k m).2) (.d (.int .i64 (t.loadW g k m).1)) := by
  refine Term.ind (p := fun t => t.ok → ∀ m, Does 47 [.d (.agg g.enc), .d (.agg t.enc), .d (.int .i64 k), .map o] o (encM m) (encM (t.loadW g k m).2) (.d (.int .i64 (t.loadW g k m).1))) (fun v fn ts ih h m => ?_) t
  intro H nx hlt ho
  have hn := h.1
  have hof := of_ok g hg fn
  simp only [Sg.enc] at hof
  have hne : ∀ k j x H', upd H' (nx + k, j) x o = H' o := fun k j x H' => upd_old (by omega) j x H'
  have hne0 : ∀ j x H', upd H' (nx, j) x o = H' o := fun j x H' => upd_old hlt j x H'
  -- the loop
  have hloop := fun (b : Nat) (hb : nx + 1 < b) (H1 : Hp) (hH1 : H1 (nx, 0) = some (.cells [.d (.sl (encS g.names) g.names.length false none), .d (.sl (encI g.weights) g.weights.length false none)])) (m0 : List (Int × Int)) (h0 : H1 o = some (encM m0)) =>
    loop_rule (P := Try.prog) (pol := plc) (c := b47_0) (m := ⟨[false, false, true, true, true, false, false, false, true, true, false, false, false, false, false, false, false, false, false, false, false, false, false, false, false, false, true, true, true, false, false, false, false, false, false, false, false, false, false, false, true], some b⟩)
    (b := b) (tm := fun (s : Nat × Int × List (Int × Int) × Hp) => [.junk, .junk, .d (.int .i64 k), .map o, .ptr (nx, 0) 0 2, .junk, .junk, .junk, .d (.int .i64 0), .d (.int .i64 s.2.1), .junk, .junk, .junk, .junk, .junk, .junk, .junk, .junk, .junk, .junk, .junk, .junk, .junk, .junk, .junk, .junk, .d (.sl (encL ts) ts.length false none), .d (.int .i64 ts.length), .d (.int .i64 s.1), .junk, .junk, .junk, .junk, .junk, .junk, .junk, .junk, .junk, .junk, .junk, .junk]) (Hf := fun s => s.2.2.2)
    (I := fun s => s.1 ≤ ts.length ∧ s.2.2.2 o = some (encM s.2.2.1) ∧ ∀ p, p.1 < b → p ≠ o → s.2.2.2 p = H1 p) (μ := fun s => ts.length - s.1) (res := fun s => loadWL g k s.2.1 s.2.2.1 (ts.drop s.1))
    (R := fun r e t => ∃ H2 nx2, e = .exit 0 ∧ t = ⟨[.junk, .junk, .d (.int .i64 k), .map o, .ptr (nx, 0) 0 2, .junk, .junk, .junk, .d (.int .i64 0), .d (.int .i64 r.1), .junk, .junk, .junk, .junk, .junk, .junk, .junk, .junk, .junk, .junk, .junk, .junk, .junk, .junk, .junk, .junk, .d (.sl (encL ts) ts.length false none), .d (.int .i64 ts.length), .d (.int .i64 ts.length), .junk, .junk, .junk, .junk, .junk, .junk, .junk, .junk, .junk, .junk, .junk, .junk], H2, nx2⟩ ∧ b ≤ nx2 ∧ H2 o = some (encM r.2) ∧ ∀ p, p.1 < b → p ≠ o → H2 p = H1 p)
    (fun s nx1 hi => by
      obtain ⟨i, acc, m1, HH⟩ := s
      obtain ⟨hi, hHo, hHH⟩ := hi
      simp only at hi hHo hHH
      have hnx : (nx, 0) ≠ o := fun e => by rw [← e] at hlt; simp at hlt
      have hHn := (hHH (nx, 0) (by simp; omega) hnx).trans hH1
      rcases Nat.lt_or_ge i ts.length with hl | hl
      · obtain ⟨v1, fn1, args, a⟩ := at_ok hn hl
        obtain ⟨F, N, hF⟩ := (ih _ a.mem (okL_mem h.2 _ a.mem) m1).fn
        have hne1 : ∀ k j x H', upd H' (nx1 + (b + k), j) x o = H' o := fun k j x H' => upd_old (by omega) j x H'
        have hne2 : ∀ j x H', upd H' (nx1 + b, j) x o = H' o := fun j x H' => upd_old (by omega) j x H'
        have hlo : ∀ k, o.1 < nx1 + (b + k) := fun k => by omega
        have hnx1 : ∀ k j x H', upd H' (nx1 + (b + k), j) x (nx, 0) = H' (nx, 0) := fun k j x H' => upd_old (o := (nx, 0)) (by simp; omega) j x H'
        simp [Term.enc, Sg.enc] at hF
        have hFc := fun H nx h1 h2 => (hF H nx h1 h2).1
        conv => arg 9; arg 4; unfold b47_0
        simp [a.lti, a.sz, a.ltm, a.cells, a.le3, plc_raw, a.w, Nat.add_assoc, hne1, hne2, hlo, hnx1, hHn, hFc, hHo]
        have h4 := hF _ (nx1 + (b + 13)) (hlo 13) (show (upd (upd HH (nx1 + (b + 3), 3) .vnil) (nx1 + (b + 3), 0) (.cells [.d (.int .i64 v1), .d (.str fn1), .d (.sl (encL args) args.length false none)])) o = _ by simp [hne1, hHo])
        refine .next (i + 1, IntKind.i64.wrap (acc + ((Term.mk v1 fn1 args).loadW g k m1).1), ((Term.mk v1 fn1 args).loadW g k m1).2, _) ?_ rfl rfl ⟨hl, ?_, ?_⟩ (by simp; omega) (by simp only [a.dr, loadWL])
        · refine Nat.le_trans (Nat.le_trans ?_ h4.2.1) (Nat.le_add_right _ _)
          omega
        · exact (below_lt (by omega)).trans h4.2.2.1
        · intro a c hp hpo
          refine (below_lt (p := (a, c)) hp).trans ((h4.2.2.2 a c (by omega) hpo).trans ?_)
          rw [upd_old (o := (a, c)) (by simp; omega), upd_old (o := (a, c)) (by simp; omega)]
          exact hHH (a, c) hp hpo
      · obtain rfl : i = ts.length := Nat.le_antisymm hi hl
        have hr : loadWL g k acc m1 (ts.drop ts.length) = (acc, m1) := by simp only [List.drop_length, loadWL]
        simp [b47_0]
        refine .fin _ _ ?_
        simp only [hr]
        exact ⟨trivial, _, _, rfl, by omega, (below_lt (by omega)).trans hHo, fun a c hp hpo => (below_lt (p := (a, c)) hp).trans (hHH (a, c) hp hpo)⟩) (0, g.of fn, m0, H1) ⟨Nat.zero_le _, h0, fun _ _ _ => rfl⟩
  have hno : ∀ k j x H', upd H' o x (nx + k, j) = H' (nx + k, j) := fun k j x H' => by
    simp only [upd]; rw [if_neg]; rintro rfl; simp at hlt; omega
  have hno0 : ∀ j x H', upd H' o x (nx, j) = H' (nx, j) := fun j x H' => by
    simp only [upd]; rw [if_neg]; rintro rfl; simp at hlt
  by_cases hv : fn.toList = []
  · have hr : Term.loadW g k (Term.mk v fn ts) m = loadWL g k (g.of fn) (bump m v k) (ts.drop 0) := by simp [Term.loadW, hv]
    rw [hr]
    obtain ⟨e, t, hrun, H2, nx2, rfl, rfl, hnx2, hH2, hHf⟩ := hloop (nx + 22) (by omega) (upd (upd (upd H (nx, 0) (.cells [.d (.sl (encS g.names) g.names.length false none), .d (.sl (encI g.weights) g.weights.length false none)])) (nx + 1, 0) (.cells [.d (.int .i64 v), .d (.str fn), .d (.sl (encL ts) ts.length false none)])) o (encM (bump m v k))) (by rw [hno0]; simp [upd]) (bump m v k) (by simp)
    refine ⟨(H2, nx2 + 2), acall_body code47 ?_, by simp; omega, hH2, fun p hp hpo => (hHf p (by omega) hpo).trans (by rw [show upd _ o (encM (bump m v k)) p = _ from if_neg hpo, upd_old (by omega), upd_old (by omega)])⟩
    simp [encM] at hrun
    rcases bump_spec v k m 0 with ⟨j, n, h1, h2, h3, h4⟩ | ⟨h1, h2, h3, h4⟩
    · simp at h3
      rw [h4] at hrun
      simp [plc_raw, hv, hof, hlt, Term.enc, Sg.enc, Nat.add_assoc, hne, hne0, ho, hno, hno0, encM, h1, h2, h3, hrun]
    · simp at h3
      rw [h4] at hrun
      simp [plc_raw, hv, hof, hlt, Term.enc, Sg.enc, Nat.add_assoc, hne, hne0, ho, hno, hno0, encM, h1, h2, h3, hrun]
  · obtain ⟨e, t, hrun, H2, nx2, rfl, rfl, hnx2, hH2, hHf⟩ := hloop (nx + 15) (by omega) (upd (upd H (nx, 0) (.cells [.d (.sl (encS g.names) g.names.length false none), .d (.sl (encI g.weights) g.weights.length false none)])) (nx + 1, 0) (.cells [.d (.int .i64 v), .d (.str fn), .d (.sl (encL ts) ts.length false none)])) (by simp [upd]) m (by rw [hne, hne0]; exact ho)
    have hr : Term.loadW g k (Term.mk v fn ts) m = loadWL g k (g.of fn) m (ts.drop 0) := by simp [Term.loadW, hv]
    rw [hr]
    refine ⟨(H2, nx2 + 2), acall_body code47 ?_, by simp; omega, hH2, fun p hp hpo => ?_⟩
    · simp at hrun
      simp [plc_raw, hv, hof, hlt, Term.enc, Sg.enc, Nat.add_assoc, hrun]
    · exact (hHf p (by omega) hpo).trans (by rw [upd_old (by omega), upd_old (by omega)])
end Go.Proofs.Ytfcedichoigbbaa.Am

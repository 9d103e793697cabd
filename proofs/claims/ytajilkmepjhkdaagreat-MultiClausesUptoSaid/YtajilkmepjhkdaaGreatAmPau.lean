/-
  Joined texts: AmNs, AmNt. No condition.
-/
import Derived.Test.YtajilkmepjhkdaaGreatAmPat
/-
 The document's order of clauses. No condition.
-/
namespace Go.Proofs.YtajilkmepjhkdaaGreat.Am
open Go Go.Proofs
set_option maxHeartbeats 4000000
set_option maxRecDepth 20000
set_option linter.unusedSimpArgs false
set_option linter.unusedVariables false
theorem rright9z_ok {c : List Lt} (hc : okC c) (nl : Option Bool) : pcl Cp 18 [.sl (encC c) c.length false nl] = some (.bool (decide (clE c = 0))) := by
 have h := rright6_ok hc false none
 refine pcl_body code18 ?_
 generalize clE c = z at *
 by_cases hz : z = 0 <;> simp [plc_raw, h, hz]
abbrev clTo (x y : List Lt) (nx ny : Bool) (i : Nat) : List AV := [.junk, .junk, .junk, .ptr (0, 0) 0 3, .junk, .junk, .d (.bool false), .d (.sl (encC x) x.length false (some nx)), .d (.sl (encC y) y.length false (some ny)), .d (.int .i64 i), .junk, .junk, .junk, .junk, .junk, .junk, .junk, .junk, .junk, .junk, .junk, .junk, .junk, .junk, .junk, .junk, .junk, .junk, .junk, .junk, .junk, .junk, .junk, .junk, .junk, .junk, .junk, .junk, .junk, .junk, .junk, .junk, .junk, .junk, .junk, .junk, .junk, .junk, .junk]
abbrev clTi (x y : List Lt) (nx ny : Bool) (i : Nat) (b : Bool) (k : Nat) : List AV := [.junk, .junk, .junk, .ptr (0, 0) 0 3, .junk, .junk, .d (.bool false), .d (.sl (encC x) x.length false (some nx)), .d (.sl (encC y) y.length false (some ny)), .d (.int .i64 i), .d (.bool b), .d (.int .i64 k), .junk, .junk, .junk, .junk, .junk, .junk, .junk, .junk, .junk, .junk, .junk, .junk, .junk, .junk, .junk, .junk, .junk, .junk, .junk, .junk, .junk, .junk, .junk, .junk, .junk, .junk, .junk, .junk, .junk, .junk, .junk, .junk, .junk, .junk, .junk, .junk, .junk]
theorem cls_in (o : Od) (hg : o.g.ok) {x y : List Lt} (hx : ∀ t ∈ x, t.ok ∧ t.sm) (hy : ∀ t ∈ y, t.ok ∧ t.sm) (lx : x.length ≤ 1048576) (ly : y.length ≤ 1048576) (nx ny : Bool) {N i : Nat} {H : Hp} (hH : below N H = H) (h0 : H (0, 0) = some (.cells (o.enc.map .d))) (hi : i < y.length) :
  ∃ e t, aloop Tryz.prog plc b20_0 ⟨[false, false, false, true, false, false, true, true, true, true, true, true, false, false, false, false, false, false, false, false, false, false, false, false, false, true, true, false, false, false, false, false, false, false, false, false, false, false, false, false, false, false, false, false, false, false, false, true, true], some N⟩ ⟨clTi x y nx ny i false 0, H, N⟩ = some (e, t) ∧ (e = .exit 2 ∧ ∃ M, N ≤ M ∧ t = ⟨clTi x y nx ny i (x.any fun s => decide (litsF o.g.right o.cmp s y[i] = 1)) x.length, H, M⟩) := by
 have h := loop_rule (P := Tryz.prog) (pol := plc) (c := b20_0) (m := ⟨[false, false, false, true, false, false, true, true, true, true, true, true, false, false, false, false, false, false, false, false, false, false, false, false, false, true, true, false, false, false, false, false, false, false, false, false, false, false, false, false, false, false, false, false, false, false, false, true, true], some N⟩)
  (b := N) (tm := fun (s : Bool × Nat) => clTi x y nx ny i s.1 s.2) (Hf := fun _ => H)
  (I := fun s => s.2 ≤ x.length) (μ := fun s => x.length - s.2) (res := fun s => s.1 || (x.drop s.2).any fun s => decide (litsF o.g.right o.cmp s y[i] = 1)) (R := fun r e t => e = .exit 2 ∧ ∃ M, N ≤ M ∧ t = ⟨clTi x y nx ny i r x.length, H, M⟩)
  (fun s nx1 hk => by
   obtain ⟨b, k⟩ := s
   simp only at hk
   rcases Nat.lt_or_ge k x.length with hl | hl
   ·have hcall := rLits_ok o hg (hx _ (List.getElem_mem hl)).1 (hy _ (List.getElem_mem hi)).1 (hx _ (List.getElem_mem hl)).2 (hy _ (List.getElem_mem hi)).2
    have hd : x.drop k = x[k] :: x.drop (k + 1) := List.drop_eq_getElem_cons hl
    obtain ⟨n, v, fn, args, v2, fn2, args2, a⟩ := atC_ok (c := x) (by omega) hl
    obtain ⟨m, w, fm, brgs, w2, fm2, brgs2, a2⟩ := atC_ok (c := y) (by omega) hi
    have e1 : x[k] = ⟨n, .mk v fn args, .mk v2 fn2 args2⟩ := a.get
    have e2 : y[i] = ⟨m, .mk w fm brgs, .mk w2 fm2 brgs2⟩ := a2.get
    generalize hc : litsF o.g.right o.cmp x[k] y[i] = c at hcall
    rw [e1, e2] at hcall
    obtain ⟨p, g⟩ := o
    simp [Od.enc, Sg.enc, Lt.enc, Term.enc] at hcall h0
    conv => arg 9; arg 4; unfold b20_0
    cases b with
    | true =>
     simp [a.lti, a.sz, a.ltm, a.cells, a.le7, a.w, plc_raw, hH]
     exact .next (true, k + 1) (by omega) (by simp) rfl hl (by simp only; omega) (by simp)
    | false =>
     simp [a.lti, a.sz, a.ltm, a.cells, a.le7, a2.lti, a2.sz, a2.ltm, a2.cells, a2.le7, a.w, plc_raw, hH, h0, hcall]
     exact .next (decide (c = 1), k + 1) (by omega) (by simp) rfl hl (by simp only; omega) (by simp only [hd, List.any_cons, hc, Bool.false_or])
   ·obtain rfl : k = x.length := Nat.le_antisymm hk hl
    simp [b20_0, hH]
    exact .fin _ _ ⟨rfl, nx1 + N + 4, by omega, by simp⟩) (false, 0) (Nat.zero_le _)
 simpa using h
theorem cls_out (o : Od) (hg : o.g.ok) {x y : List Lt} (hx : ∀ t ∈ x, t.ok ∧ t.sm) (hy : ∀ t ∈ y, t.ok ∧ t.sm) (lx : x.length ≤ 1048576) (ly : y.length ≤ 1048576) (nx ny : Bool) {N : Nat} {H : Hp} (hH : below N H = H) (h0 : H (0, 0) = some (.cells (o.enc.map .d))) :
  ∃ e t, aloop Tryz.prog plc b20_1 ⟨[false, false, false, true, false, false, true, true, true, true, false, false, false, false, false, false, false, false, false, false, false, false, false, false, false, false, false, false, false, false, false, false, false, false, false, false, false, false, false, false, false, false, false, false, false, false, false, false, false], some N⟩ ⟨clTo x y nx ny 0, H, N⟩ = some (e, t) ∧ (if y.all (fun t => x.any fun s => decide (litsF o.g.right o.cmp s t = 1)) then AtExit 0 (clTo x y nx ny y.length) H e t else AtRet 6 (.d (.bool false)) e t) := by
 have h := loop_rule (P := Tryz.prog) (pol := plc) (c := b20_1) (m := ⟨[false, false, false, true, false, false, true, true, true, true, false, false, false, false, false, false, false, false, false, false, false, false, false, false, false, false, false, false, false, false, false, false, false, false, false, false, false, false, false, false, false, false, false, false, false, false, false, false, false], some N⟩)
  (b := N) (tm := fun (i : Nat) => clTo x y nx ny i) (Hf := fun _ => H)
  (I := fun i => i ≤ y.length) (μ := fun i => y.length - i) (res := fun i => (y.drop i).all fun t => x.any fun s => decide (litsF o.g.right o.cmp s t = 1)) (R := fun r e t => if r then AtExit 0 (clTo x y nx ny y.length) H e t else AtRet 6 (.d (.bool false)) e t)
  (fun i nx1 hi => by
   rcases Nat.lt_or_ge i y.length with hl | hl
   ·obtain ⟨e, t, hrun, rfl, N2, hN2, rfl⟩ := cls_in o hg hx hy lx ly nx ny (N := nx1 + N + 6) (i := i) (H := H) (below_more hH (by omega)) h0 hl
    have hd : y.drop i = y[i] :: y.drop (i + 1) := List.drop_eq_getElem_cons hl
    have hil : (i : Int) < (y.length : Int) := by omega
    have hiw : IntKind.i64.wrap ((i : Int) + 1) = (i : Int) + 1 := wrap_i64 (by omega) (by omega)
    generalize hb : (x.any fun s => decide (litsF o.g.right o.cmp s y[i] = 1)) = b at hrun
    have z0 : ((0 : Nat) : Int) = 0 := rfl
    simp only [clTi, z0] at hrun
    conv => arg 9; arg 4; unfold b20_1
    cases b with
    | true =>
     simp only [Nat.add_assoc, Nat.reduceAdd] at hrun
     simp [hil, hiw, hrun, Nat.add_assoc, hH]
     exact .next (i + 1) (by omega) (by simp) rfl hl (by omega) (by simp only [hd, List.all_cons, hb, Bool.true_and])
    | false =>
     simp only [Nat.add_assoc, Nat.reduceAdd] at hrun
     simp [hil, hiw, hrun, Nat.add_assoc, hH]
     exact .fin _ _ (by simp only [hd, List.all_cons, hb, Bool.false_and, Bool.false_eq_true, if_false]; exact ⟨rfl, rfl⟩)
   ·obtain rfl : i = y.length := Nat.le_antisymm hi hl
    simp [b20_1, hH]
    exact .fin _ _ (by simp; exact .mk)) 0 (Nat.zero_le _)
 simpa using h
theorem less_ok {c d : List Lt} (hc : okC c) (hd : okC d) (nc : c.length ≤ 1048576) (nd : d.length ≤ 1048576) : ∃ nl : Bool, pcl Cp 19 [.sl (encC c) c.length false none, .sl (encC d) d.length false none] = some (.sl (encC (restF Lt.same c d)) (restF Lt.same c d).length false (some nl)) :=
 woL_ok (same := Lt.same) (fun s t hs ht => rlSame_ok s t hs ht) nc nd hc.2 hd.2 false false none none
theorem clause_ok (o : Od) (hg : o.g.ok) {c d : List Lt} (hc : okC c) (hd : okC d) (nc : c.length ≤ 1048576) (nd : d.length ≤ 1048576) (zc : ∀ x ∈ c, x.sm) (zd : ∀ x ∈ d, x.sm) :
  pcl Cp 20 [.agg o.enc, .sl (encC c) c.length false none, .sl (encC d) d.length false none] = some (.bool (coversF (fun s t => decide (litsF o.g.right o.cmp s t = 1)) (restF Lt.same c d) (restF Lt.same d c))) := by
 obtain ⟨nx, h4⟩ := less_ok hc hd nc nd
 obtain ⟨ny, h5⟩ := less_ok hd hc nd nc
 have ok1 : ∀ t ∈ restF Lt.same c d, t.ok ∧ t.sm := fun t ht => ⟨hc.2 t (rest_mem _ _ t ht), zc t (rest_mem _ _ t ht)⟩
 have ok2 : ∀ t ∈ restF Lt.same d c, t.ok ∧ t.sm := fun t ht => ⟨hd.2 t (rest_mem _ _ t ht), zd t (rest_mem _ _ t ht)⟩
 have l1 := Nat.le_trans (rest_len (same := Lt.same) c d) nc
 have l2 := Nat.le_trans (rest_len (same := Lt.same) d c) nd
 obtain ⟨H0, hH0⟩ : ∃ H0 : Hp, H0 = upd (fun _ => none) (0, 0) (.cells (o.enc.map .d)) := ⟨_, rfl⟩
 have g0 : H0 (0, 0) = some (.cells (o.enc.map .d)) := by rw [hH0]; simp
 obtain ⟨e, t, hrun, hR⟩ := cls_out o hg ok1 ok2 l1 l2 nx ny (N := 14) (H := H0) (by rw [hH0]; simp) g0
 refine pcl_body code20 ?_
 have hco : coversF (fun s t => decide (litsF o.g.right o.cmp s t = 1)) (restF Lt.same c d) (restF Lt.same d c) = (!(restF Lt.same c d).isEmpty && (restF Lt.same d c).all fun t => (restF Lt.same c d).any fun s => decide (litsF o.g.right o.cmp s t = 1)) := rfl
 rw [hco]
 generalize ((restF Lt.same d c).all fun t => (restF Lt.same c d).any fun s => decide (litsF o.g.right o.cmp s t = 1)) = r at *
 generalize restF Lt.same c d = xs at *
 generalize restF Lt.same d c = ys at *
 obtain ⟨p, g⟩ := o
 simp [clTo, Sg.enc, Od.enc] at h4 h5 hrun hH0 g0
 by_cases hz : xs.length = 0
 ·have hz' : (xs.length : Int) = 0 := by omega
  obtain rfl := List.length_eq_zero_iff.1 hz
  simp at h4
  simp [-isNil, isNil_sl, isNil_int, isNil_bool, isNil_str, isNil_agg, isNil_dptr, isNil_fn, isNil_fna, isNil_osl, isNil_ptr, isNil_agga, Od.enc, Sg.enc, plc_raw, h4, h5]
 ·have hz' : ¬ (xs.length : Int) = 0 := by omega
  have hze : ¬ xs = [] := fun e => hz (by rw [e]; rfl)
  have hzi : xs.isEmpty = false := by cases xs; exact absurd rfl hze; rfl
  cases r
  ·obtain ⟨rfl, hv⟩ := hR
   simp [-isNil, isNil_sl, isNil_int, isNil_bool, isNil_str, isNil_agg, isNil_dptr, isNil_fn, isNil_fna, isNil_osl, isNil_ptr, isNil_agga, Od.enc, Sg.enc, plc_raw, h4, h5, hz, hz', hze, hzi, ← hH0, g0, hrun, hv]
  ·obtain ⟨rfl, N2, rfl⟩ := hR
   simp [-isNil, isNil_sl, isNil_int, isNil_bool, isNil_str, isNil_agg, isNil_dptr, isNil_fn, isNil_fna, isNil_osl, isNil_ptr, isNil_agga, Od.enc, Sg.enc, plc_raw, h4, h5, hz, hz', hze, hzi, ← hH0, g0, hrun]
theorem rCls_ok (o : Od) (hg : o.g.ok) {c d : List Lt} (hc : okC c) (hd : okC d) (nc : c.length ≤ 1048576) (nd : d.length ≤ 1048576) (zc : ∀ x ∈ c, x.sm) (zd : ∀ x ∈ d, x.sm) :
  pcl Cp 8 [.agg o.enc, .sl (encC c) c.length false none, .sl (encC d) d.length false none] = some (.int .i64 (clausesF o.g.right o.cmp c d)) := by
 have h1 := grright_ok o.g hg
 have e1 := rright9z_ok hc none
 have e2 := rright9z_ok hd none
 obtain ⟨nx, h4⟩ := less_ok hc hd nc nd
 obtain ⟨ny, h5⟩ := less_ok hd hc nd nc
 have h6 := clause_ok o hg hc hd nc nd zc zd
 have h7 := clause_ok o hg hd hc nd nc zd zc
 have l1 := Nat.le_trans (rest_len (same := Lt.same) c d) nc
 have l2 := Nat.le_trans (rest_len (same := Lt.same) d c) nd
 rw [clausesF_B]
 refine pcl_body code8 ?_
 unfold extF
 generalize coversF _ (restF Lt.same c d) (restF Lt.same d c) = c1 at *
 generalize coversF _ (restF Lt.same d c) (restF Lt.same c d) = c2 at *
 generalize restF Lt.same c d = xs at *
 generalize restF Lt.same d c = ys at *
 generalize clE c = z1 at *
 generalize clE d = z2 at *
 obtain ⟨p, g⟩ := o
 simp only at h1 ⊢
 generalize g.right = gr at *
 simp [Sg.enc, Od.enc] at h1 h4 h5 h6 h7
 cases gr
 ·simp [Od.enc, Sg.enc, plc_raw, h1]
 by_cases hz1 : z1 = 0
 ·by_cases hz2 : z2 = 0
  ·have hw : IntKind.i64.wrap ((xs.length : Int) + (ys.length : Int)) = (xs.length : Int) + (ys.length : Int) := wrap_i64 (by omega) (by omega)
   have hw0 : IntKind.i64.wrap 0 = 0 := by decide
   by_cases h0 : xs.length + ys.length = 0
   ·have h0' : (xs.length : Int) + (ys.length : Int) = 0 := by omega
    simp [hw0, Od.enc, Sg.enc, plc_raw, h1, e1, e2, hz1, hz2, h4, h5, hw, h0, h0']
   ·have h0' : ¬ (xs.length : Int) + (ys.length : Int) = 0 := by omega
    have h00 : xs = [] → ¬ ys = [] := fun e1 e2 => h0 (by rw [e1, e2]; rfl)
    cases c1
    ·cases c2 <;> simp [Od.enc, Sg.enc, plc_raw, h1, e1, e2, hz1, hz2, h4, h5, h6, h7, hw, h0, h0'] <;> exact h00
    ·simp [Od.enc, Sg.enc, plc_raw, h1, e1, e2, hz1, hz2, h4, h5, h6, hw, h0, h0']; exact h00
  ·simp [Od.enc, Sg.enc, plc_raw, h1, e1, e2, hz1, hz2]
 ·simp [Od.enc, Sg.enc, plc_raw, h1, e1, hz1]
end Go.Proofs.YtajilkmepjhkdaaGreat.Am

/-
 The law on clauses: the function returns true. No condition.
-/
namespace Go.Proofs.YtajilkmepjhkdaaGreat.Am
open Go Go.Proofs
set_option maxHeartbeats 4000000
set_option maxRecDepth 20000
set_option linter.unusedSimpArgs false
set_option linter.unusedVariables false
theorem multiClauses_ok (o : Od) (hg : o.g.ok) (c : List Lt × Bool) (hc : okC c.1 ∧ (c.2 = true → c.1 = [])) (nc : c.1.length ≤ 1048576) (zc : ∀ x ∈ c.1, x.l.size ≤ 1048576 ∧ x.r.size ≤ 1048576)
  (d : List Lt × Bool) (hd : okC d.1 ∧ (d.2 = true → d.1 = [])) (nd : d.1.length ≤ 1048576) (zd : ∀ x ∈ d.1, x.l.size ≤ 1048576 ∧ x.r.size ≤ 1048576) :
  pcl Cp 3 [.agg o.enc, .sl (encC c.1) c.1.length false (some c.2), .sl (encC d.1) d.1.length false (some d.2)] = some (.bool true) := by
 have h1 := light_ok (xs := [(c.1, none), (d.1, none)]) (by simp) (fun x hx => by simp at hx; rcases hx with rfl | rfl; exact hc.1; exact hd.1)
 have k1 := mCls_ok o hg hc.1 hd.1 nc nd zc zd c.2 d.2 hc.2 hd.2
 have k2 := rCls_ok o hg hc.1 hd.1 nc nd zc zd
 have h6 := own9_ok o
 have h7 := alive09_ok
 refine pcl_body code3 ?_
 generalize lightB _ = r at h1
 generalize clausesF o.g.right o.cmp c.1 d.1 = x at k1 k2
 obtain ⟨p, g⟩ := o
 obtain ⟨c, c2⟩ := c
 obtain ⟨d, d2⟩ := d
 simp only at h1 k1 k2 ⊢
 simp [cellC, Od.enc, Sg.enc] at h1 k1 k2 h6
 cases r
 ·simp [Od.enc, Sg.enc, plc_raw, h1, h7]
 ·simp [Od.enc, Sg.enc, plc_raw, h1, h6, h7, k1, k2]
end Go.Proofs.YtajilkmepjhkdaaGreat.Am


/-
  Joined texts: AmNk, AmNl, AmNm, AmNn. No condition.
-/
import Derived.Test.YtajilkmepjhkdaaAmPas
/-
 The document: which literals of a clause are maximal. No condition.
-/
namespace Go.Proofs.Ytajilkmepjhkdaa.Am
open Go Go.Proofs
set_option maxHeartbeats 4000000
set_option maxRecDepth 20000
set_option linter.unusedSimpArgs false
set_option linter.unusedVariables false
theorem rright9_ok {c : List Lt} (hc : okC c) (nl : Option Bool) : pcl Cp 39 [.sl (encC c) c.length false nl] = some (.bool (decide (clE c = 0))) := by
 have h := rright6_ok hc false none
 refine pcl_body code39 ?_
 generalize clE c = z at *
 by_cases hz : z = 0 <;> simp [plc_raw, h, hz]
abbrev rmT (c : List Lt) (i : Int) (k : Nat) : List AV := [.junk, .d (.sl (encC c) c.length false none), .d (.int .i64 i), .ptr (0, 0) 0 3, .junk, .junk, .d (.bool false), .d (.int .i64 k), .junk, .junk, .junk, .junk, .junk, .junk, .junk, .junk, .junk, .junk, .junk, .junk, .junk, .junk, .junk, .junk, .junk, .junk, .junk, .junk, .junk, .junk, .junk, .junk, .junk, .junk, .junk, .junk, .junk, .junk, .junk, .junk, .junk, .junk, .junk, .junk, .junk, .junk, .junk, .junk, .junk]
theorem rmax_loop (o : Od) (hg : o.g.ok) {c : List Lt} (hc : okC c) (hn : c.length ≤ 1048576) (hz : ∀ x ∈ c, x.sm) {i : Nat} (hi : i < c.length) {N : Nat} {H : Hp} (hH : below N H = H) (h0 : H (0, 0) = some (.cells (o.enc.map .d))) :
  ∃ e t, aloop Try.prog plc b15_0 ⟨[false, true, true, true, false, false, true, true, false, false, false, false, false, false, false, false, false, false, false, false, false, false, false, false, false, false, false, false, false, false, false, false, false, false, false, false, false, false, false, false, false, false, false, false, false, false, false, false, false], some N⟩ ⟨rmT c i 0, H, N⟩ = some (e, t) ∧ (if freeF i (fun l => decide (litsF o.g.right o.cmp l c[i] = 1)) 0 c then AtExit 0 (rmT c i c.length) H e t else AtRet 6 (.d (.bool false)) e t) := by
 have h := loop_rule (P := Try.prog) (pol := plc) (c := b15_0) (m := ⟨[false, true, true, true, false, false, true, true, false, false, false, false, false, false, false, false, false, false, false, false, false, false, false, false, false, false, false, false, false, false, false, false, false, false, false, false, false, false, false, false, false, false, false, false, false, false, false, false, false], some N⟩)
  (b := N) (tm := fun (k : Nat) => rmT c i k) (Hf := fun _ => H)
  (I := fun k => k ≤ c.length) (μ := fun k => c.length - k) (res := fun k => freeF i (fun l => decide (litsF o.g.right o.cmp l c[i] = 1)) k (c.drop k)) (R := fun r e t => if r then AtExit 0 (rmT c i c.length) H e t else AtRet 6 (.d (.bool false)) e t)
  (fun k nx1 hk => by
   rcases Nat.lt_or_ge k c.length with hl | hl
   ·have hcall := rLits_ok o hg (hc.2 _ (List.getElem_mem hl)) (hc.2 _ (List.getElem_mem hi)) (hz _ (List.getElem_mem hl)) (hz _ (List.getElem_mem hi))
    have hd : freeF i (fun l => decide (litsF o.g.right o.cmp l c[i] = 1)) k (c.drop k) = if (k : Int) ≠ i ∧ decide (litsF o.g.right o.cmp c[k] c[i] = 1) = true then false else freeF i (fun l => decide (litsF o.g.right o.cmp l c[i] = 1)) (k + 1) (c.drop (k + 1)) := by rw [List.drop_eq_getElem_cons hl]; rfl
    obtain ⟨n, v, fn, args, v2, fn2, args2, a⟩ := atC_ok hc.1 hl
    obtain ⟨m, w, fm, brgs, w2, fm2, brgs2, a2⟩ := atC_ok hc.1 hi
    have e1 : c[k] = ⟨n, .mk v fn args, .mk v2 fn2 args2⟩ := a.get
    have e2 : c[i] = ⟨m, .mk w fm brgs, .mk w2 fm2 brgs2⟩ := a2.get
    generalize hq : litsF o.g.right o.cmp c[k] c[i] = z at hcall hd
    rw [e1, e2] at hcall
    simp only [Od.enc, Sg.enc] at hcall h0
    simp [Lt.enc, Term.enc] at hcall h0
    conv => arg 9; arg 4; unfold b15_0
    by_cases hki : k = i
    ·subst hki
     rw [if_neg (by simp)] at hd
     simp [a.lti, a.sz, a.ltm, a.cells, a.le7, a.w, hH]
     exact .next (k + 1) (by omega) (by simp) rfl hl (by omega) (by simp only [hd])
    ·have hki' : ¬ (k : Int) = i := by omega
     by_cases h1 : z = 1
     ·rw [if_pos ⟨hki', by simp [h1]⟩] at hd
      simp [a.lti, a.sz, a.ltm, a.cells, a.le7, a.w, a2.lti, a2.sz, a2.ltm, a2.cells, a2.le7, hki, hki', hH, h0, plc_raw, hcall, h1]
      exact .fin _ _ (by simp only [hd, Bool.false_eq_true, if_false]; exact ⟨rfl, rfl⟩)
     ·rw [if_neg (by simp [h1])] at hd
      simp [a.lti, a.sz, a.ltm, a.cells, a.le7, a.w, a2.lti, a2.sz, a2.ltm, a2.cells, a2.le7, hki, hki', hH, h0, plc_raw, hcall, h1]
      exact .next (k + 1) (by omega) (by simp) (by simp) hl (by omega) (by simp only [hd])
   ·obtain rfl : k = c.length := Nat.le_antisymm hk hl
    simp [b15_0, hH]
    exact .fin _ _ (by simp [freeF]; exact .mk)) 0 (Nat.zero_le _)
 simpa using h
theorem rMax_ok (o : Od) (hg : o.g.ok) {c : List Lt} (hc : okC c) (hn : c.length ≤ 1048576) (hz : ∀ x ∈ c, x.sm) (i : Int) : pcl Cp 15 [.agg o.enc, .sl (encC c) c.length false none, .int .i64 i] = some (.bool (maxB o.g.right o.cmp c i)) := by
 have h1 := grright_ok o.g hg
 have h2 := rright9_ok hc none
 unfold maxB
 by_cases hi : 0 ≤ i
 ·by_cases hl : i < c.length
  ·obtain ⟨k, rfl⟩ : ∃ k : Nat, i = k := ⟨i.toNat, by omega⟩
   have hk : k < c.length := by omega
   have e : c[(k : Int).toNat]? = some c[k] := by simp [hk]
   rw [e]
   simp only
   have k0 : ¬ (k : Int) < 0 := by omega
   have k1 : ¬ c.length ≤ k := by omega
   obtain ⟨H0, hH0⟩ : ∃ H0 : Hp, H0 = upd (fun _ => none) (0, 0) (.cells (o.enc.map .d)) := ⟨_, rfl⟩
   have g0 : H0 (0, 0) = some (.cells (o.enc.map .d)) := by rw [hH0]; simp
   obtain ⟨e, t, hrun, hR⟩ := rmax_loop o hg hc hn hz hk (N := 22) (H := H0) (by rw [hH0]; simp) g0
   refine pcl_body code15 ?_
   generalize freeF k (fun l => decide (litsF o.g.right o.cmp l c[k] = 1)) 0 c = f at *
   generalize clE c = z at *
   obtain ⟨p, g⟩ := o
   simp only at h1
   generalize g.right = gr at *
   simp [rmT, Od.enc, Sg.enc] at h1 hrun hH0 g0
   cases gr
   ·simp [Od.enc, Sg.enc, plc_raw, h1]
   ·by_cases hz0 : z = 0
    ·cases f
     ·obtain ⟨rfl, hv⟩ := hR
      simp [Od.enc, Sg.enc, plc_raw, h1, h2, hz0, hi, hl, hk, k0, k1, ← hH0, g0, hrun, hv]
     ·obtain ⟨rfl, nx, rfl⟩ := hR
      simp [Od.enc, Sg.enc, plc_raw, h1, h2, hz0, hi, hl, hk, k0, k1, ← hH0, g0, hrun]
    ·simp [Od.enc, Sg.enc, plc_raw, h1, h2, hz0]
  ·refine pcl_body code15 ?_
   generalize clE c = z at *
   obtain ⟨p, g⟩ := o
   simp only at h1 ⊢
   generalize g.right = gr at *
   simp [Od.enc, Sg.enc] at h1
   have hl' : (c.length : Int) ≤ i := by omega
   have hi' : ¬ i < 0 := by omega
   cases gr
   ·simp [Od.enc, Sg.enc, plc_raw, h1]
   ·by_cases hz0 : z = 0 <;> simp [Od.enc, Sg.enc, plc_raw, h1, h2, hz0, hi, hi', hl, hl']
 ·refine pcl_body code15 ?_
  generalize clE c = z at *
  obtain ⟨p, g⟩ := o
  simp only at h1 ⊢
  generalize g.right = gr at *
  simp [Od.enc, Sg.enc] at h1
  have hi' : i < 0 := by omega
  cases gr
  ·simp [Od.enc, Sg.enc, plc_raw, h1]
  ·by_cases hz0 : z = 0 <;> simp [Od.enc, Sg.enc, plc_raw, h1, h2, hz0, hi, hi']
abbrev rsT (c : List Lt) (i : Int) (k : Nat) : List AV := [.junk, .d (.sl (encC c) c.length false none), .d (.int .i64 i), .junk, .junk, .junk, .d (.bool false), .d (.int .i64 k), .junk, .junk, .junk, .junk, .junk, .junk, .junk, .junk, .junk, .junk, .junk, .junk, .junk, .junk, .junk, .junk, .junk, .junk, .junk, .junk, .junk, .junk, .junk, .junk, .junk]
theorem rstr_loop {c : List Lt} (hc : okC c) (hn : c.length ≤ 1048576) {i : Nat} (hi : i < c.length) {N : Nat} {H : Hp} (hH : below N H = H) :
  ∃ e t, aloop Try.prog plc b17_0 ⟨[false, true, true, false, false, false, true, true, false, false, false, false, false, false, false, false, false, false, false, false, false, false, false, false, false, false, false, false, false, false, false, false, false], some N⟩ ⟨rsT c i 0, H, N⟩ = some (e, t) ∧ (if freeF i (fun l => l.same c[i]) 0 c then AtExit 0 (rsT c i c.length) H e t else AtRet 6 (.d (.bool false)) e t) := by
 have h := loop_rule (P := Try.prog) (pol := plc) (c := b17_0) (m := ⟨[false, true, true, false, false, false, true, true, false, false, false, false, false, false, false, false, false, false, false, false, false, false, false, false, false, false, false, false, false, false, false, false, false], some N⟩)
  (b := N) (tm := fun (k : Nat) => rsT c i k) (Hf := fun _ => H)
  (I := fun k => k ≤ c.length) (μ := fun k => c.length - k) (res := fun k => freeF i (fun l => l.same c[i]) k (c.drop k)) (R := fun r e t => if r then AtExit 0 (rsT c i c.length) H e t else AtRet 6 (.d (.bool false)) e t)
  (fun k nx1 hk => by
   rcases Nat.lt_or_ge k c.length with hl | hl
   ·have hcall := rlSame_ok _ _ (hc.2 _ (List.getElem_mem hl)) (hc.2 _ (List.getElem_mem hi))
    have hd : freeF i (fun l => l.same c[i]) k (c.drop k) = if (k : Int) ≠ i ∧ c[k].same c[i] = true then false else freeF i (fun l => l.same c[i]) (k + 1) (c.drop (k + 1)) := by rw [List.drop_eq_getElem_cons hl]; rfl
    obtain ⟨n, v, fn, args, v2, fn2, args2, a⟩ := atC_ok hc.1 hl
    obtain ⟨m, w, fm, brgs, w2, fm2, brgs2, a2⟩ := atC_ok hc.1 hi
    have e1 : c[k] = ⟨n, .mk v fn args, .mk v2 fn2 args2⟩ := a.get
    have e2 : c[i] = ⟨m, .mk w fm brgs, .mk w2 fm2 brgs2⟩ := a2.get
    generalize hq : c[k].same c[i] = z at hcall hd
    rw [e1, e2] at hcall
    simp [Lt.enc, Term.enc] at hcall
    conv => arg 9; arg 4; unfold b17_0
    by_cases hki : k = i
    ·subst hki
     rw [if_neg (by simp)] at hd
     simp [a.lti, a.sz, a.ltm, a.cells, a.le7, a.w, hH]
     exact .next (k + 1) (by omega) (by simp) rfl hl (by omega) (by simp only [hd])
    ·have hki' : ¬ (k : Int) = i := by omega
     cases z
     ·rw [if_neg (by simp)] at hd
      simp [a.lti, a.sz, a.ltm, a.cells, a.le7, a.w, a2.lti, a2.sz, a2.ltm, a2.cells, a2.le7, hki, hki', hH, plc_raw, hcall]
      exact .next (k + 1) (by omega) (by simp) (by simp) hl (by omega) (by simp only [hd])
     ·rw [if_pos ⟨hki', rfl⟩] at hd
      simp [a.lti, a.sz, a.ltm, a.cells, a.le7, a.w, a2.lti, a2.sz, a2.ltm, a2.cells, a2.le7, hki, hki', hH, plc_raw, hcall]
      exact .fin _ _ (by simp only [hd, Bool.false_eq_true, if_false]; exact ⟨rfl, rfl⟩)
   ·obtain rfl : k = c.length := Nat.le_antisymm hk hl
    simp [b17_0, hH]
    exact .fin _ _ (by simp [freeF]; exact .mk)) 0 (Nat.zero_le _)
 simpa using h
theorem rStr_ok (o : Od) (hg : o.g.ok) {c : List Lt} (hc : okC c) (hn : c.length ≤ 1048576) (hz : ∀ x ∈ c, x.sm) (i : Int) : pcl Cp 17 [.agg o.enc, .sl (encC c) c.length false none, .int .i64 i] = some (.bool (strB o.g.right o.cmp c i)) := by
 have h1 := rMax_ok o hg hc hn hz i
 unfold strB
 have hm : maxB o.g.right o.cmp c i = true → 0 ≤ i ∧ i < c.length := fun h => by
  unfold maxB at h
  simp only [Bool.and_eq_true, decide_eq_true_eq] at h
  exact ⟨h.2.1, h.2.2.1⟩
 generalize maxB o.g.right o.cmp c i = r at *
 cases r
 ·refine pcl_body code17 ?_
  obtain ⟨p, g⟩ := o
  simp [Od.enc, Sg.enc] at h1
  simp [Od.enc, Sg.enc, plc_raw, h1]
 ·obtain ⟨hi, hl⟩ := hm rfl
  obtain ⟨k, rfl⟩ : ∃ k : Nat, i = k := ⟨i.toNat, by omega⟩
  have hk : k < c.length := by omega
  have e : c[(k : Int).toNat]? = some c[k] := by simp [hk]
  rw [e]
  simp only
  obtain ⟨H0, hH0⟩ : ∃ H0 : Hp, H0 = upd (fun _ => none) (0, 0) (.cells (o.enc.map .d)) := ⟨_, rfl⟩
  obtain ⟨e, t, hrun, hR⟩ := rstr_loop hc hn hk (N := 8) (H := H0) (by rw [hH0]; simp)
  refine pcl_body code17 ?_
  generalize freeF k (fun l => l.same c[k]) 0 c = f at *
  obtain ⟨p, g⟩ := o
  simp [rsT, Od.enc, Sg.enc] at h1 hrun hH0
  have g0 : H0 (0, 0) = some (.cells [.d (.bool p), .d (.sl (encS g.names) g.names.length false none), .d (.sl (encI g.weights) g.weights.length false none)]) := by rw [hH0]; simp
  cases f
  ·obtain ⟨rfl, hv⟩ := hR
   simp [Od.enc, Sg.enc, plc_raw, h1, ← hH0, g0, hrun, hv]
  ·obtain ⟨rfl, nx, rfl⟩ := hR
   simp [Od.enc, Sg.enc, plc_raw, h1, ← hH0, g0, hrun]
end Go.Proofs.Ytajilkmepjhkdaa.Am

/-
 The orders' laws: what they begin with, the chapter's examples. No condition.
-/
namespace Go.Proofs.Ytajilkmepjhkdaa.Am
open Go Go.Proofs
set_option maxHeartbeats 4000000
set_option maxRecDepth 20000
set_option linter.unusedSimpArgs false
set_option linter.unusedVariables false
theorem own9_ok (o : Od) : pcl Cp 9 [.agg o.enc] = some (.agg o.enc) := by
 obtain ⟨p, g⟩ := o
 have h := own_ok g
 refine pcl_body code9 ?_
 simp [Sg.enc] at h
 simp [Od.enc, Sg.enc, plc_raw, h]
def lightB (xs : List (List Lt × Option Bool)) : Bool := xs.all fun x => decide (x.1.length ≤ 10) && decide (csizeW 0 x.1 ≤ 200)
abbrev lgT (xs : List (List Lt × Option Bool)) (i : Nat) : List AV := [.d (.sl (xs.map cellC) xs.length false none), .junk, .d (.bool false), .d (.int .i64 i), .junk, .junk, .junk, .junk, .junk, .junk, .junk, .junk, .junk, .junk, .junk, .junk, .junk, .junk, .junk, .junk, .junk, .junk, .junk, .junk]
theorem light_ok {xs : List (List Lt × Option Bool)} (hn : xs.length ≤ 1048576) (hx : ∀ x ∈ xs, okC x.1) : pcl Cp 7 [.sl (xs.map cellC) xs.length false none] = some (.bool (lightB xs)) := by
 have h := loop_rule (P := Try.prog) (pol := plc) (c := b7_0) (m := ⟨[true, false, true, true, false, false, false, false, false, false, false, false, false, false, false, false, false, false, false, false, false, false, false, false], some 2⟩)
  (b := 2) (tm := fun (i : Nat) => lgT xs i) (Hf := fun _ => fun _ => none)
  (I := fun i => i ≤ xs.length) (μ := fun i => xs.length - i) (res := fun i => lightB (xs.drop i)) (R := fun r e t => if r then AtExit 0 (lgT xs xs.length) (fun _ => none) e t else AtRet 2 (.d (.bool false)) e t)
  (fun i nx hi => by
   rcases Nat.lt_or_ge i xs.length with hl | hl
   ·have hcall := rsize6_ok (hx _ (List.getElem_mem hl)) false xs[i].2
    have h1 : i < (xs.map cellC).length := by simpa using hl
    have hil : (i : Int) < (xs.length : Int) := by omega
    have hiw : IntKind.i64.wrap ((i : Int) + 1) = (i : Int) + 1 := wrap_i64 (by omega) (by omega)
    have h2 : 1 ≤ xs.length - i := by omega
    have hd : lightB (xs.drop i) = ((decide (xs[i].1.length ≤ 10) && decide (csizeW 0 xs[i].1 ≤ 200)) && lightB (xs.drop (i + 1))) := by rw [List.drop_eq_getElem_cons hl]; rfl
    generalize csizeW 0 xs[i].1 = z at hcall hd
    conv => arg 9; arg 4; unfold b7_0
    by_cases h10 : xs[i].1.length ≤ 10
    ·have h10' : ¬ (10 : Int) < (xs[i].1.length : Int) := by omega
     by_cases h200 : z ≤ 200
     ·have h200' : ¬ (200 : Int) < z := by omega
      simp [hil, hl, h1, h2, hiw, cellC, hcall, plc_raw, h10, h10', h200, h200', -List.map_drop, -List.map_take]
      exact .next (i + 1) (by omega) (by simp) rfl hl (by omega) (by simp only [hd, h10, h200, decide_true, Bool.true_and])
     ·have h200' : (200 : Int) < z := by omega
      simp [hil, hl, h1, h2, hiw, cellC, hcall, plc_raw, h10, h10', h200, h200', -List.map_drop, -List.map_take]
      exact .fin _ _ (by rw [hd, decide_eq_false h200]; simp only [Bool.and_false, Bool.false_and, Bool.false_eq_true, if_false]; exact ⟨rfl, rfl⟩)
    ·have h10' : (10 : Int) < (xs[i].1.length : Int) := by omega
     simp [hil, hl, h1, h2, hiw, cellC, hcall, plc_raw, h10, h10', -List.map_drop, -List.map_take]
     exact .fin _ _ (by rw [hd, decide_eq_false h10]; simp only [Bool.false_and, Bool.false_eq_true, if_false]; exact ⟨rfl, rfl⟩)
   ·obtain rfl : i = xs.length := Nat.le_antisymm hi hl
    simp [b7_0]
    exact .fin _ _ (by simp [lightB]; exact .mk)) 0 (Nat.zero_le _)
 obtain ⟨e, t, hrun, hR⟩ := h
 simp only [List.drop_zero] at hR
 refine pcl_body code7 ?_
 generalize lightB xs = r at *
 simp [lgT] at hrun
 cases r
 ·obtain ⟨rfl, hv⟩ := hR
  simp [hrun, hv]
 ·obtain ⟨rfl, nx, rfl⟩ := hR
  simp [hrun]
abbrev oW : Od := ⟨false, ⟨[], []⟩⟩
abbrev oP : Od := ⟨true, ⟨[], []⟩⟩
abbrev aL (n : Bool) : Lt := ⟨n, tA, tB⟩
abbrev bL : Lt := ⟨false, tB, tA⟩
theorem sAA : tA.sameB tA = true := by decide +kernel
theorem sAB : tA.sameB tB = false := by decide +kernel
theorem sBA : tB.sameB tA = false := by decide +kernel
theorem sBB : tB.sameB tB = true := by decide +kernel
theorem ex91 : litsF oW.g.right oW.cmp (aL true) (aL false) = 1 := by
 rw [litsF_R]
 have e1 : restF Term.sameB (aL true).sides (aL false).sides = [tA, tB] := by simp [restF, Lt.sides, List.findIdx?_cons, sAA, sAB, sBA, sBB]
 have e2 : restF Term.sameB (aL false).sides (aL true).sides = [] := by simp [restF, Lt.sides, List.findIdx?_cons, sAA, sAB, sBA, sBB]
 rw [if_pos (by decide +kernel)]
 unfold extF
 rw [e1, e2]; rfl
theorem ex93 : litsF oW.g.right oW.cmp (aL false) bL = 0 := by
 rw [litsF_R]
 have e1 : restF Term.sameB (aL false).sides bL.sides = [] := by simp [restF, Lt.sides, List.findIdx?_cons, sAA, sAB, sBA, sBB]
 have e2 : restF Term.sameB bL.sides (aL false).sides = [] := by simp [restF, Lt.sides, List.findIdx?_cons, sAA, sAB, sBA, sBB]
 rw [if_pos (by decide +kernel)]
 unfold extF
 rw [e1, e2]; rfl
theorem ex92 : maxB oW.g.right oW.cmp [aL false] 0 = true := by
 have h1 : oW.g.right = true := by decide +kernel
 have h2 : clE [aL false] = 0 := by decide +kernel
 unfold maxB
 rw [h1, h2]
 simp [freeF]
theorem ex94 : oP.cmp tB tA = 1 := by
 rw [oP.cmp_small (by decide) (by decide)]
 have hs : SymGt ⟨[], []⟩ (ByteArray.mk #[98]) (ByteArray.mk #[97]) 0 0 := .inl ⟨by decide +kernel, by decide +kernel⟩
 exact (lCmp_of ⟨[], []⟩ _ _ (by decide +kernel) (by decide +kernel) (by decide +kernel)).2.1 (.sym (by decide +kernel) (by decide +kernel) (fun b hb => by simp at hb) hs)
theorem alive09_ok : pcl Cp 8 [] = some (.bool true) := by
 have hg : (⟨[], []⟩ : Sg).ok := by simp [Sg.ok]
 have hA : tA.ok := by simp [Term.ok, okL]
 have hB : tB.ok := by simp [Term.ok, okL]
 have c1 := mLits_ok oW hg (x := aL true) (y := aL false) ⟨hA, hB⟩ ⟨hA, hB⟩ ⟨by decide, by decide⟩ ⟨by decide, by decide⟩
 have c3 := mLits_ok oW hg (x := aL false) (y := bL) ⟨hA, hB⟩ ⟨hB, hA⟩ ⟨by decide, by decide⟩ ⟨by decide, by decide⟩
 have c2 := mMax_ok oW hg (c := [aL false]) ⟨by simp, fun x hx => by simp at hx; subst hx; exact ⟨hA, hB⟩⟩ (by simp) (fun x hx => by simp at hx; subst hx; exact ⟨by decide, by decide⟩) 0
 have c4 := mTerms_ok oP hg hB hA (by decide) (by decide)
 rw [ex91] at c1
 rw [ex92] at c2
 rw [ex93] at c3
 rw [ex94] at c4
 simp [Lt.enc, Term.enc, Od.enc, Sg.enc, encL, encS, encI, encC] at c1 c2 c3 c4
 refine pcl_body code8 ?_
 simp [plc_raw, c1, c2, c3, c4]
end Go.Proofs.Ytajilkmepjhkdaa.Am

/-
 The orders' laws on terms and literals: each function returns true. No condition.
-/
namespace Go.Proofs.Ytajilkmepjhkdaa.Am
open Go Go.Proofs
set_option maxHeartbeats 4000000
set_option maxRecDepth 20000
set_option linter.unusedSimpArgs false
set_option linter.unusedVariables false
theorem multiTerms_ok (o : Od) (hg : o.g.ok) (a : Term) (ha : a.ok) (za : a.size ≤ 1048576) (b : Term) (hb : b.ok) (zb : b.size ≤ 1048576) (l : Lt) (hl : l.ok) (zl : l.l.size ≤ 1048576 ∧ l.r.size ≤ 1048576) (m : Lt) (hm : m.ok) (zm : m.l.size ≤ 1048576 ∧ m.r.size ≤ 1048576) :
  pcl Cp 3 [.agg o.enc, .agg a.enc, .agg b.enc, .agg l.enc, .agg m.enc] = some (.bool true) := by
 have h1 := light_ok (xs := [([l, m], none), ([⟨false, a, b⟩], none)]) (by simp) (fun x hx => by
  simp at hx
  rcases hx with rfl | rfl
  ·exact ⟨by simp, fun y hy => by simp at hy; rcases hy with rfl | rfl; exact hl; exact hm⟩
  ·exact ⟨by simp, fun y hy => by simp at hy; subst hy; exact ⟨ha, hb⟩⟩)
 have h2 := mTerms_ok o hg ha hb za zb
 have h3 := rTerms_ok o hg ha hb za zb
 have h4 := mLits_ok o hg hl hm zl zm
 have h5 := rLits_ok o hg hl hm zl zm
 have h6 := own9_ok o
 have h7 := alive09_ok
 refine pcl_body code3 ?_
 generalize lightB _ = r at h1
 generalize o.cmp a b = z1 at *
 generalize litsF _ _ l m = z2 at *
 obtain ⟨p, g⟩ := o
 obtain ⟨va, fna, argsa⟩ := a
 obtain ⟨vb, fnb, argsb⟩ := b
 obtain ⟨n, ⟨v, fn, args⟩, ⟨v2, fn2, args2⟩⟩ := l
 obtain ⟨n3, ⟨v3, fn3, args3⟩, ⟨v4, fn4, args4⟩⟩ := m
 simp [cellC, encC, Od.enc, Sg.enc, Lt.enc, Term.enc] at h1 h2 h3 h4 h5 h6
 cases r
 ·simp [Od.enc, Sg.enc, Lt.enc, Term.enc, plc_raw, h1, h7]
 ·simp [Od.enc, Sg.enc, Lt.enc, Term.enc, plc_raw, h1, h2, h3, h4, h5, h6, h7]
end Go.Proofs.Ytajilkmepjhkdaa.Am

/-
 The law on maximal literals: the function returns true. No condition.
-/
namespace Go.Proofs.Ytajilkmepjhkdaa.Am
open Go Go.Proofs
set_option maxHeartbeats 4000000
set_option maxRecDepth 20000
set_option linter.unusedSimpArgs false
set_option linter.unusedVariables false
abbrev mlT (c : List Lt) (i : Int) (k : Nat) : List AV := [.junk, .d (.sl (encC c) c.length false none), .d (.int .i64 i), .ptr (0, 0) 0 3, .junk, .junk, .d (.bool false), .ptr (8, 0) 0 3, .d (.int .i64 k), .junk, .junk, .junk, .junk, .junk, .junk, .junk, .junk, .junk, .junk, .junk, .junk, .junk, .junk, .junk, .junk, .junk, .junk, .junk, .junk, .junk, .junk, .junk, .junk, .junk, .junk, .junk, .junk, .junk, .junk, .junk, .junk, .junk, .junk, .junk, .junk, .junk, .junk, .junk, .junk, .junk, .junk, .junk, .junk, .junk, .junk, .junk, .junk, .junk, .junk, .junk, .junk, .junk, .junk, .junk, .junk]
theorem maximal_loop (o : Od) (hg : o.g.ok) {c : List Lt} (hc : okC c) (hn : c.length ≤ 1048576) (hz : ∀ x ∈ c, x.sm) (i : Int) {H : Hp} (hH : below 11 H = H) (h0 : H (0, 0) = some (.cells (o.enc.map .d))) (h8 : H (8, 0) = some (.cells (o.enc.map .d))) :
  ∃ e t, aloop Try.prog plc b4_0 ⟨[false, true, true, true, false, false, true, true, true, false, false, false, false, false, false, false, false, false, false, false, false, false, false, false, false, false, false, false, false, false, false, false, false, false, false, false, false, false, false, false, false, false, true, true, true, true, true, true, true, true, true, true, true, true, true, true, true, true, true, true, true, true, true, true, true], some 11⟩ ⟨mlT c i 0, H, 11⟩ = some (e, t) ∧ AtExit 0 (mlT c i c.length) H e t := by
 have h := loop_rule (P := Try.prog) (pol := plc) (c := b4_0) (m := ⟨[false, true, true, true, false, false, true, true, true, false, false, false, false, false, false, false, false, false, false, false, false, false, false, false, false, false, false, false, false, false, false, false, false, false, false, false, false, false, false, false, false, false, true, true, true, true, true, true, true, true, true, true, true, true, true, true, true, true, true, true, true, true, true, true, true], some 11⟩)
  (b := 11) (tm := fun (k : Nat) => mlT c i k) (Hf := fun _ => H)
  (I := fun k => k ≤ c.length) (μ := fun k => c.length - k) (res := fun _ => ()) (R := fun _ => AtExit 0 (mlT c i c.length) H)
  (fun k nx1 hk => by
   rcases Nat.lt_or_ge k c.length with hl | hl
   ·have c1 := mMax_ok o hg hc hn hz k
    have c2 := rMax_ok o hg hc hn hz k
    have c3 := mStr_ok o hg hc hn hz k
    have c4 := rStr_ok o hg hc hn hz k
    have hil : (k : Int) < (c.length : Int) := by omega
    have hiw : IntKind.i64.wrap ((k : Int) + 1) = (k : Int) + 1 := wrap_i64 (by omega) (by omega)
    generalize maxB o.g.right o.cmp c k = z1 at c1 c2
    generalize strB o.g.right o.cmp c k = z2 at c3 c4
    obtain ⟨p, g⟩ := o
    simp only [Od.enc, Sg.enc] at c1 c2 c3 c4 h0 h8
    conv => arg 9; arg 4; unfold b4_0
    simp [hil, hiw, h0, h8, plc_raw, c1, c2, c3, c4, hH]
    exact .next (k + 1) (by omega) (by simp) rfl hl (by omega) rfl
   ·obtain rfl : k = c.length := Nat.le_antisymm hk hl
    simp [b4_0, hH]
    exact .fin _ _ .mk) 0 (Nat.zero_le _)
 exact h
theorem multiMaximal_ok (o : Od) (hg : o.g.ok) (c : List Lt) (hc : okC c) (hn : c.length ≤ 1048576) (hz : ∀ x ∈ c, x.l.size ≤ 1048576 ∧ x.r.size ≤ 1048576) (i : Int) (hi : (Lit.int .i64 i).wf = true) :
  pcl Cp 4 [.agg o.enc, .sl (encC c) c.length false none, .int .i64 i] = some (.bool true) := by
 have h1 := light_ok (xs := [(c, none)]) (by simp) (fun x hx => by simp at hx; subst hx; exact hc)
 have c1 := mMax_ok o hg hc hn hz i
 have c2 := rMax_ok o hg hc hn hz i
 have c3 := mStr_ok o hg hc hn hz i
 have c4 := rStr_ok o hg hc hn hz i
 have h6 := own9_ok o
 have h7 := alive09_ok
 obtain ⟨H0, hH0⟩ : ∃ H0 : Hp, H0 = upd (upd (upd (upd (upd (fun _ => none) (0, 0) (.cells (o.enc.map .d))) (3, 0) (.cells [.d (.sl (encC c) c.length false none)])) (8, 2) .vnil) (8, 3) .vnil) (8, 0) (.cells (o.enc.map .d)) := ⟨_, rfl⟩
 have g0 : H0 (0, 0) = some (.cells (o.enc.map .d)) := by rw [hH0]; simp
 have g8 : H0 (8, 0) = some (.cells (o.enc.map .d)) := by rw [hH0]; simp
 obtain ⟨e, t, hrun, rfl, nx, rfl⟩ := maximal_loop o hg hc hn hz i (H := H0) (by rw [hH0]; simp) g0 g8
 refine pcl_body code4 ?_
 generalize lightB _ = r at h1
 generalize maxB o.g.right o.cmp c i = z1 at c1 c2
 generalize strB o.g.right o.cmp c i = z2 at c3 c4
 obtain ⟨p, g⟩ := o
 simp [mlT, cellC, Od.enc, Sg.enc] at h1 c1 c2 c3 c4 h6 hrun hH0 g0 g8
 cases r
 ·simp [Od.enc, Sg.enc, plc_raw, h1, h7]
 ·simp [Od.enc, Sg.enc, plc_raw, h1, h6, h7, ← hH0, g0, g8, hrun, c1, c2, c3, c4]
end Go.Proofs.Ytajilkmepjhkdaa.Am


/-
  Joined texts: AmNe, AmNg, AmNh, AmNi, AmNj, AmNl, AmUld, AmUle, AmUlf, AmNo. No condition.
-/
import Derived.Test.YtajilkmepjhkdaaGreatAmPas
/-
 Which clauses are right, as the document says. No condition.
-/
namespace Go.Proofs.YtajilkmepjhkdaaGreat.Am
open Go Go.Proofs
set_option maxHeartbeats 4000000
set_option maxRecDepth 20000
set_option linter.unusedSimpArgs false
set_option linter.unusedVariables false
@[simp] theorem wkL_encC : ∀ (c : List Lt), wkL (encC c) = encC c
 | [] => rfl
 | ⟨n, ⟨v, fn, args⟩, ⟨v2, fn2, args2⟩⟩ :: r => by simp [encC, Lt.enc, Term.enc, wkL_encC r]
theorem AtC.f1 {c : List Lt} {i : Nat} {n : Bool} {v v2 : Int} {fn fn2 : ByteArray} {args args2 : List Term} (a : AtC c i n v fn args v2 fn2 args2) : ((encC c).drop (i * 7 + 1)).take 3 = [.int .i64 v, .str fn, .sl (encL args) args.length false none] := by
 have h := congrArg (fun l => (l.drop 1).take 3) a.cells
 simp only [List.drop_take, List.drop_drop, List.take_take] at h
 exact h
theorem AtC.f2 {c : List Lt} {i : Nat} {n : Bool} {v v2 : Int} {fn fn2 : ByteArray} {args args2 : List Term} (a : AtC c i n v fn args v2 fn2 args2) : ((encC c).drop (i * 7 + 4)).take 3 = [.int .i64 v2, .str fn2, .sl (encL args2) args2.length false none] := by
 have h := congrArg (fun l => (l.drop 4).take 3) a.cells
 simp only [List.drop_take, List.drop_drop, List.take_take] at h
 exact h
abbrev sz6T (c : List Lt) (fl : Bool) (nl : Option Bool) (acc : Int) (i : Nat) : List AV := [.d (.sl (encC c) c.length fl nl), .junk, .d (.int .i64 0), .d (.int .i64 acc), .d (.int .i64 i), .junk, .junk, .junk, .junk, .junk, .junk, .junk, .junk, .junk, .junk, .junk, .junk, .junk, .junk, .junk, .junk, .junk, .junk, .junk, .junk, .junk, .junk]
theorem rsize6_ok {c : List Lt} (hc : okC c) (fl : Bool) (nl : Option Bool) : pcl Cp 9 [.sl (encC c) c.length fl nl] = some (.int .i64 (csizeW 0 c)) := by
 have h := loop_rule (P := Tryz.prog) (pol := plc) (c := b9_0) (m := ⟨[true, false, true, true, true, false, false, false, false, false, false, false, false, false, false, false, false, false, false, false, false, false, false, false, false, false, true], some 3⟩)
  (b := 3) (tm := fun (s : Int × Nat) => sz6T c fl nl s.1 s.2) (Hf := fun _ => fun _ => none)
  (I := fun s => s.2 ≤ c.length) (μ := fun s => c.length - s.2) (res := fun s => csizeW s.1 (c.drop s.2)) (R := fun r => AtExit 0 (sz6T c fl nl r c.length) (fun _ => none))
  (fun s nx1 hi => by
   obtain ⟨acc, i⟩ := s
   simp only at hi
   rcases Nat.lt_or_ge i c.length with hl | hl
   ·obtain ⟨n, v, fn, args, v2, fn2, args2, a⟩ := atC_ok hc.1 hl
    have hx := hc.2 _ a.mem
    have c1 := rsize_ok _ hx.1
    have c2 := rsize_ok _ hx.2
    simp [Term.enc] at c1 c2
    have e1 : i * 7 + 7 ≤ c.length * 7 := by omega
    have e4 : 4 ≤ c.length * 7 - i * 7 := by omega
    have e5 : 3 ≤ c.length * 7 - (i * 7 + 1) := by omega
    have e6 : 3 ≤ c.length * 7 - (i * 7 + 4) := by omega
    have e7 : 7 ≤ c.length * 7 - i * 7 := by omega
    have hf1 := a.f1
    have hf2 := a.f2
    conv => arg 9; arg 4; unfold b9_0
    simp [a.lti, a.sz, a.ltm, a.le7, hf1, hf2, e1, e4, e5, e6, e7, plc_raw, c1, c2, a.w]
    exact .next (Lt.sizeW ⟨n, .mk v fn args, .mk v2 fn2 args2⟩ acc, i + 1) (by omega) (by simp [Lt.sizeW]) rfl hl (by simp only; omega) (by simp only [a.dr, csizeW])
   ·obtain rfl : i = c.length := Nat.le_antisymm hi hl
    simp [b9_0]
    exact .fin _ _ (by simp [csizeW]; exact .mk)) (0, 0) (Nat.zero_le _)
 obtain ⟨e, t, hrun, rfl, nx, rfl⟩ := h
 refine pcl_body code9 ?_
 simp [sz6T] at hrun
 simp [hrun]
abbrev rt6T (c : List Lt) (fl : Bool) (nl : Option Bool) (i : Nat) : List AV := [.d (.sl (encC c) c.length fl nl), .junk, .d (.int .i64 0), .d (.int .i64 i), .junk, .junk, .junk, .junk, .junk, .junk, .junk, .junk, .junk, .junk, .junk, .junk, .junk, .junk, .junk, .junk, .junk, .junk, .junk, .junk, .junk, .junk, .junk, .junk, .junk, .junk, .junk, .junk, .junk, .junk, .junk, .junk]
theorem rright6_ok {c : List Lt} (hc : okC c) (fl : Bool) (nl : Option Bool) : pcl Cp 40 [.sl (encC c) c.length fl nl] = some (.int .i64 (clE c)) := by
 have h := loop_rule (P := Tryz.prog) (pol := plc) (c := b40_0) (m := ⟨[true, false, true, true, false, false, false, false, false, false, false, false, false, false, false, false, false, false, false, false, false, false, false, false, false, false, false, false, false, false, false, false, false, true, true, true], some 5⟩)
  (b := 5) (tm := fun (i : Nat) => rt6T c fl nl i) (Hf := fun _ => fun _ => none)
  (I := fun i => i ≤ c.length) (μ := fun i => c.length - i) (res := fun i => firstE (c.drop i)) (R := fun r e t => if r = 0 then AtExit 0 (rt6T c fl nl c.length) (fun _ => none) e t else AtRet 2 (.d (.int .i64 r)) e t)
  (fun i nx1 hi => by
   rcases Nat.lt_or_ge i c.length with hl | hl
   ·obtain ⟨n, v, fn, args, v2, fn2, args2, a⟩ := atC_ok hc.1 hl
    have hx := hc.2 _ a.mem
    have c1 := rright_ok _ hx.1
    have c2 := rright_ok _ hx.2
    have hd : firstE (c.drop i) = if (Term.mk v fn args).rightE ≠ 0 then (Term.mk v fn args).rightE else if (Term.mk v2 fn2 args2).rightE ≠ 0 then (Term.mk v2 fn2 args2).rightE else firstE (c.drop (i + 1)) := by rw [a.dr]; rfl
    simp only at c1 c2
    generalize (Term.mk v fn args).rightE = z1 at c1 hd
    generalize (Term.mk v2 fn2 args2).rightE = z2 at c2 hd
    simp [Term.enc] at c1 c2
    have e1 : i * 7 + 7 ≤ c.length * 7 := by omega
    have e4 : 4 ≤ c.length * 7 - i * 7 := by omega
    have e5 : 3 ≤ c.length * 7 - (i * 7 + 1) := by omega
    have e6 : 3 ≤ c.length * 7 - (i * 7 + 4) := by omega
    have e7 : 7 ≤ c.length * 7 - i * 7 := by omega
    have hf1 := a.f1
    have hf2 := a.f2
    conv => arg 9; arg 4; unfold b40_0
    by_cases h1 : z1 = 0
    ·by_cases h2 : z2 = 0
     ·simp [a.lti, a.sz, a.ltm, a.le7, hf1, hf2, e1, e4, e5, e6, e7, plc_raw, c1, c2, a.w, h1, h2]
      exact .next (i + 1) (by omega) (by simp) rfl hl (by omega) (by rw [hd, if_neg (by simp [h1]), if_neg (by simp [h2])])
     ·simp [a.lti, a.sz, a.ltm, a.le7, hf1, hf2, e1, e4, e5, e6, e7, plc_raw, c1, c2, a.w, h1, h2]
      have hr : firstE (c.drop i) = z2 := by rw [hd]; simp [h1, h2]
      exact .fin _ _ (by simp only [hr]; rw [if_neg h2]; exact ⟨rfl, rfl⟩)
    ·simp [a.lti, a.sz, a.ltm, a.le7, hf1, hf2, e1, e4, e5, e6, e7, plc_raw, c1, c2, a.w, h1]
     have hr : firstE (c.drop i) = z1 := by rw [hd]; simp [h1]
     exact .fin _ _ (by simp only [hr]; rw [if_neg h1]; exact ⟨rfl, rfl⟩)
   ·obtain rfl : i = c.length := Nat.le_antisymm hi hl
    simp [b40_0]
    exact .fin _ _ (by simp [firstE]; exact .mk)) 0 (Nat.zero_le _)
 obtain ⟨e, t, hrun, hR⟩ := h
 have hsz := rsize6_ok hc fl nl
 refine pcl_body code40 ?_
 unfold clE
 simp only [List.drop_zero] at hR
 generalize csizeW 0 c = z at *
 generalize firstE c = f at *
 simp [rt6T] at hrun
 by_cases h60 : c.length > 60
 ·have h60' : (60 : Int) < (c.length : Int) := by omega
  simp [h60, h60']
 ·have h60' : ¬ (60 : Int) < (c.length : Int) := by omega
  by_cases hf : f = 0
  ·rw [if_pos hf] at hR
   obtain ⟨rfl, nx, rfl⟩ := hR
   by_cases hz : 4000 < z <;> simp [h60, h60', hrun, plc_raw, hsz, hf, hz]
  ·rw [if_neg hf] at hR
   obtain ⟨rfl, hv⟩ := hR
   simp [h60, h60', hrun, hv, hf]
end Go.Proofs.YtajilkmepjhkdaaGreat.Am

/-
 Which clauses are right, as the program says. No condition.
-/
namespace Go.Proofs.YtajilkmepjhkdaaGreat.Am
open Go Go.Proofs
set_option maxHeartbeats 4000000
set_option maxRecDepth 20000
set_option linter.unusedSimpArgs false
set_option linter.unusedVariables false
theorem lsides_ok (c : List Lt) (nl : Option Bool) : pcl Cp 56 [.sl (encC c) c.length false nl] = some (.fn 85 [.dptr [.sl (encC c) c.length false nl]]) := by
 refine pcl_body code56 ?_
 simp [-isNil, isNil_sl, isNil_int, isNil_bool, isNil_str, isNil_agg, isNil_dptr, isNil_fn, isNil_fna, isNil_osl, isNil_ptr, isNil_agga, isNil_nilfn, plc_raw]
abbrev szTm (c : List Lt) (nl : Option Bool) : List AV := [.d (.sl (encC c) c.length false nl), .junk, .d (.int .i64 0), .ptr (1, 0) 0 1, .junk, .d (.sl (encC c) c.length false nl), .d (.fn 85 [.dptr [.sl (encC c) c.length false nl]]), .junk, .junk, .junk, .junk, .junk, .junk]
abbrev tO (v : Int) (fn : ByteArray) (args : List Term) : Am.Obj := .cells [.d (.int .i64 v), .d (.str fn), .d (.sl (encL args) args.length false none)]
def szI (c : List Lt) (nl : Option Bool) (acc : Int) (H : Hp) : Prop := H (5, 0) = some (.rc [7] ra57_0 rb57_0 (szTm c nl) .ready) ∧ H (1, 0) = some (.cells [.d (.int .i64 acc)])
theorem sz_yields (c : List Lt) (nl : Option Bool) : Yields (5, 0) (fun _ _ => true) (fun acc t => IntKind.i64.wrap (acc + t.sizeW)) (szI c nl) (fun _ _ => False) := by
 refine ⟨fun acc H nx t hI hn ht => ?_, fun s H H' hI hk => ⟨(hk _ (by simp)).trans hI.1, (hk _ (by simp)).trans hI.2⟩, fun _ _ _ h _ => h⟩
 have hcall := size_ok t ht
 simp only at hn
 obtain ⟨v, fn, args⟩ := t
 generalize hz : (Term.mk v fn args).sizeW = z at hcall
 simp [Term.enc] at hcall
 have g0 : ∀ k j x (H' : Hp), upd H' (nx + k, j) x (5, 0) = H' (5, 0) := fun k j x H' => uold (by simp only; omega) _ _ _
 have g1 : ∀ k j x (H' : Hp), upd H' (nx + k, j) x (1, 0) = H' (1, 0) := fun k j x H' => uold (by simp only; omega) _ _ _
 have g2 : ∀ j x (H' : Hp), upd H' (nx, j) x (5, 0) = H' (5, 0) := fun j x H' => uold hn _ _ _
 have g3 : ∀ j x (H' : Hp), upd H' (nx, j) x (1, 0) = H' (1, 0) := fun j x H' => uold (by simp only; omega) _ _ _
 have g4 : ∀ j x (H' : Hp), upd H' (5, 0) x (nx, j) = H' (nx, j) := fun j x H' => une (fun e => by cases e; omega)
 obtain ⟨s2, hy, hq1, hq2, hq3⟩ := yield_onE (t := .d (.agg (Term.mk v fn args).enc)) (nx := nx) hI.1 ⟨rfl, rfl⟩ (fun s2 => nx ≤ s2.nx ∧ s2.hp (1, 0) = some (.cells [.d (.int .i64 (IntKind.i64.wrap (acc + z)))]) ∧ ∀ p : Oid, 5 < p.1 → p.1 < nx → s2.hp p = H p)
  (s1 := ⟨[.d (.sl (encC c) c.length false nl), .junk, .d (.int .i64 0), .ptr (1, 0) 0 1, .ptr (nx, 0) 0 3, .d (.sl (encC c) c.length false nl), .d (.fn 85 [.dptr [.sl (encC c) c.length false nl]]), .d (.agg (Term.mk v fn args).enc), .junk, .junk, .junk, .junk, .junk], upd (upd H (nx, 3) .vnil) (nx, 0) (tO v fn args), nx + 2⟩)
  (by simp [ra57_0, szTm, Term.enc]) (by simp only [g2]; exact hI.1) (by
   simp [rb57_0, plc_raw, g0, g1, g2, g3, g4, hI.2, hcall, Term.enc]
   refine ⟨by omega, fun a b h5 hlt => ?_⟩
   rw [une (fun e => by cases e; omega), une (fun e => by cases e; omega), uold hlt, uold hlt])
 refine ⟨_, _, hy, hq1, fun p h1 h2 => by rw [une (fun e => by subst e; simp at h1)]; exact hq3 p h1 h2, ?_⟩
 simp only [if_true]
 exact ⟨upd_same _ _ _, by rw [une (by simp)]; exact hq2⟩
theorem runT_sz : ∀ (l : List Term) (acc : Int), runT (fun _ _ => true) (fun acc t => IntKind.i64.wrap (acc + t.sizeW)) acc l = (l.foldl (fun acc t => IntKind.i64.wrap (acc + t.sizeW)) acc, true)
 | [], _ => rfl
 | t :: r, acc => by simp only [runT, if_true, List.foldl_cons, runT_sz r]
theorem fold_sz : ∀ (c : List Lt) (acc : Int), (sideL c).foldl (fun acc t => IntKind.i64.wrap (acc + t.sizeW)) acc = csizeW acc c
 | [], _ => rfl
 | x :: r, acc => by
  have := fold_sz r (x.sizeW acc)
  simp only [sideL, List.flatMap_cons, List.foldl_append, List.foldl_cons, List.foldl_nil, csizeW, Lt.sizeW] at this ⊢
  exact this
theorem lsize_ok {c : List Lt} (hc : okC c) (nl : Option Bool) : pcl Cp 57 [.sl (encC c) c.length false nl] = some (.int .i64 (csizeW 0 c)) := by
 have h := lsides_ok c nl
 obtain ⟨H0, hH0⟩ : ∃ H0 : Hp, H0 = upd (upd (fun _ => none) (1, 0) (.cells [.d (.int .i64 0)])) (5, 0) (.rc [7] ra57_0 rb57_0 (szTm c nl) .ready) := ⟨_, rfl⟩
 obtain ⟨v, H', nx', hrun, hnx, hR⟩ := sides1_ok (sz_yields c nl) hc false nl (nx := 6) (by decide) 0 (H0 := H0) ⟨by rw [hH0]; simp, by rw [hH0]; simp⟩
 rw [runT_sz, fold_sz] at hR
 simp only [if_true] at hR
 obtain ⟨hR1, hR2⟩ := hR
 refine pcl_body code57 ?_
 have hd : ∀ p, p ≠ (5, 0) → dropO H' (5, 0) p = H' p := fun p hp => by simp [dropO, hp]
 simp [szTm] at hH0
 simp [plc_raw, h, ← hH0, hrun, afterK_ready hR1, hd, hR2]
end Go.Proofs.YtajilkmepjhkdaaGreat.Am

/-
 Which clauses are right, as the program says. No condition.
-/
namespace Go.Proofs.YtajilkmepjhkdaaGreat.Am
open Go Go.Proofs
set_option maxHeartbeats 4000000
set_option maxRecDepth 20000
set_option linter.unusedSimpArgs false
set_option linter.unusedVariables false
abbrev rtTm (c : List Lt) (nl : Option Bool) : List AV := [.d (.sl (encC c) c.length false nl), .junk, .ptr (0, 0) 0 1, .junk, .junk, .d (.sl (encC c) c.length false nl), .d (.int .i64 c.length), .d (.bool false), .d (.sl (encC c) c.length false nl), .d (.fn 85 [.dptr [.sl (encC c) c.length false nl]]), .junk, .junk, .junk, .junk, .junk, .junk, .junk, .junk, .junk]
def rtI (c : List Lt) (nl : Option Bool) (_ : Int) (H : Hp) : Prop := H (6, 0) = some (.rc [10] ra33_0 rb33_0 (rtTm c nl) .ready) ∧ H (0, 0) = some (.cells [.d (.int .i64 0)])
def rtF (c : List Lt) (nl : Option Bool) (e : Int) (H : Hp) : Prop := H (6, 0) = some (.rc [10] ra33_0 rb33_0 (rtTm c nl) (.left .ret)) ∧ H (0, 0) = some (.cells [.d (.int .i64 e)])
theorem rt_yields (c : List Lt) (nl : Option Bool) : Yields (6, 0) (fun _ t => decide (t.rightE = 0)) (fun _ t => t.rightE) (rtI c nl) (rtF c nl) := by
 refine ⟨fun acc H nx t hI hn ht => ?_, fun s H H' hI hk => ⟨(hk _ (by simp)).trans hI.1, (hk _ (by simp)).trans hI.2⟩, fun s H H' hI hk => ⟨(hk _ (by simp)).trans hI.1, (hk _ (by simp)).trans hI.2⟩⟩
 have hcall := tright_ok t ht
 simp only at hn
 obtain ⟨v, fn, args⟩ := t
 generalize hz : (Term.mk v fn args).rightE = z at hcall
 simp [Term.enc] at hcall
 have g0 : ∀ k j x (H' : Hp), upd H' (nx + k, j) x (6, 0) = H' (6, 0) := fun k j x H' => uold (by simp only; omega) _ _ _
 have g1 : ∀ k j x (H' : Hp), upd H' (nx + k, j) x (0, 0) = H' (0, 0) := fun k j x H' => uold (by simp only; omega) _ _ _
 have g2 : ∀ j x (H' : Hp), upd H' (nx, j) x (6, 0) = H' (6, 0) := fun j x H' => uold hn _ _ _
 have g3 : ∀ j x (H' : Hp), upd H' (nx, j) x (0, 0) = H' (0, 0) := fun j x H' => uold (by simp only; omega) _ _ _
 have g4 : ∀ j x (H' : Hp), upd H' (6, 0) x (nx, j) = H' (nx, j) := fun j x H' => une (fun e => by cases e; omega)
 by_cases h0 : z = 0
 ·obtain ⟨s2, hy, hq1, hq2, hq3⟩ := yield_onE (t := .d (.agg (Term.mk v fn args).enc)) (nx := nx) hI.1 ⟨rfl, rfl⟩ (fun s2 => nx ≤ s2.nx ∧ s2.hp (0, 0) = some (.cells [.d (.int .i64 0)]) ∧ ∀ p : Oid, 6 < p.1 → p.1 < nx → s2.hp p = H p)
   (s1 := ⟨[.d (.sl (encC c) c.length false nl), .junk, .ptr (0, 0) 0 1, .ptr (nx, 0) 0 3, .junk, .d (.sl (encC c) c.length false nl), .d (.int .i64 c.length), .d (.bool false), .d (.sl (encC c) c.length false nl), .d (.fn 85 [.dptr [.sl (encC c) c.length false nl]]), .d (.agg (Term.mk v fn args).enc), .junk, .junk, .junk, .junk, .junk, .junk, .junk, .junk], upd (upd H (nx, 3) .vnil) (nx, 0) (tO v fn args), nx + 2⟩)
   (by simp [ra33_0, rtTm, Term.enc]) (by simp only [g2]; exact hI.1) (by
    simp [rb33_0, plc_raw, g0, g1, g2, g3, g4, hI.2, hcall, Term.enc, h0]
    refine ⟨by omega, fun a b h5 hlt => ?_⟩
    rw [une (fun e => by cases e; omega), uold hlt, uold hlt])
  have hdt : decide (z = 0) = true := by simp [h0]
  refine ⟨upd s2.hp (6, 0) (.rc [10] ra33_0 rb33_0 (rtTm c nl) .ready), s2.nx, by simp only [hdt]; exact hy, hq1, fun p h1 h2 => by rw [une (fun e => by subst e; simp at h1)]; exact hq3 p h1 h2, ?_⟩
  simp only [hdt, if_true]
  exact ⟨upd_same _ _ _, by rw [une (by simp)]; exact hq2⟩
 ·obtain ⟨s2, hy, hq1, hq2, hq3⟩ := yield_offE (t := .d (.agg (Term.mk v fn args).enc)) (nx := nx) hI.1 ⟨rfl, rfl⟩ (fun s2 => nx ≤ s2.nx ∧ s2.hp (0, 0) = some (.cells [.d (.int .i64 z)]) ∧ ∀ p : Oid, 6 < p.1 → p.1 < nx → s2.hp p = H p)
   (s1 := ⟨[.d (.sl (encC c) c.length false nl), .junk, .ptr (0, 0) 0 1, .ptr (nx, 0) 0 3, .junk, .d (.sl (encC c) c.length false nl), .d (.int .i64 c.length), .d (.bool false), .d (.sl (encC c) c.length false nl), .d (.fn 85 [.dptr [.sl (encC c) c.length false nl]]), .d (.agg (Term.mk v fn args).enc), .junk, .junk, .junk, .junk, .junk, .junk, .junk, .junk], upd (upd H (nx, 3) .vnil) (nx, 0) (tO v fn args), nx + 2⟩)
   (by simp [ra33_0, rtTm, Term.enc]) (by simp only [g2]; exact hI.1) (by
    simp [rb33_0, plc_raw, g0, g1, g2, g3, g4, hI.2, hcall, Term.enc, h0]
    refine ⟨by omega, fun a b h5 hlt => ?_⟩
    rw [une (fun e => by cases e; omega), une (fun e => by cases e; omega), uold hlt, uold hlt])
  have hdt : decide (z = 0) = false := by simp [h0]
  refine ⟨upd s2.hp (6, 0) (.rc [10] ra33_0 rb33_0 (rtTm c nl) (.left .ret)), s2.nx, by simp only [hdt]; exact hy, hq1, fun p h1 h2 => by rw [une (fun e => by subst e; simp at h1)]; exact hq3 p h1 h2, ?_⟩
  simp only [hdt, Bool.false_eq_true, if_false]
  exact ⟨upd_same _ _ _, by rw [une (by simp)]; exact hq2⟩
theorem runT_rt : ∀ (c : List Lt), runT (fun (_ : Int) (t : Term) => decide (t.rightE = 0)) (fun _ t => t.rightE) 0 (sideL c) = (firstE c, decide (firstE c = 0))
 | [] => rfl
 | x :: r => by
  have ih := runT_rt r
  have e : sideL (x :: r) = x.l :: x.r :: sideL r := rfl
  rw [e]
  simp only [runT, firstE]
  by_cases h1 : x.l.rightE = 0
  ·by_cases h2 : x.r.rightE = 0
   ·simp only [h1, h2, decide_true, if_true, ne_eq, not_true_eq_false, if_false]; exact ih
   ·simp [h1, h2]
  ·simp [h1]
theorem lright_ok {c : List Lt} (hc : okC c) (nl : Option Bool) : pcl Cp 33 [.sl (encC c) c.length false nl] = some (.int .i64 (clE c)) := by
 have h := lsides_ok c nl
 have hz := lsize_ok hc nl
 unfold clE
 by_cases h60 : c.length > 60
 ·have h60' : (60 : Int) < (c.length : Int) := by omega
  rw [if_pos h60]
  refine pcl_body code33 ?_
  simp [h60']
 ·have h60' : ¬ (60 : Int) < (c.length : Int) := by omega
  rw [if_neg h60]
  obtain ⟨H0, hH0⟩ : ∃ H0 : Hp, H0 = upd (upd (fun _ => none) (0, 0) (.cells [.d (.int .i64 0)])) (6, 0) (.rc [10] ra33_0 rb33_0 (rtTm c nl) .ready) := ⟨_, rfl⟩
  obtain ⟨v, H', nx', hrun, hnx, hR⟩ := sides1_ok (rt_yields c nl) hc false nl (nx := 7) (by decide) 0 (H0 := H0) ⟨by rw [hH0]; simp, by rw [hH0]; simp⟩
  rw [runT_rt] at hR
  have hd : ∀ p, p ≠ (6, 0) → dropO H' (6, 0) p = H' p := fun p hp => by simp [dropO, hp]
  refine pcl_body code33 ?_
  generalize firstE c = f at *
  generalize csizeW 0 c = z at *
  simp [rtTm] at hH0
  by_cases hf : f = 0
  ·simp only [hf, decide_true, if_true] at hR
   obtain ⟨hR1, hR2⟩ := hR
   by_cases h4 : 4000 < z <;> simp [plc_raw, h60', h, ← hH0, hrun, afterK_ready hR1, hd, hR2, hf, hz, h4]
  ·simp only [decide_eq_false hf, Bool.false_eq_true, if_false] at hR
   obtain ⟨hR1, hR2⟩ := hR
   simp [plc_raw, h60', h, ← hH0, hrun, afterK_left hR1, hd, hR2, hf]
end Go.Proofs.YtajilkmepjhkdaaGreat.Am

/-
 The program: are clauses right, is a literal apart from the others? No condition.
-/
namespace Go.Proofs.YtajilkmepjhkdaaGreat.Am
open Go Go.Proofs
set_option maxHeartbeats 4000000
set_option maxRecDepth 20000
set_option linter.unusedSimpArgs false
set_option linter.unusedVariables false
def cellC (x : List Lt × Option Bool) : D := .sl (encC x.1) x.1.length false x.2
theorem cellC_at {xs : List (List Lt × Option Bool)} {i : Nat} (h : i < xs.length) : List.take 1 (List.drop i (xs.map cellC)) = [cellC xs[i]] := by
 rw [← List.map_drop, List.drop_eq_getElem_cons h]; rfl
theorem idxC_loop (g : FuncId) (fl : Bool) (nl : Option Bool) (p : List Lt × Option Bool → Bool) (xs : List (List Lt × Option Bool)) (hn : xs.length ≤ 1048576) (hg : plc.raw g = false ∧ plc.weak g = false ∧ g < 1000000000) (hrec : ∀ x ∈ xs, pcl Cp g [cellC x] = some (.bool (p x))) :
  ∃ e t, aloop Tryz.prog plc b55_0 ⟨[true, true, false, false, true, false, false, true, true, false, false, false, false, false, false, false, false, false, false], some 4⟩ ⟨[.d (.sl (xs.map cellC) xs.length fl nl), .d (.fn g []), .junk, .junk, .d (.int .i64 0), .junk, .junk, .d (.int .i64 xs.length), .d (.int .i64 0), .junk, .junk, .junk, .junk, .junk, .junk, .junk, .junk, .junk, .junk], fun _ => none, 4⟩ = some (e, t) ∧
   (match fromI p xs 0 with | some k => AtRet 4 (.d (.int .i64 k)) e t | none => AtExit 0 [.d (.sl (xs.map cellC) xs.length fl nl), .d (.fn g []), .junk, .junk, .d (.int .i64 0), .junk, .junk, .d (.int .i64 xs.length), .d (.int .i64 xs.length), .junk, .junk, .junk, .junk, .junk, .junk, .junk, .junk, .junk, .junk] (fun _ => none) e t) := by
 refine loop_rule (b := 4) (tm := fun (i : Nat) => [.d (.sl (xs.map cellC) xs.length fl nl), .d (.fn g []), .junk, .junk, .d (.int .i64 0), .junk, .junk, .d (.int .i64 xs.length), .d (.int .i64 i), .junk, .junk, .junk, .junk, .junk, .junk, .junk, .junk, .junk, .junk]) (Hf := fun _ => fun _ => none)
  (I := fun i => i ≤ xs.length) (μ := fun i => xs.length - i) (res := fun i => fromI p xs i) (R := fun o e t => match o with | some k => AtRet 4 (.d (.int .i64 k)) e t | none => AtExit 0 [.d (.sl (xs.map cellC) xs.length fl nl), .d (.fn g []), .junk, .junk, .d (.int .i64 0), .junk, .junk, .d (.int .i64 xs.length), .d (.int .i64 xs.length), .junk, .junk, .junk, .junk, .junk, .junk, .junk, .junk, .junk, .junk] (fun _ => none) e t)
  (fun i nx hi => ?_) 0 (Nat.zero_le _)
 rcases Nat.lt_or_ge i xs.length with hl | hl
 ·have hcall := hrec _ (List.getElem_mem hl)
  have hat := cellC_at hl
  have h1 : i < (xs.map cellC).length := by simpa using hl
  have hil : (i : Int) < (xs.length : Int) := by omega
  have hiw : IntKind.i64.wrap ((i : Int) + 1) = (i : Int) + 1 := wrap_i64 (by omega) (by omega)
  have h2 : 1 ≤ xs.length - i := by omega
  have hfs := fromI_step (p := p) hl
  conv => arg 9; arg 4; unfold b55_0
  cases hp : p xs[i] <;> rw [hp] at hcall <;> simp [hil, hl, hat, h1, h2, hiw, hg.1, hg.2.1, hg.2.2, -plc_weak, hcall, -List.map_drop, -List.map_take]
  ·exact .next (i + 1) (by omega) rfl rfl hl (by omega) (by simp only [hfs, hp, Bool.false_eq_true, if_false])
  ·exact .fin _ _ (by simp only [hfs, hp, if_true]; exact ⟨rfl, rfl⟩)
 ·obtain rfl : i = xs.length := Nat.le_antisymm hi hl
  simp [b55_0]
  exact .fin _ _ (by rw [fromI_end]; exact .mk)
theorem conC_ok {g : FuncId} {fl : Bool} {nl : Option Bool} {p : List Lt × Option Bool → Bool} {xs : List (List Lt × Option Bool)} (hn : xs.length ≤ 1048576) (hg : plc.raw g = false ∧ plc.weak g = false ∧ g < 1000000000) (hrec : ∀ x ∈ xs, pcl Cp g [cellC x] = some (.bool (p x))) :
  pcl Cp 31 [.sl (xs.map cellC) xs.length fl nl, .fn g []] = some (.bool (xs.any p)) := by
 have hi : pcl Cp 55 [.sl (xs.map cellC) xs.length fl nl, .fn g []] = some (.int .i64 (match xs.findIdx? p with | some k => k | none => -1)) := by
  obtain ⟨e, t, h1, h2⟩ := idxC_loop g fl nl p xs hn hg hrec
  refine pcl_body code55 ?_
  simp [fromI_zero] at h1 h2
  simp [h1]
  revert h2
  cases xs.findIdx? p with
  | some k => rintro ⟨rfl, h⟩; simp [h]
  | none => rintro ⟨rfl, nx, rfl⟩; simp
 refine pcl_body code31 ?_
 rw [any_findIdx]
 cases hq : xs.findIdx? p <;> rw [hq] at hi <;> simp [plc_raw, hi]
theorem mright_ok (o : Od) (hg : o.g.ok) {xs : List (List Lt × Option Bool)} (hn : xs.length ≤ 1048576) (hx : ∀ x ∈ xs, okC x.1) (fl : Bool) (nl : Option Bool) : pcl Cp 14 [.agg o.enc, .sl (xs.map cellC) xs.length fl nl] = some (.bool (o.g.right && xs.all fun x => decide (clE x.1 = 0))) := by
 have h1 := gright_ok o.g hg
 have h2 := conC_ok (g := 32) (fl := fl) (nl := nl) (p := fun x => !decide (clE x.1 = 0)) hn ⟨rfl, rfl, by decide⟩ (fun x hm => by
  have := lright_ok (hx x hm) x.2
  refine pcl_body code32 ?_
  generalize clE x.1 = z at *
  by_cases hz : z = 0 <;> simp [cellC, plc_raw, this, hz])
 have he : (xs.all fun x => decide (clE x.1 = 0)) = !(xs.any fun x => !decide (clE x.1 = 0)) := by rw [List.not_any_eq_all_not]; simp
 refine pcl_body code14 ?_
 rw [he]
 generalize (xs.any fun x => !decide (clE x.1 = 0)) = b at *
 generalize xs.map cellC = cs at *
 obtain ⟨p, g⟩ := o
 simp only at h1 ⊢
 generalize g.right = gr at *
 simp [Sg.enc] at h1
 cases gr
 ·simp at h1; simp [Od.enc, Sg.enc, plc_raw, h1]
 ·simp at h1; simp [Od.enc, Sg.enc, plc_raw, h1, h2]
def freeF (i : Int) (p : Lt → Bool) : Nat → List Lt → Bool
 | _, [] => true
 | k, x :: r => if (k : Int) ≠ i ∧ p x = true then false else freeF i p (k + 1) r
theorem freeF_all (i : Int) (p : Lt → Bool) : ∀ (c : List Lt) (k : Nat), (∀ x ∈ c, p x = false) → freeF i p k c = true
 | [], _, _ => rfl
 | x :: r, k, h => by
  simp only [freeF]
  rw [if_neg (by rw [h x (by simp)]; simp)]
  exact freeF_all i p r (k + 1) fun y hy => h y (by simp [hy])
abbrev frT (c : List Lt) (fl : Bool) (nl : Option Bool) (i : Int) (g : FuncId) (caps : List D) (k : Nat) : List AV := [.junk, .d (.int .i64 i), .d (.fn g caps), .junk, .junk, .junk, .d (.bool false), .junk, .junk, .d (.sl (encC c) c.length fl nl), .d (.int .i64 c.length), .d (.int .i64 k), .junk, .junk, .junk, .junk, .junk, .junk, .junk, .junk, .junk, .junk, .junk, .junk, .junk]
theorem free_ok {g : FuncId} {caps : List D} {fl : Bool} {nl : Option Bool} {p : Lt → Bool} {c : List Lt} (i : Int) (hn : c.length ≤ 1048576) (hg : plc.raw g = false ∧ plc.weak g = false ∧ g < 1000000000) (hrec : ∀ x ∈ c, pcl Cp g (.agg x.enc :: caps) = some (.bool (p x))) :
  pcl Cp 27 [.sl (encC c) c.length fl nl, .int .i64 i, .fn g caps] = some (.bool (freeF i p 0 c)) := by
 have h := loop_rule (P := Tryz.prog) (pol := plc) (c := b27_0) (m := ⟨[false, true, true, false, false, false, true, false, false, true, true, true, false, false, false, false, false, false, false, false, false, false, false, false, false], some 4⟩)
  (b := 4) (tm := fun (k : Nat) => frT c fl nl i g caps k) (Hf := fun _ => fun _ => none)
  (I := fun k => k ≤ c.length) (μ := fun k => c.length - k) (res := fun k => freeF i p k (c.drop k)) (R := fun r e t => if r then AtExit 0 (frT c fl nl i g caps c.length) (fun _ => none) e t else AtRet 6 (.d (.bool false)) e t)
  (fun k nx1 hk => by
   rcases Nat.lt_or_ge k c.length with hl | hl
   ·obtain ⟨n, v, fn, args, v2, fn2, args2, a⟩ := atC_ok (by omega) hl
    have hcall := hrec _ a.mem
    have hd : freeF i p k (c.drop k) = if (k : Int) ≠ i ∧ p ⟨n, .mk v fn args, .mk v2 fn2 args2⟩ = true then false else freeF i p (k + 1) (c.drop (k + 1)) := by rw [a.dr]; rfl
    generalize p ⟨n, .mk v fn args, .mk v2 fn2 args2⟩ = b at hcall hd
    simp [Lt.enc, Term.enc] at hcall
    conv => arg 9; arg 4; unfold b27_0
    by_cases hki : (k : Int) = i
    ·rw [if_neg (by simp [hki])] at hd
     subst hki
     simp [a.lti, a.sz, a.ltm, a.cells, a.le7, a.w, hg.1, hg.2.1, hg.2.2, -plc_weak]
     exact .next (k + 1) (by omega) (by simp) (by simp) hl (by omega) (by simp only [hd])
    ·cases b
     ·rw [if_neg (by simp)] at hd
      simp [a.lti, a.sz, a.ltm, a.cells, a.le7, a.w, hki, hg.1, hg.2.1, hg.2.2, -plc_weak, hcall, mapD_encT]
      exact .next (k + 1) (by omega) (by simp) (by simp) hl (by omega) (by simp only [hd])
     ·rw [if_pos ⟨hki, rfl⟩] at hd
      simp [a.lti, a.sz, a.ltm, a.cells, a.le7, a.w, hki, hg.1, hg.2.1, hg.2.2, -plc_weak, hcall, mapD_encT]
      exact .fin _ _ (by simp only [hd, Bool.false_eq_true, if_false]; exact ⟨rfl, rfl⟩)
   ·obtain rfl : k = c.length := Nat.le_antisymm hk hl
    simp [b27_0]
    exact .fin _ _ (by simp [freeF]; exact .mk)) 0 (Nat.zero_le _)
 obtain ⟨e, t, hrun, hR⟩ := h
 simp only [List.drop_zero] at hR
 refine pcl_body code27 ?_
 generalize freeF i p 0 c = r at *
 simp [frT] at hrun
 cases r
 ·obtain ⟨rfl, hv⟩ := hR
  simp [hrun, hv]
 ·obtain ⟨rfl, nx, rfl⟩ := hR
  simp [hrun]
end Go.Proofs.YtajilkmepjhkdaaGreat.Am

/-
 The program: which literals of a clause are maximal. No condition.
-/
namespace Go.Proofs.YtajilkmepjhkdaaGreat.Am
open Go Go.Proofs
set_option maxHeartbeats 4000000
set_option maxRecDepth 20000
set_option linter.unusedSimpArgs false
set_option linter.unusedVariables false
theorem max1_ok (o : Od) (hg : o.g.ok) {c : List Lt} (hc : okC c) (hz : ∀ x ∈ c, x.sm) (fl : Bool) (nl : Option Bool) {k : Nat} (hk : k < c.length) {l : Lt} (hl : l.ok) (zl : l.sm) :
  pcl Cp 28 [.agg l.enc, .dptr [.bool o.path, .sl (encS o.g.names) o.g.names.length false none, .sl (encI o.g.weights) o.g.weights.length false none], .dptr [.sl (encC c) c.length fl nl], .dptr [.int .i64 k]] = some (.bool (decide (litsF o.g.right o.cmp l c[k] = 1))) := by
 obtain ⟨m, w, fm, brgs, w2, fm2, brgs2, a⟩ := atC_ok hc.1 hk
 have hx := hc.2 _ a.mem
 have zx := hz _ a.mem
 have h := mLits_ok o hg hl hx zl zx
 have e1 : c[k] = ⟨m, .mk w fm brgs, .mk w2 fm2 brgs2⟩ := a.get
 rw [e1]
 refine pcl_body code28 ?_
 generalize litsF o.g.right o.cmp l _ = z at *
 obtain ⟨p, g⟩ := o
 obtain ⟨n, ⟨v, fn, args⟩, ⟨v2, fn2, args2⟩⟩ := l
 simp [Od.enc, Sg.enc, Lt.enc, Term.enc] at h
 have hk7 : (k : Int) < (c.length : Int) := by omega
 simp [Lt.enc, Term.enc, plc_raw, a.lti, a.sz, a.ltm, a.cells, a.le7, h]
def maxB (gr : Bool) (tc : Term → Term → Int) (c : List Lt) (i : Int) : Bool :=
 (gr && decide (clE c = 0)) && (decide (0 ≤ i) && (decide (i < c.length) && match c[i.toNat]? with | some x => freeF i (fun l => decide (litsF gr tc l x = 1)) 0 c | none => false))
def strB (gr : Bool) (tc : Term → Term → Int) (c : List Lt) (i : Int) : Bool :=
 maxB gr tc c i && match c[i.toNat]? with | some x => freeF i (fun l => l.same x) 0 c | none => false
theorem mMax_ok (o : Od) (hg : o.g.ok) {c : List Lt} (hc : okC c) (hn : c.length ≤ 1048576) (hz : ∀ x ∈ c, x.sm) (i : Int) : pcl Cp 11 [.agg o.enc, .sl (encC c) c.length false none, .int .i64 i] = some (.bool (maxB o.g.right o.cmp c i)) := by
 have h1 := mright_ok o hg (xs := [(c, none)]) (by simp) (fun x hx => by simp at hx; subst hx; exact hc) false (some false)
 have hb : (o.g.right && ([(c, (none : Option Bool))].all fun x => decide (clE x.1 = 0))) = (o.g.right && decide (clE c = 0)) := by simp
 rw [hb] at h1
 unfold maxB
 generalize hr : (o.g.right && decide (clE c = 0)) = r at h1
 by_cases hi : 0 ≤ i
 ·by_cases hl : i < c.length
  ·obtain ⟨k, rfl⟩ : ∃ k : Nat, i = k := ⟨i.toNat, by omega⟩
   have hk : k < c.length := by omega
   have h2 := free_ok (g := 28) (caps := [.dptr [.bool o.path, .sl (encS o.g.names) o.g.names.length false none, .sl (encI o.g.weights) o.g.weights.length false none], .dptr [.sl (encC c) c.length false none], .dptr [.int .i64 k]]) (fl := false) (nl := none) (c := c) (p := fun l => decide (litsF o.g.right o.cmp l c[k] = 1)) k hn ⟨rfl, rfl, by decide⟩ (fun l hm => max1_ok o hg hc hz false none hk (hc.2 _ hm) (hz _ hm))
   have e : c[(k : Int).toNat]? = some c[k] := by simp [hk]
   rw [e]
   simp only
   refine pcl_body code11 ?_
   generalize freeF k (fun l => decide (litsF o.g.right o.cmp l c[k] = 1)) 0 c = f at *
   obtain ⟨p, g⟩ := o
   simp [Od.enc, Sg.enc, cellC] at h1 h2
   cases r
   ·simp [-isNil, isNil_sl, isNil_int, isNil_bool, isNil_str, isNil_agg, isNil_dptr, isNil_fn, isNil_fna, isNil_osl, isNil_ptr, isNil_agga, Od.enc, Sg.enc, plc_raw, h1]
   ·simp [-isNil, isNil_sl, isNil_int, isNil_bool, isNil_str, isNil_agg, isNil_dptr, isNil_fn, isNil_fna, isNil_osl, isNil_ptr, isNil_agga, Od.enc, Sg.enc, plc_raw, h1, h2, hk]
  ·refine pcl_body code11 ?_
   obtain ⟨p, g⟩ := o
   simp [Od.enc, Sg.enc, cellC] at h1
   cases r <;> simp [-isNil, isNil_sl, isNil_int, isNil_bool, isNil_str, isNil_agg, isNil_dptr, isNil_fn, isNil_fna, isNil_osl, isNil_ptr, isNil_agga, Od.enc, Sg.enc, plc_raw, h1, hi, hl]
 ·refine pcl_body code11 ?_
  obtain ⟨p, g⟩ := o
  simp [Od.enc, Sg.enc, cellC] at h1
  cases r <;> simp [-isNil, isNil_sl, isNil_int, isNil_bool, isNil_str, isNil_agg, isNil_dptr, isNil_fn, isNil_fna, isNil_osl, isNil_ptr, isNil_agga, Od.enc, Sg.enc, plc_raw, h1, hi]
end Go.Proofs.YtajilkmepjhkdaaGreat.Am

/-
 The orders' laws: what they begin with, the chapter's examples. No condition.
-/
namespace Go.Proofs.YtajilkmepjhkdaaGreat.Am
open Go Go.Proofs
set_option maxHeartbeats 4000000
set_option maxRecDepth 20000
set_option linter.unusedSimpArgs false
set_option linter.unusedVariables false
theorem own9_ok (o : Od) : pcl Cp 6 [.agg o.enc] = some (.agg o.enc) := by
 obtain ⟨p, g⟩ := o
 have h := own_ok g
 refine pcl_body code6 ?_
 simp [Sg.enc] at h
 simp [Od.enc, Sg.enc, plc_raw, h]
def lightB (xs : List (List Lt × Option Bool)) : Bool := xs.all fun x => decide (x.1.length ≤ 10) && decide (csizeW 0 x.1 ≤ 200)
abbrev lgT (xs : List (List Lt × Option Bool)) (i : Nat) : List AV := [.d (.sl (xs.map cellC) xs.length false none), .junk, .d (.bool false), .d (.int .i64 i), .junk, .junk, .junk, .junk, .junk, .junk, .junk, .junk, .junk, .junk, .junk, .junk, .junk, .junk, .junk, .junk, .junk, .junk, .junk, .junk]
theorem light_ok {xs : List (List Lt × Option Bool)} (hn : xs.length ≤ 1048576) (hx : ∀ x ∈ xs, okC x.1) : pcl Cp 4 [.sl (xs.map cellC) xs.length false none] = some (.bool (lightB xs)) := by
 have h := loop_rule (P := Tryz.prog) (pol := plc) (c := b4_0) (m := ⟨[true, false, true, true, false, false, false, false, false, false, false, false, false, false, false, false, false, false, false, false, false, false, false, false], some 2⟩)
  (b := 2) (tm := fun (i : Nat) => lgT xs i) (Hf := fun _ => fun _ => none)
  (I := fun i => i ≤ xs.length) (μ := fun i => xs.length - i) (res := fun i => lightB (xs.drop i)) (R := fun r e t => if r then AtExit 0 (lgT xs xs.length) (fun _ => none) e t else AtRet 2 (.d (.bool false)) e t)
  (fun i nx hi => by
   rcases Nat.lt_or_ge i xs.length with hl | hl
   ·have hcall := rsize6_ok (hx _ (List.getElem_mem hl)) false xs[i].2
    have h1 : i < (xs.map cellC).length := by simpa using hl
    have hil : (i : Int) < (xs.length : Int) := by omega
    have hiw : IntKind.i64.wrap ((i : Int) + 1) = (i : Int) + 1 := wrap_i64 (by omega) (by omega)
    have h2 : 1 ≤ xs.length - i := by omega
    have hd : lightB (xs.drop i) = ((decide (xs[i].1.length ≤ 10) && decide (csizeW 0 xs[i].1 ≤ 200)) && lightB (xs.drop (i + 1))) := by rw [List.drop_eq_getElem_cons hl]; rfl
    generalize csizeW 0 xs[i].1 = z at hcall hd
    conv => arg 9; arg 4; unfold b4_0
    by_cases h10 : xs[i].1.length ≤ 10
    ·have h10' : ¬ (10 : Int) < (xs[i].1.length : Int) := by omega
     by_cases h200 : z ≤ 200
     ·have h200' : ¬ (200 : Int) < z := by omega
      simp [hil, hl, h1, h2, hiw, cellC, hcall, plc_raw, h10, h10', h200, h200', -List.map_drop, -List.map_take]
      exact .next (i + 1) (by omega) (by simp) rfl hl (by omega) (by simp only [hd, h10, h200, decide_true, Bool.true_and])
     ·have h200' : (200 : Int) < z := by omega
      simp [hil, hl, h1, h2, hiw, cellC, hcall, plc_raw, h10, h10', h200, h200', -List.map_drop, -List.map_take]
      exact .fin _ _ (by rw [hd, decide_eq_false h200]; simp only [Bool.and_false, Bool.false_and, Bool.false_eq_true, if_false]; exact ⟨rfl, rfl⟩)
    ·have h10' : (10 : Int) < (xs[i].1.length : Int) := by omega
     simp [hil, hl, h1, h2, hiw, cellC, hcall, plc_raw, h10, h10', -List.map_drop, -List.map_take]
     exact .fin _ _ (by rw [hd, decide_eq_false h10]; simp only [Bool.false_and, Bool.false_eq_true, if_false]; exact ⟨rfl, rfl⟩)
   ·obtain rfl : i = xs.length := Nat.le_antisymm hi hl
    simp [b4_0]
    exact .fin _ _ (by simp [lightB]; exact .mk)) 0 (Nat.zero_le _)
 obtain ⟨e, t, hrun, hR⟩ := h
 simp only [List.drop_zero] at hR
 refine pcl_body code4 ?_
 generalize lightB xs = r at *
 simp [lgT] at hrun
 cases r
 ·obtain ⟨rfl, hv⟩ := hR
  simp [hrun, hv]
 ·obtain ⟨rfl, nx, rfl⟩ := hR
  simp [hrun]
abbrev oW : Od := ⟨false, ⟨[], []⟩⟩
abbrev oP : Od := ⟨true, ⟨[], []⟩⟩
abbrev aL (n : Bool) : Lt := ⟨n, tA, tB⟩
abbrev bL : Lt := ⟨false, tB, tA⟩
theorem sAA : tA.sameB tA = true := by decide +kernel
theorem sAB : tA.sameB tB = false := by decide +kernel
theorem sBA : tB.sameB tA = false := by decide +kernel
theorem sBB : tB.sameB tB = true := by decide +kernel
theorem ex91 : litsF oW.g.right oW.cmp (aL true) (aL false) = 1 := by
 rw [litsF_R]
 have e1 : restF Term.sameB (aL true).sides (aL false).sides = [tA, tB] := by simp [restF, Lt.sides, List.findIdx?_cons, sAA, sAB, sBA, sBB]
 have e2 : restF Term.sameB (aL false).sides (aL true).sides = [] := by simp [restF, Lt.sides, List.findIdx?_cons, sAA, sAB, sBA, sBB]
 rw [if_pos (by decide +kernel)]
 unfold extF
 rw [e1, e2]; rfl
theorem ex93 : litsF oW.g.right oW.cmp (aL false) bL = 0 := by
 rw [litsF_R]
 have e1 : restF Term.sameB (aL false).sides bL.sides = [] := by simp [restF, Lt.sides, List.findIdx?_cons, sAA, sAB, sBA, sBB]
 have e2 : restF Term.sameB bL.sides (aL false).sides = [] := by simp [restF, Lt.sides, List.findIdx?_cons, sAA, sAB, sBA, sBB]
 rw [if_pos (by decide +kernel)]
 unfold extF
 rw [e1, e2]; rfl
theorem ex92 : maxB oW.g.right oW.cmp [aL false] 0 = true := by
 have h1 : oW.g.right = true := by decide +kernel
 have h2 : clE [aL false] = 0 := by decide +kernel
 unfold maxB
 rw [h1, h2]
 simp [freeF]
theorem ex94 : oP.cmp tB tA = 1 := by
 rw [oP.cmp_small (by decide) (by decide)]
 have hs : SymGt ⟨[], []⟩ (ByteArray.mk #[98]) (ByteArray.mk #[97]) 0 0 := .inl ⟨by decide +kernel, by decide +kernel⟩
 exact (lCmp_of ⟨[], []⟩ _ _ (by decide +kernel) (by decide +kernel) (by decide +kernel)).2.1 (.sym (by decide +kernel) (by decide +kernel) (fun b hb => by simp at hb) hs)
theorem alive09_ok : pcl Cp 5 [] = some (.bool true) := by
 have hg : (⟨[], []⟩ : Sg).ok := by simp [Sg.ok]
 have hA : tA.ok := by simp [Term.ok, okL]
 have hB : tB.ok := by simp [Term.ok, okL]
 have c1 := mLits_ok oW hg (x := aL true) (y := aL false) ⟨hA, hB⟩ ⟨hA, hB⟩ ⟨by decide, by decide⟩ ⟨by decide, by decide⟩
 have c3 := mLits_ok oW hg (x := aL false) (y := bL) ⟨hA, hB⟩ ⟨hB, hA⟩ ⟨by decide, by decide⟩ ⟨by decide, by decide⟩
 have c2 := mMax_ok oW hg (c := [aL false]) ⟨by simp, fun x hx => by simp at hx; subst hx; exact ⟨hA, hB⟩⟩ (by simp) (fun x hx => by simp at hx; subst hx; exact ⟨by decide, by decide⟩) 0
 have c4 := mTerms_ok oP hg hB hA (by decide) (by decide)
 rw [ex91] at c1
 rw [ex92] at c2
 rw [ex93] at c3
 rw [ex94] at c4
 simp [Lt.enc, Term.enc, Od.enc, Sg.enc, encL, encS, encI, encC] at c1 c2 c3 c4
 refine pcl_body code5 ?_
 simp [plc_raw, c1, c2, c3, c4]
end Go.Proofs.YtajilkmepjhkdaaGreat.Am

/-
 What is left of a row behind taking away another one. No condition.
-/
namespace Go.Proofs.YtajilkmepjhkdaaGreat.Am
open Go Go.Proofs
set_option maxHeartbeats 4000000
set_option maxRecDepth 20000
set_option linter.unusedSimpArgs false
set_option linter.unusedVariables false
theorem delRowL_ok {H : Hp} {v : AV} {a b : List Lt} {q : Lt} {o : Oid} (h : RowL H v (a ++ q :: b) o) (nx : Nat) (ho : o.1 < nx) :
  ∃ (n ver : Nat) (H' : Hp) (nx' : Nat), acall Tryz.prog plc 61 [v, .d (.int .i64 a.length), .d (.int .i64 (a.length + 1))] H nx = some (.osl o 0 n 7 ver, H', nx') ∧ nx ≤ nx' ∧ RowL H' (.osl o 0 n 7 ver) (a ++ b) o ∧ ∀ p : Oid, p.1 < nx → p ≠ o → H' p = H p := by
 generalize hmq : a ++ q :: b = mq at h
 cases h with
 | vn o h => simp at hmq
 | row o _ cs hc hv ht hb =>
  subst hmq
  have hlen1 : (a ++ q :: b).length = a.length + b.length + 1 := by simp; omega
  obtain ⟨cs', H1, N1, hdel, hN1, hc1, hk1, hcl, htk⟩ := delL_ok hc hv ht hb nx ho (a.length + b.length) rfl
  have hrow' := RowL.row (H := H1) o (a ++ b) cs' hc1 (by rw [hcl]; simp only [List.length_append, List.length_cons] at hv ⊢; omega) htk (by omega)
  rw [hcl, show (a ++ b).length = a.length + b.length by simp] at hrow'
  rw [hlen1]
  exact ⟨_, _, H1, N1, hdel, hN1, hrow', hk1⟩
structure RsL where
 i : Nat
 out : List Lt
 m : List Lt
 mv : AV
 H : Hp
abbrev restTmL (l : List Lt) (f1 : Bool) (n1 : Option Bool) (mv out : AV) (i : Nat) : List AV := [.junk, mv, .junk, .junk, .junk, .ptr (0, 0) 0 1, .osl (1, 1) 0 0 1 0, out, .junk, .junk, .junk, .junk, .junk, .d (.sl (encC l) l.length f1 n1), .d (.int .i64 l.length), .d (.int .i64 i), .junk, .junk, .junk, .junk, .junk, .junk, .junk, .junk, .junk, .junk, .junk, .junk, .junk, .junk, .junk, .junk, .junk, .junk, .junk]
structure RsIL (l : List Lt) (om oo : Oid) (s : RsL) : Prop where
 il : s.i ≤ l.length
 row : RowL s.H s.mv s.m om
 out : s.H oo = some (gOL s.out)
 ol : s.out.length ≤ s.i
 sm : s.H (0, 0) = some (.cells [.d (.fn 16 [])])
 mm : ∀ x ∈ s.m, x.ok
 ml : s.m.length ≤ 1048576
def RsEL (N : Nat) (l : List Lt) (f1 : Bool) (n1 : Option Bool) (oo : Oid) (r : List Lt) (e : Ex) (st : St) : Prop :=
 N ≤ st.nx ∧ e = .exit 0 ∧ st.hp oo = some (gOL r) ∧ ∃ mv, st.tm = restTmL l f1 n1 mv (gVL oo r) l.length
theorem restL_loop (same : Lt → Lt → Bool) (hsame : ∀ x y : Lt, x.ok → y.ok → pcl Cp 16 [.agg x.enc, .agg y.enc] = some (.bool (same x y))) (l : List Lt) (hll : l.length ≤ 1048576) (hlo : ∀ x ∈ l, x.ok) (f1 : Bool) (n1 : Option Bool) {om oo : Oid} {N : Nat} (h1 : 0 < om.1) (h2 : om.1 < oo.1) (h3 : oo.1 < N) (s0 : RsL) (hI0 : RsIL l om oo s0) :
  ∃ e st, aloop Tryz.prog plc b34_0 ⟨[false, true, false, false, false, true, true, true, false, false, false, false, false, true, true, true, false, false, false, false, false, false, false, false, false, false, false, false, false, false, false, false, false, false, true], some N⟩ ⟨restTmL l f1 n1 s0.mv (gVL oo s0.out) s0.i, s0.H, N⟩ = some (e, st) ∧ RsEL N l f1 n1 oo (s0.out ++ restF same (l.drop s0.i) s0.m) e st :=
 loop_rule (P := Tryz.prog) (pol := plc) (c := b34_0) (m := ⟨[false, true, false, false, false, true, true, true, false, false, false, false, false, true, true, true, false, false, false, false, false, false, false, false, false, false, false, false, false, false, false, false, false, false, true], some N⟩)
  (b := N) (tm := fun (s : RsL) => restTmL l f1 n1 s.mv (gVL oo s.out) s.i) (Hf := fun s => s.H)
  (I := RsIL l om oo) (μ := fun s => l.length - s.i) (res := fun s => s.out ++ restF same (l.drop s.i) s.m) (R := RsEL N l f1 n1 oo)
  (fun s nx1 hI => by
   have hrow := hI.row
   have hout := hI.out
   have hsm := hI.sm
   have hn : l.length ≤ 9223372036854775807 := by omega
   rcases Nat.lt_or_ge s.i l.length with hl | hl
   ·obtain ⟨n, v, fn, args, v2, fn2, args2, a⟩ := atC_ok hn hl
    have hx := hlo _ a.mem
    have hget : l[s.i] = .mk n (.mk v fn args) (.mk v2 fn2 args2) := a.get
    obtain ⟨Hb, hHb⟩ : ∃ Hb : Hp, Hb = upd (upd (upd s.H (nx1 + (N + 3), 4) .vnil) (nx1 + (N + 3), 7) .vnil) (nx1 + (N + 3), 0) (.cells [.d (.bool n), .d (.int .i64 v), .d (.str fn), .d (.sl (encL args) args.length false none), .d (.int .i64 v2), .d (.str fn2), .d (.sl (encL args2) args2.length false none)]) := ⟨_, rfl⟩
    have hbk : ∀ p : Oid, p.1 < N → Hb p = s.H p := fun p hp => by rw [hHb]; simp only [uold (show p.1 < nx1 + (N + 3) by omega)]
    have hbs : Hb (nx1 + (N + 3), 0) = some (.cells [.d (.bool n), .d (.int .i64 v), .d (.str fn), .d (.sl (encL args) args.length false none), .d (.int .i64 v2), .d (.str fn2), .d (.sl (encL args2) args2.length false none)]) := by rw [hHb]; exact upd_same _ _ _
    have hb0 : Hb (0, 0) = some (.cells [.d (.fn 16 [])]) := (hbk _ (by simp only; omega)).trans hsm
    have hrb : RowL Hb s.mv s.m om := hrow.keep (hbk _ (by omega))
    have hbo : Hb oo = some (gOL s.out) := (hbk _ h3).trans hout
    obtain ⟨nl, is, hre⟩ := reify_rowL hrb
    have hre6 := hre 5
    simp only [Nat.reduceAdd] at hre6
    have hidx := idxL_ok (g := 60) (caps := [.dptr [.fn 16 []], .dptr (Lt.mk n (.mk v fn args) (.mk v2 fn2 args2)).enc]) (fl := false) (nl := nl) (p := same (.mk n (.mk v fn args) (.mk v2 fn2 args2))) (ts := s.m) (by have := hI.ml; omega) ⟨rfl, rfl, by decide⟩ (fun y hy => rest1L_ok (hsame _ _ hx (hI.mm y hy)))
    simp [Lt.enc, Term.enc] at hidx
    have hol := hI.ol
    have hdr := a.dr
    have hfr : restF same (l.drop s.i) s.m = (match s.m.findIdx? (same (.mk n (.mk v fn args) (.mk v2 fn2 args2))) with | none => .mk n (.mk v fn args) (.mk v2 fn2 args2) :: restF same (l.drop (s.i + 1)) s.m | some k => restF same (l.drop (s.i + 1)) (s.m.eraseIdx k)) := by rw [hdr]; rfl
    cases hq : s.m.findIdx? (same (.mk n (.mk v fn args) (.mk v2 fn2 args2))) with
    | none =>
     rw [hq] at hidx hfr
     simp only at hidx hfr
     have happ := append_gL (H := upd Hb (nx1 + (N + 13), 0) (.cells [.d (.bool n), .d (.int .i64 v), .d (.str fn), .d (.sl (encL args) args.length false none), .d (.int .i64 v2), .d (.str fn2), .d (.sl (encL args2) args2.length false none)])) (id := nx1 + (N + 14)) (o := oo) (o2 := (nx1 + (N + 13), 0)) (l := s.out) (x := .mk n (.mk v fn args) (.mk v2 fn2 args2)) (by rw [uold (by omega)]; exact hbo) (by rw [upd_same]; simp [Lt.enc, Term.enc]) (by omega)
     rw [gVL_app] at happ
     conv => arg 9; arg 4; unfold b34_0
     simp [a.lti, a.sz, a.ltm, a.cells, a.le7, a.w, plc_raw, Nat.add_assoc, ← hHb, hb0, hbs, hre6, hidx, happ]
     refine .next (RsL.mk (s.i + 1) (s.out ++ [.mk n (.mk v fn args) (.mk v2 fn2 args2)]) s.m s.mv (below N (upd (upd Hb (nx1 + (N + 13), 0) (.cells [.d (.bool n), .d (.int .i64 v), .d (.str fn), .d (.sl (encL args) args.length false none), .d (.int .i64 v2), .d (.str fn2), .d (.sl (encL args2) args2.length false none)])) oo (gOL (s.out ++ [.mk n (.mk v fn args) (.mk v2 fn2 args2)]))))) (by omega) (by simp [gVL_app]) rfl ⟨hl, ?_, ?_, by simp; omega, ?_, hI.mm, hI.ml⟩ (by simp only; omega) ?_
     ·exact hrb.keep (by simp only; rw [blt (by omega), une (fun e => by rw [e] at h2; omega), uold (by omega)])
     ·simp only; rw [blt h3, upd_same]
     ·simp only; rw [blt (by simp only; omega), une (fun e => by rw [← e] at h2; simp at h2), uold (by simp only; omega)]; exact hb0
     ·simp only; rw [hfr]; simp
    | some k =>
     rw [hq] at hidx hfr
     simp only at hidx hfr
     obtain ⟨aa, q, bb, e1, e2, e3⟩ := splitL hq
     have hml := hI.ml
     have hmm := hI.mm
     rw [e3] at hfr
     rw [e1] at hml hmm
     have hk0 : ¬ ((k : Int) < 0) := by omega
     have hkw : IntKind.i64.wrap ((k : Int) + 1) = (k : Int) + 1 := wrap_i64 (by simp at hml; omega) (by simp at hml; omega)
     rw [e1] at hrb
     obtain ⟨n', ver', H1, N1, hdel, hN1, hrow', hk1⟩ := delRowL_ok hrb (nx1 + (N + 17)) (by omega)
     rw [e2] at hdel
     conv => arg 9; arg 4; unfold b34_0
     simp [a.lti, a.sz, a.ltm, a.cells, a.le7, a.w, plc_raw, Nat.add_assoc, ← hHb, hb0, hbs, hre6, hidx, hk0, hkw, hdel]
     refine .next (RsL.mk (s.i + 1) s.out (aa ++ bb) (.osl om 0 n' 7 ver') (below N H1)) (by omega) (by simp) rfl ⟨hl, ?_, ?_, by simp only; omega, ?_, fun x hx => hmm x (by simp only [List.mem_append, List.mem_cons] at hx ⊢; rcases hx with h | h; exact .inl h; exact .inr (.inr h)), by simp at hml ⊢; omega⟩ (by simp only; omega) ?_
     ·exact hrow'.keep (by simp only; rw [blt (by omega)])
     ·simp only; rw [blt h3, hk1 _ (by omega) (fun e => by rw [e] at h2; omega)]; exact hbo
     ·simp only; rw [blt (by simp only; omega), hk1 _ (by simp only; omega) (fun e => by rw [← e] at h1; simp at h1)]; exact hb0
     ·simp only; rw [hfr]
   ·have hie : s.i = l.length := Nat.le_antisymm hI.il hl
    simp [b34_0, hie]
    refine .fin _ _ ⟨by simp only; omega, rfl, ?_, s.mv, ?_⟩
    ·simp only [hie, List.drop_length, restF, List.append_nil]; rw [blt h3]; exact hout
    ·simp only [hie, List.drop_length, restF, List.append_nil]) s0 hI0
end Go.Proofs.YtajilkmepjhkdaaGreat.Am

/-
 What is left of a row behind taking away another one: the whole function. No condition.
-/
namespace Go.Proofs.YtajilkmepjhkdaaGreat.Am
open Go Go.Proofs
set_option maxHeartbeats 4000000
set_option maxRecDepth 20000
set_option linter.unusedSimpArgs false
set_option linter.unusedVariables false
theorem restL_ok {same : Lt → Lt → Bool} (hsame : ∀ x y : Lt, x.ok → y.ok → pcl Cp 16 [.agg x.enc, .agg y.enc] = some (.bool (same x y))) {l m : List Lt} (hll : l.length ≤ 1048576) (hml : m.length ≤ 1048576) (hlo : ∀ x ∈ l, x.ok) (hmo : ∀ x ∈ m, x.ok) (f1 f2 b : Bool) (n1 : Option Bool) (hb : b = true → m = []) :
  ∃ nl : Bool, pcl Cp 34 [.sl (encC l) l.length f1 n1, .sl (encC m) m.length f2 (some b), .fn 16 []] = some (.sl (encC (restF same l m)) (restF same l m).length false (some nl)) ∧ (nl = true → restF same l m = []) := by
 obtain ⟨H0, hH0⟩ : ∃ H0 : Hp, H0 = upd (upd (fun _ => none) (0, 0) (.cells [.d (.fn 16 [])])) (1, 1) .vnil := ⟨_, rfl⟩
 obtain ⟨v, H1, N1, om, hclo, hrow, hN, ho1, ho2, hk⟩ := cloL_ok H0 5 f2 b m hml hb
 have hnv : isNil v = false := by cases hrow <;> rfl
 have h00 : H1 (0, 0) = some (.cells [.d (.fn 16 [])]) := by rw [hk _ (by decide), hH0]; simp [upd]
 obtain ⟨e, st, hrun, hN2, rfl, hout, mv', htm⟩ := restL_loop same hsame l hll hlo f1 n1 (om := om) (oo := (N1, 1)) (N := N1 + 4) (by omega) (by simp only; omega) (by simp only; omega) ⟨0, [], m, v, upd H1 (N1, 1) .vnil⟩
  ⟨Nat.zero_le _, hrow.keep (uold ho2 _ _ _), by simp [gOL], Nat.le_refl _, (uold (by simp only; omega) _ _ _).trans h00, hmo, hml⟩
 obtain ⟨tm, Hs, ns⟩ := st
 simp only [List.nil_append, List.drop_zero] at htm hout hrun
 subst htm
 refine ⟨decide (restF same l m = []), pcl_body code34 ?_, fun h => by simpa using h⟩
 have hrl := encC_len (restF same l m)
 have hfin : restF same l m ≠ [] → mapD (reify Hs 5) (List.take ((restF same l m).length * 7) ((encC (restF same l m)).map AV.d)) = some (encC (restF same l m), []) := fun _ => by
  rw [List.take_of_length_le (by simp [hrl])]; exact mapD_encT _ _ _
 generalize restF same l m = rr at *
 have hz : ¬ rr = [] → ¬ rr.length = 0 := fun h e => h (List.length_eq_zero_iff.1 e)
 cases hrow with
 | vn o h =>
  simp only [List.length_nil, encC] at hclo
  by_cases hr : rr = []
  ·subst hr
   simp [restTmL, gVL, gOL] at hrun hout
   simp [plc_raw, ← hH0, hclo, hrun, hout, encC]
  ·have hfin := hfin hr
   have hz := hz hr
   simp [restTmL, gVL, gOL, hr] at hrun hout
   simp [plc_raw, ← hH0, hclo, hrun, hout, hr, hrl, hfin, encC]
 | row o _ cs h hv ht hb2 =>
  by_cases hr : rr = []
  ·subst hr
   simp [restTmL, gVL, gOL] at hrun hout
   simp [plc_raw, ← hH0, hclo, hrun, hout, encC]
  ·have hfin := hfin hr
   have hz := hz hr
   simp [restTmL, gVL, gOL, hr] at hrun hout
   simp [plc_raw, ← hH0, hclo, hrun, hout, hr, hrl, hfin, encC]
end Go.Proofs.YtajilkmepjhkdaaGreat.Am

/-
 The program's extension of an order to multisets. No condition.
-/
namespace Go.Proofs.YtajilkmepjhkdaaGreat.Am
open Go Go.Proofs
set_option maxHeartbeats 4000000
set_option maxRecDepth 20000
set_option linter.unusedSimpArgs false
set_option linter.unusedVariables false
theorem ext111L_ok {os : List D} (hos : wkL os = os) {s t : Lt} {k : Int} (h : pcl Cp 10 [.agg os, .agg s.enc, .agg t.enc] = some (.int .i64 k)) : pcl Cp 38 [.agg s.enc, .dptr [.fn (10 + 1000000001) [.agg os]], .dptr t.enc] = some (.bool (decide (k = 1))) := by
 refine pcl_body code38 ?_
 obtain ⟨n, ⟨v, fn, args⟩, ⟨v2, fn2, args2⟩⟩ := s
 obtain ⟨m, ⟨w, fm, brgs⟩, ⟨w2, fm2, brgs2⟩⟩ := t
 simp [Lt.enc, Term.enc] at h
 simp [Lt.enc, Term.enc, plc_raw, h, hos]
theorem ext11L_ok {os : List D} (hos : wkL os = os) {t : Lt} {a : List Lt} {tc : Lt → Lt → Int} (hn : a.length ≤ 1048576) (fl : Bool) (nl : Option Bool) (h : ∀ s ∈ a, pcl Cp 10 [.agg os, .agg s.enc, .agg t.enc] = some (.int .i64 (tc s t))) :
  pcl Cp 37 [.agg t.enc, .dptr [.sl (encC a) a.length fl nl], .dptr [.fn (10 + 1000000001) [.agg os]]] = some (.bool (!a.any fun s => decide (tc s t = 1))) := by
 have hc := conL_ok (g := 38) (caps := [.dptr [.fn (10 + 1000000001) [.agg os]], .dptr t.enc]) (fl := fl) (nl := nl) (p := fun s => decide (tc s t = 1)) (ts := a) (by omega) ⟨rfl, rfl, by decide⟩ (fun s hs => ext111L_ok hos (h s hs))
 refine pcl_body code37 ?_
 generalize (a.any fun s => decide (tc s t = 1)) = r at *
 obtain ⟨n, ⟨v, fn, args⟩, ⟨v2, fn2, args2⟩⟩ := t
 simp [Lt.enc, Term.enc] at hc
 simp [Lt.enc, Term.enc, plc_raw, hc]
theorem ext1L_ok {os : List D} (hos : wkL os = os) {a b : List Lt} {tc : Lt → Lt → Int} (hn : a.length ≤ 1048576) (hm : b.length ≤ 1048576) (fl2 : Bool) (nl nl2 : Option Bool) (h : ∀ s ∈ a, ∀ t ∈ b, pcl Cp 10 [.agg os, .agg s.enc, .agg t.enc] = some (.int .i64 (tc s t))) :
  pcl Cp 35 [.sl (encC a) a.length false nl, .sl (encC b) b.length fl2 nl2, .dptr [.fn (10 + 1000000001) [.agg os]]] = some (.bool (coversF (fun s t => decide (tc s t = 1)) a b)) := by
 have hc := conL_ok (g := 37) (caps := [.dptr [.sl (encC a) a.length false nl], .dptr [.fn (10 + 1000000001) [.agg os]]]) (fl := fl2) (nl := nl2) (p := fun t => !a.any fun s => decide (tc s t = 1)) (ts := b) (by omega) ⟨rfl, rfl, by decide⟩ (fun t ht => ext11L_ok hos hn false nl (fun s hs => h s hs t ht))
 have he : coversF (fun s t => decide (tc s t = 1)) a b = (decide (0 < a.length) && !(b.any fun t => !a.any fun s => decide (tc s t = 1))) := by
  unfold coversF
  congr 1
  ·cases a <;> rfl
  ·rw [List.not_any_eq_all_not]; simp
 rw [he]
 refine pcl_body code35 ?_
 generalize (b.any fun t => !a.any fun s => decide (tc s t = 1)) = r at *
 simp at hc
 by_cases ha : 0 < a.length
 ·have ha' : (0 : Int) < (a.length : Int) := by omega
  simp [-isNil, isNil_sl, isNil_int, isNil_bool, isNil_str, isNil_agg, isNil_dptr, isNil_fn, isNil_fna, isNil_osl, isNil_ptr, isNil_agga, plc_raw, ha, ha', hc]
 ·have ha' : ¬ (0 : Int) < (a.length : Int) := by omega
  simp [-isNil, isNil_sl, isNil_int, isNil_bool, isNil_str, isNil_agg, isNil_dptr, isNil_fn, isNil_fna, isNil_osl, isNil_ptr, isNil_agga, plc_raw, ha, ha']
theorem extL_ok {os : List D} (hos : wkL os = os) {same : Lt → Lt → Bool} (hsame : ∀ x y : Lt, x.ok → y.ok → pcl Cp 16 [.agg x.enc, .agg y.enc] = some (.bool (same x y))) {l m : List Lt} {tc : Lt → Lt → Int} (hll : l.length ≤ 1048576) (hml : m.length ≤ 1048576) (hlo : ∀ x ∈ l, x.ok) (hmo : ∀ x ∈ m, x.ok)
  (h1 : ∀ s ∈ l, ∀ t ∈ m, pcl Cp 10 [.agg os, .agg s.enc, .agg t.enc] = some (.int .i64 (tc s t))) (h2 : ∀ s ∈ m, ∀ t ∈ l, pcl Cp 10 [.agg os, .agg s.enc, .agg t.enc] = some (.int .i64 (tc s t))) (f1 f2 b1 b2 : Bool) (hb1 : b1 = true → l = []) (hb2 : b2 = true → m = []) :
  pcl Cp 15 [.sl (encC l) l.length f1 (some b1), .sl (encC m) m.length f2 (some b2), .fn 16 [], .fn (10 + 1000000001) [.agg os]] = some (.int .i64 (extF same (fun s t => decide (tc s t = 1)) l m)) := by
 obtain ⟨nx, hx, _⟩ := restL_ok hsame hll hml hlo hmo f1 f2 b2 (some b1) hb2
 obtain ⟨ny, hy, _⟩ := restL_ok hsame hml hll hmo hlo f2 f1 b1 (some b2) hb1
 have mx := rest_mem (same := same) l m
 have my := rest_mem (same := same) m l
 have lx : (restF same l m).length ≤ 1048576 := Nat.le_trans (rest_len l m) hll
 have ly : (restF same m l).length ≤ 1048576 := Nat.le_trans (rest_len m l) hml
 have c1 := ext1L_ok hos (a := restF same l m) (b := restF same m l) (tc := tc) lx ly false (some nx) (some ny) (fun s hs t ht => h1 s (mx s hs) t (my t ht))
 have c2 := ext1L_ok hos (a := restF same m l) (b := restF same l m) (tc := tc) ly lx false (some ny) (some nx) (fun s hs t ht => h2 s (my s hs) t (mx t ht))
 refine pcl_body code15 ?_
 unfold extF
 generalize restF same l m = x at *
 generalize restF same m l = y at *
 generalize coversF (fun s t => decide (tc s t = 1)) x y = r1 at *
 generalize coversF (fun s t => decide (tc s t = 1)) y x = r2 at *
 have hw : IntKind.i64.wrap ((x.length : Int) + (y.length : Int)) = (x.length : Int) + (y.length : Int) := wrap_i64 (by omega) (by omega)
 simp at c1 c2
 have hw0 : IntKind.i64.wrap 0 = 0 := by decide
 by_cases h0 : x.length + y.length = 0
 ·have h0' : (x.length : Int) + (y.length : Int) = 0 := by omega
  simp [-isNil, isNil_sl, isNil_int, isNil_bool, isNil_str, isNil_agg, isNil_dptr, isNil_fn, isNil_fna, isNil_osl, isNil_ptr, isNil_agga, plc_raw, hx, hy, hw, hw0, h0, h0']
 ·have h0' : ¬ (x.length : Int) + (y.length : Int) = 0 := by omega
  have h00 : x = [] → ¬ y = [] := fun e1 e2 => h0 (by rw [e1, e2]; rfl)
  cases r1
  ·cases r2 <;> simp [hw0, -isNil, isNil_sl, isNil_int, isNil_bool, isNil_str, isNil_agg, isNil_dptr, isNil_fn, isNil_fna, isNil_osl, isNil_ptr, isNil_agga, plc_raw, hx, hy, hw, h0, h0', c1, c2] <;> exact h00
  ·simp [hw0, -isNil, isNil_sl, isNil_int, isNil_bool, isNil_str, isNil_agg, isNil_dptr, isNil_fn, isNil_fna, isNil_osl, isNil_ptr, isNil_agga, plc_raw, hx, hy, hw, h0, h0', c1]; exact h00
end Go.Proofs.YtajilkmepjhkdaaGreat.Am

/-
 The program's order of clauses. No condition.
-/
namespace Go.Proofs.YtajilkmepjhkdaaGreat.Am
open Go Go.Proofs
set_option maxHeartbeats 4000000
set_option maxRecDepth 20000
set_option linter.unusedSimpArgs false
set_option linter.unusedVariables false
theorem clausesF_B (gr : Bool) (tc : Term → Term → Int) (c d : List Lt) : clausesF gr tc c d = if (gr && (decide (clE c = 0) && decide (clE d = 0))) = true then extF Lt.same (fun a b => decide (litsF gr tc a b = 1)) c d else 2 := by
 unfold clausesF
 by_cases h : gr = true ∧ clE c = 0 ∧ clE d = 0
 ·rw [if_pos h, if_pos (by simp [h])]
 ·rw [if_neg h, if_neg (fun k => h (by simpa using k))]
theorem mCls_ok (o : Od) (hg : o.g.ok) {c d : List Lt} (hc : okC c) (hd : okC d) (nc : c.length ≤ 1048576) (nd : d.length ≤ 1048576) (zc : ∀ x ∈ c, x.sm) (zd : ∀ x ∈ d, x.sm) (b1 b2 : Bool) (hb1 : b1 = true → c = []) (hb2 : b2 = true → d = []) :
  pcl Cp 7 [.agg o.enc, .sl (encC c) c.length false (some b1), .sl (encC d) d.length false (some b2)] = some (.int .i64 (clausesF o.g.right o.cmp c d)) := by
 have h1 := mright_ok o hg (xs := [(c, some b1), (d, some b2)]) (by simp) (fun x hx => by simp at hx; rcases hx with rfl | rfl; exact hc; exact hd) false (some false)
 have hb : (o.g.right && ([(c, some b1), (d, some b2)].all fun x => decide (clE x.1 = 0))) = (o.g.right && (decide (clE c = 0) && decide (clE d = 0))) := by simp
 rw [hb] at h1
 have h2 := extL_ok (os := o.enc) (wkL_encO o) (same := Lt.same) (fun x y hx hy => lSame_ok x y hx hy) (l := c) (m := d) (tc := litsF o.g.right o.cmp) nc nd hc.2 hd.2
  (fun s hs t ht => mLits_ok o hg (hc.2 s hs) (hd.2 t ht) (zc s hs) (zd t ht)) (fun s hs t ht => mLits_ok o hg (hd.2 s hs) (hc.2 t ht) (zd s hs) (zc t ht)) false false b1 b2 hb1 hb2
 rw [clausesF_B]
 refine pcl_body code7 ?_
 generalize (o.g.right && (decide (clE c = 0) && decide (clE d = 0))) = r at *
 generalize extF Lt.same _ c d = z at *
 obtain ⟨p, g⟩ := o
 simp [cellC, Od.enc, Sg.enc] at h1 h2
 cases r
 ·simp [-isNil, isNil_sl, isNil_int, isNil_bool, isNil_str, isNil_agg, isNil_dptr, isNil_fn, isNil_fna, isNil_osl, isNil_ptr, isNil_agga, Od.enc, Sg.enc, plc_raw, h1]
 ·simp [-isNil, isNil_sl, isNil_int, isNil_bool, isNil_str, isNil_agg, isNil_dptr, isNil_fn, isNil_fna, isNil_osl, isNil_ptr, isNil_agga, Od.enc, Sg.enc, plc_raw, h1, h2]
end Go.Proofs.YtajilkmepjhkdaaGreat.Am


/-
  Joined texts: AmNo, AmNq, AmNr, AmNp. No condition.
-/
import Derived.Test.YtajilkmepjhkdaaAmPas
/-
 The program's order of clauses. No condition.
-/
namespace Go.Proofs.Ytajilkmepjhkdaa.Am
open Go Go.Proofs
set_option maxHeartbeats 4000000
set_option maxRecDepth 20000
set_option linter.unusedSimpArgs false
set_option linter.unusedVariables false
theorem clausesF_B (gr : Bool) (tc : Term → Term → Int) (c d : List Lt) : clausesF gr tc c d = if (gr && (decide (clE c = 0) && decide (clE d = 0))) = true then extF Lt.same (fun a b => decide (litsF gr tc a b = 1)) c d else 2 := by
 unfold clausesF
 by_cases h : gr = true ∧ clE c = 0 ∧ clE d = 0
 ·rw [if_pos h, if_pos (by simp [h])]
 ·rw [if_neg h, if_neg (fun k => h (by simpa using k))]
theorem mCls_ok (o : Od) (hg : o.g.ok) {c d : List Lt} (hc : okC c) (hd : okC d) (nc : c.length ≤ 1048576) (nd : d.length ≤ 1048576) (zc : ∀ x ∈ c, x.sm) (zd : ∀ x ∈ d, x.sm) (b1 b2 : Bool) (hb1 : b1 = true → c = []) (hb2 : b2 = true → d = []) :
  pcl Cp 18 [.agg o.enc, .sl (encC c) c.length false (some b1), .sl (encC d) d.length false (some b2)] = some (.int .i64 (clausesF o.g.right o.cmp c d)) := by
 have h1 := mright_ok o hg (xs := [(c, some b1), (d, some b2)]) (by simp) (fun x hx => by simp at hx; rcases hx with rfl | rfl; exact hc; exact hd) false (some false)
 have hb : (o.g.right && ([(c, some b1), (d, some b2)].all fun x => decide (clE x.1 = 0))) = (o.g.right && (decide (clE c = 0) && decide (clE d = 0))) := by simp
 rw [hb] at h1
 have h2 := extL_ok (os := o.enc) (wkL_encO o) (same := Lt.same) (fun x y hx hy => lSame_ok x y hx hy) (l := c) (m := d) (tc := litsF o.g.right o.cmp) nc nd hc.2 hd.2
  (fun s hs t ht => mLits_ok o hg (hc.2 s hs) (hd.2 t ht) (zc s hs) (zd t ht)) (fun s hs t ht => mLits_ok o hg (hd.2 s hs) (hc.2 t ht) (zd s hs) (zc t ht)) false false b1 b2 hb1 hb2
 rw [clausesF_B]
 refine pcl_body code18 ?_
 generalize (o.g.right && (decide (clE c = 0) && decide (clE d = 0))) = r at *
 generalize extF Lt.same _ c d = z at *
 obtain ⟨p, g⟩ := o
 simp [cellC, Od.enc, Sg.enc] at h1 h2
 cases r
 ·simp [-isNil, isNil_sl, isNil_int, isNil_bool, isNil_str, isNil_agg, isNil_dptr, isNil_fn, isNil_fna, isNil_osl, isNil_ptr, isNil_agga, Od.enc, Sg.enc, plc_raw, h1]
 ·simp [-isNil, isNil_sl, isNil_int, isNil_bool, isNil_str, isNil_agg, isNil_dptr, isNil_fn, isNil_fna, isNil_osl, isNil_ptr, isNil_agga, Od.enc, Sg.enc, plc_raw, h1, h2]
end Go.Proofs.Ytajilkmepjhkdaa.Am

/-
 A clause with a literal less is right. No condition.
-/
namespace Go.Proofs.Ytajilkmepjhkdaa.Am
open Go Go.Proofs
set_option linter.unusedSimpArgs false
set_option linter.unusedVariables false
def csum : List Lt → Nat
 | [] => 0
 | x :: r => x.l.size + x.r.size + csum r
theorem csum_append : ∀ a b : List Lt, csum (a ++ b) = csum a + csum b
 | [], b => by simp [csum]
 | x :: r, b => by simp only [List.cons_append, csum, csum_append r b]; omega
theorem csum_le : ∀ c : List Lt, (∀ x ∈ c, x.l.size ≤ 1048576 ∧ x.r.size ≤ 1048576) → csum c ≤ c.length * 2097152
 | [], _ => by simp [csum]
 | x :: r, h => by
  have h1 := h x (by simp)
  have h2 := csum_le r fun y hy => h y (by simp [hy])
  simp only [csum, List.length_cons]; omega
theorem csizeW_eq : ∀ (c : List Lt) (acc : Int), (∀ x ∈ c, x.l.size ≤ 1048576 ∧ x.r.size ≤ 1048576) → 0 ≤ acc → acc + csum c ≤ 4611686018427387904 → csizeW acc c = acc + csum c
 | [], acc, _, _, _ => by simp [csizeW, csum]
 | x :: r, acc, h, h0, hb => by
  have h1 := h x (by simp)
  simp only [csum] at hb
  have e1 := sizeW_eq x.l (by omega)
  have e2 := sizeW_eq x.r (by omega)
  have w1 : IntKind.i64.wrap (acc + x.l.sizeW) = acc + x.l.size := by rw [e1]; exact wrap_i64 (by omega) (by omega)
  have w2 : IntKind.i64.wrap (IntKind.i64.wrap (acc + x.l.sizeW) + x.r.sizeW) = acc + x.l.size + x.r.size := by rw [w1, e2]; exact wrap_i64 (by omega) (by omega)
  simp only [csizeW, Lt.sizeW, w2]
  rw [csizeW_eq r _ (fun y hy => h y (by simp [hy])) (by omega) (by omega)]
  simp only [csum]; omega
theorem firstE_zero : ∀ {c : List Lt}, (∀ x ∈ c, x.l.rightE = 0 ∧ x.r.rightE = 0) → firstE c = 0
 | [], _ => rfl
 | y :: r, h => by
  have h1 := h y (by simp)
  simp only [firstE, h1.1, h1.2, ne_eq, not_true_eq_false, if_false]
  exact firstE_zero fun x hx => h x (by simp [hx])
theorem clE_zero {c : List Lt} : clE c = 0 ↔ c.length ≤ 60 ∧ firstE c = 0 ∧ csizeW 0 c ≤ 4000 := by
 unfold clE
 by_cases h0 : c.length > 60
 ·rw [if_pos h0]; constructor
  ·intro h; cases h
  ·intro h; omega
 ·rw [if_neg h0]
  by_cases h1 : firstE c ≠ 0
  ·rw [if_pos h1]; exact ⟨fun h => absurd h h1, fun h => absurd h.2.1 h1⟩
  ·rw [if_neg h1]
   by_cases h2 : csizeW 0 c > 4000
   ·rw [if_pos h2]; constructor
    ·intro h; cases h
    ·intro h; omega
   ·rw [if_neg h2]; exact ⟨fun _ => ⟨by omega, Classical.not_not.1 h1, by omega⟩, fun _ => rfl⟩
theorem clE_less {c : List Lt} {l : Lt} (h : clE (c ++ [l]) = 0) (hs : ∀ x ∈ c ++ [l], x.l.size ≤ 1048576 ∧ x.r.size ≤ 1048576) : clE c = 0 := by
 obtain ⟨h1, h2, h3⟩ := clE_zero.1 h
 have hm := firstE_mem h2
 have hl : c.length ≤ 59 := by simp at h1; omega
 have hs' : ∀ x ∈ c, x.l.size ≤ 1048576 ∧ x.r.size ≤ 1048576 := fun x hx => hs x (by simp [hx])
 have b1 := csum_le (c ++ [l]) hs
 have b2 := csum_append c [l]
 have e1 := csizeW_eq (c ++ [l]) 0 hs (by omega) (by omega)
 have e2 := csizeW_eq c 0 hs' (by omega) (by omega)
 exact clE_zero.2 ⟨by omega, firstE_zero fun x hx => hm x (by simp [hx]), by omega⟩
end Go.Proofs.Ytajilkmepjhkdaa.Am

/-
 The law on a clause with a literal more: the function returns true. No condition.
-/
namespace Go.Proofs.Ytajilkmepjhkdaa.Am
open Go Go.Proofs
set_option maxHeartbeats 4000000
set_option maxRecDepth 20000
set_option linter.unusedSimpArgs false
set_option linter.unusedVariables false
theorem kill_none (H : Hp) : kill H [] = H := by funext p; simp [kill]
theorem app_all {H : Hp} {id : Nat} {o : Oid} {c : List Lt} {fl : Bool} {nl : Option Bool} (h : H o = some (.grow [])) (hn : c.length ≤ 1048576) :
  appendO Try.prog H id 35 35 (.osl o 0 0 7 0) (.d (.sl (encC c) c.length fl nl)) = some (.osl o 0 c.length 7 (c.length * 7), upd H o (.grow ((encC c).map .d))) := by
 have hs : srcCells Try.prog H 7 35 (.d (.sl (encC c) c.length fl nl)) = some (encC c, c.length, []) := by simp [srcCells, srcRaw, encC_len]
 have i10 := encC_len c
 have i11 : ¬ 68719476736 < c.length * 7 := by omega
 by_cases hr : c = []
 ·subst hr
  have e : upd H o (.grow []) = H := by
   funext p; simp only [upd]; split
   ·rename_i e; rw [e, h]
   ·rfl
  simp [encC] at hs
  simp [appendO, hs, h, encC, e, kill_none]
 ·have i12 : ¬ c.length = 0 := fun e => hr (List.length_eq_zero_iff.1 e)
  have i13 : ¬ encC c = [] := fun e => by rw [e] at i10; simp at i10; omega
  simp [appendO, growO, hs, h, i10, i11, i12, i13, hr, kill_none]
theorem app_one {H : Hp} {id : Nat} {o : Oid} {c : List Lt} {l : Lt} {fl : Bool} {nl : Option Bool} (h : H o = some (.grow ((encC c).map .d))) (hn : c.length ≤ 1048576) :
  appendO Try.prog H id 35 35 (.osl o 0 c.length 7 (c.length * 7)) (.d (.sl l.enc 1 fl nl)) = some (.osl o 0 (c.length + 1) 7 ((c.length + 1) * 7), upd H o (.grow ((encC (c ++ [l])).map .d))) := by
 have hl := l.enc_len
 have hs : srcCells Try.prog H 7 35 (.d (.sl l.enc 1 fl nl)) = some (l.enc, 1, []) := by simp [srcCells, srcRaw, hl]
 have i10 := encC_len c
 have i11 : c.length * 7 ≤ 68719476736 := by omega
 have i12 : ¬ c.length * 7 + 7 ≤ c.length * 7 := by omega
 have i13 : List.take (c.length * 7) ((encC c).map AV.d) = (encC c).map .d := List.take_of_length_le (by simp [i10])
 have i14 : c.length * 7 + 7 = (c.length + 1) * 7 := by omega
 have i15 : ¬ (c.length + 1) * 7 ≤ c.length * 7 := by omega
 have e1 : encC (c ++ [l]) = encC c ++ l.enc := by rw [encC_append]; simp [encC]
 simp [appendO, growO, hs, h, hl, i10, i11, i12, i13, i14, i15, e1, kill_none]
abbrev moT (c : List Lt) (c2 : Bool) (n : Nat) (b : Bool) (i : Nat) : List AV := [.junk, .d (.sl (encC c) c.length false (some c2)), .junk, .junk, .junk, .junk, .d (.bool false), .osl (3, 0) 0 (n + 1) 7 ((n + 1) * 7), .ptr (27, 0) 0 3, .d (.bool b), .d (.int .i64 i), .junk, .junk, .junk, .junk, .junk, .junk, .junk, .junk, .junk, .junk, .junk, .junk, .junk, .junk, .junk, .junk, .junk, .junk, .junk, .junk, .junk, .junk, .junk, .junk, .junk, .junk, .junk, .junk, .junk, .junk, .junk, .junk, .junk, .junk, .junk, .junk, .junk, .junk, .junk, .junk, .junk, .junk, .junk, .junk, .junk, .junk, .junk, .junk]
def anyF (f : Nat → Bool) (n : Nat) : Nat → Bool → Bool
 | 0, b => b
 | k + 1, b => anyF f n k (b || f (n - (k + 1)))
theorem anyF_true (f : Nat → Bool) (n : Nat) : ∀ k, anyF f n k true = true
 | 0 => rfl
 | k + 1 => by simp only [anyF, Bool.true_or]; exact anyF_true f n k
theorem anyF_some (f : Nat → Bool) (n i : Nat) (h : f i = true) : ∀ k b, n - k ≤ i → i < n → k ≤ n → anyF f n k b = true
 | 0, b, h1, h2, _ => by omega
 | k + 1, b, h1, h2, h3 => by
  simp only [anyF]
  by_cases e : i = n - (k + 1)
  ·rw [← e, h, Bool.or_true]; exact anyF_true f n k
  ·exact anyF_some f n i h k _ (by omega) h2 (by omega)
theorem more_loop (o : Od) (hg : o.g.ok) (c : List Lt) (c2 : Bool) {dd : List Lt} {n : Nat} (hdl : dd.length = n + 1) (hc : okC dd) (hn : dd.length ≤ 1048576) (hz : ∀ x ∈ dd, x.sm) {H : Hp} (hH : below 31 H = H) (h3 : H (3, 0) = some (.grow ((encC dd).map .d))) (h27 : H (27, 0) = some (.cells (o.enc.map .d))) :
  ∃ e t, aloop Try.prog plc b6_0 ⟨[false, true, false, false, false, false, true, true, true, true, true, false, false, false, false, false, false, false, false, false, false, false, false, false, false, false, false, false, false, false, false, false, false, false, false, false, false, false, false, false, false, false, false, false, false, false, false, false, true, true, true, true, true, true, true, true, true, true, true], some 31⟩ ⟨moT c c2 n false 0, H, 31⟩ = some (e, t) ∧ AtExit 0 (moT c c2 n (anyF (fun i => maxB o.g.right o.cmp dd i) dd.length dd.length false) dd.length) H e t := by
 have e1 : (encC dd).length = (n + 1) * 7 := by rw [encC_len, hdl]
 have e2 : List.take ((n + 1) * 7) ((encC dd).map AV.d) = (encC dd).map .d := List.take_of_length_le (by simp [e1])
 have e3 : ¬ encC dd = [] := fun e => by rw [e] at e1; simp at e1
 have h := loop_rule (P := Try.prog) (pol := plc) (c := b6_0) (m := ⟨[false, true, false, false, false, false, true, true, true, true, true, false, false, false, false, false, false, false, false, false, false, false, false, false, false, false, false, false, false, false, false, false, false, false, false, false, false, false, false, false, false, false, false, false, false, false, false, false, true, true, true, true, true, true, true, true, true, true, true], some 31⟩)
  (b := 31) (tm := fun (s : Bool × Nat) => moT c c2 n s.1 s.2) (Hf := fun _ => H)
  (I := fun s => s.2 ≤ dd.length) (μ := fun s => dd.length - s.2) (res := fun s => anyF (fun i => maxB o.g.right o.cmp dd i) dd.length (dd.length - s.2) s.1) (R := fun r => AtExit 0 (moT c c2 n r dd.length) H)
  (fun s nx1 hk => by
   obtain ⟨b, k⟩ := s
   simp only at hk
   rcases Nat.lt_or_ge k dd.length with hl | hl
   ·have c1 := mMax_ok o hg hc hn hz k
    have hil : (k : Int) < (n : Int) + 1 := by omega
    have hiw : IntKind.i64.wrap ((k : Int) + 1) = (k : Int) + 1 := wrap_i64 (by omega) (by omega)
    have hr : anyF (fun i => maxB o.g.right o.cmp dd i) dd.length (dd.length - k) b = anyF (fun i => maxB o.g.right o.cmp dd i) dd.length (dd.length - (k + 1)) (b || maxB o.g.right o.cmp dd k) := by
     obtain ⟨j, hj⟩ : ∃ j, dd.length - k = j + 1 := ⟨dd.length - k - 1, by omega⟩
     rw [hj, show dd.length - (k + 1) = j by omega]
     simp only [anyF]
     rw [show dd.length - (j + 1) = k by omega]
    generalize hq : maxB o.g.right o.cmp dd k = z at c1 hr
    obtain ⟨p, g⟩ := o
    rw [hdl] at c1
    simp only [Od.enc, Sg.enc] at c1 h27
    simp only [List.map_cons, List.map_nil] at h27
    conv => arg 9; arg 4; unfold b6_0
    cases b with
    | true =>
     simp [hil, hiw, hH]
     exact .next (true, k + 1) (by omega) (by simp) rfl hl (by simp only; omega) (by simp only [hr, Bool.true_or])
    | false =>
     simp [hil, hiw, hH, h3, h27, e1, e2, e3, mapD_encT, plc_raw, c1]
     exact .next (z, k + 1) (by omega) (by simp) rfl hl (by simp only; omega) (by simp only [hr, Bool.false_or])
   ·obtain rfl : k = dd.length := Nat.le_antisymm hk hl
    have hil : ¬ (dd.length : Int) < (n : Int) + 1 := by omega
    simp [b6_0, hH, hil]
    exact .fin _ _ (by simp [anyF]; exact .mk)) (false, 0) (Nat.zero_le _)
 simpa using h
theorem multiMore_ok (o : Od) (hg : o.g.ok) (c : List Lt × Bool) (hc : okC c.1 ∧ (c.2 = true → c.1 = [])) (nc : c.1.length ≤ 1048576) (zc : ∀ x ∈ c.1, x.l.size ≤ 1048576 ∧ x.r.size ≤ 1048576) (l : Lt) (hl : l.ok) (zl : l.l.size ≤ 1048576 ∧ l.r.size ≤ 1048576) :
  pcl Cp 6 [.agg o.enc, .sl (encC c.1) c.1.length false (some c.2), .agg l.enc] = some (.bool true) := by
 obtain ⟨c, c2⟩ := c
 obtain ⟨hc, hc2⟩ := hc
 simp only at hc hc2 nc zc ⊢
 have hok : okC (c ++ [l]) := ⟨by simp; omega, fun x hx => (List.mem_append.1 hx).elim (fun h => hc.2 x h) fun h => by rw [show x = l by simpa using h]; exact hl⟩
 have hzz : ∀ x ∈ c ++ [l], x.l.size ≤ 1048576 ∧ x.r.size ≤ 1048576 := fun x hx => (List.mem_append.1 hx).elim (fun h => zc x h) fun h => by rw [show x = l by simpa using h]; exact zl
 have hL := light_ok (xs := [(c ++ [l], none)]) (by simp) (fun x hx => by simp at hx; subst hx; exact hok)
 have hR := rright6_ok hok false none
 have hG := grright_ok o.g hg
 have h6 := own9_ok o
 have h7 := alive09_ok
 have hdl : (c ++ [l]).length = c.length + 1 := by simp
 have hlb : lightB [(c ++ [l], none)] = true → (c ++ [l]).length ≤ 10 := fun h => by simp [lightB] at h; simp; omega
 have hmore : o.g.right = true → clE (c ++ [l]) = 0 → clausesF o.g.right o.cmp (c ++ [l]) c = 1 := fun h1 h2 => clausesF_more c l h1 h2 (clE_less h2 hzz)
 have hcls := fun (h10 : (c ++ [l]).length ≤ 10) => mCls_ok o hg hok hc (by omega) nc hzz zc false c2 (fun h => by cases h) hc2
 have hsome : o.g.right = true → clE (c ++ [l]) = 0 → anyF (fun i => maxB o.g.right o.cmp (c ++ [l]) i) (c ++ [l]).length (c ++ [l]).length false = true := fun h1 h2 => by
  obtain ⟨i, x, hi, hm⟩ := maximal_some (gr := o.g.right) (tc := o.cmp) o.strict (c ++ [l]) (by simp)
  obtain ⟨hil, _⟩ := List.getElem?_eq_some_iff.1 hi
  refine anyF_some _ _ i ?_ _ _ (by omega) hil (Nat.le_refl _)
  unfold maxB
  have e : (c ++ [l])[(i : Int).toNat]? = some x := by simpa using hi
  rw [e, h1, h2]
  simp only [Bool.true_and, Bool.and_eq_true, decide_eq_true_eq, decide_true]
  exact ⟨by omega, by omega, freeF_all _ _ _ _ fun y hy => by have := hm y hy; rw [h1] at this; simpa using this⟩
 have hloop := fun (h10 : (c ++ [l]).length ≤ 10) H h1 h2 h3 => more_loop o hg c c2 (dd := c ++ [l]) (n := c.length) hdl hok (by omega) hzz (H := H) h1 h2 h3
 obtain ⟨H1, hH1⟩ : ∃ H1 : Hp, H1 = upd (upd (upd (fun _ => none) (0, 0) (.cells (o.enc.map .d))) (1, 0) (.cells (l.enc.map .d))) (3, 0) (.grow []) := ⟨_, rfl⟩
 have g3 : H1 (3, 0) = some (.grow []) := by rw [hH1]; simp
 have g1 : H1 (1, 0) = some (.cells (l.enc.map .d)) := by rw [hH1]; simp
 have g0 : H1 (0, 0) = some (.cells (o.enc.map .d)) := by rw [hH1]; simp
 have b1 : below 31 H1 = H1 := by rw [hH1]; simp
 have a1 := app_all (id := 5) (c := c) (fl := false) (nl := some c2) g3 nc
 have a2 := fun id fl nl => app_one (H := upd H1 (3, 0) (.grow ((encC c).map .d))) (id := id) (o := (3, 0)) (c := c) (l := l) (fl := fl) (nl := nl) (upd_same _ _ _) nc
 generalize hD : c ++ [l] = dd at *
 have e1 : (encC dd).length = (c.length + 1) * 7 := by rw [encC_len, hdl]
 have e2 : List.take ((c.length + 1) * 7) ((encC dd).map AV.d) = (encC dd).map .d := List.take_of_length_le (by simp [e1])
 have e3 : ¬ encC dd = [] := fun e => by rw [e] at e1; simp at e1
 obtain ⟨H2, hH2⟩ : ∃ H2 : Hp, H2 = upd H1 (3, 0) (.grow ((encC dd).map .d)) := ⟨_, rfl⟩
 have g23 : H2 (3, 0) = some (.grow ((encC dd).map .d)) := by rw [hH2]; exact upd_same _ _ _
 have g20 : H2 (0, 0) = some (.cells (o.enc.map .d)) := by rw [hH2, une (by decide)]; exact g0
 have b2 : below 31 H2 = H2 := by rw [hH2, below_upd_lt (by decide), b1]
 obtain ⟨H3, hH3⟩ : ∃ H3 : Hp, H3 = upd (upd (upd (upd H2 (11, 0) (.cells [.osl (3, 0) 0 (c.length + 1) 7 ((c.length + 1) * 7)])) (27, 2) .vnil) (27, 3) .vnil) (27, 0) (.cells (o.enc.map .d)) := ⟨_, rfl⟩
 have b3 : below 31 H3 = H3 := by rw [hH3]; simp [b2]
 have g33 : H3 (3, 0) = some (.grow ((encC dd).map .d)) := by rw [hH3]; rw [une (by decide), une (by decide), une (by decide), une (by decide)]; exact g23
 have g327 : H3 (27, 0) = some (.cells (o.enc.map .d)) := by rw [hH3]; exact upd_same _ _ _
 have hl3 := fun h10 => hloop h10 H3 b3 g33 g327
 rw [hdl] at hR
 simp only [hdl] at hcls
 refine pcl_body code6 ?_
 generalize hr0 : lightB [(dd, none)] = r at *
 generalize clE dd = z at *
 generalize hms : anyF (fun i => maxB o.g.right o.cmp dd i) dd.length dd.length false = ms at *
 generalize clausesF o.g.right o.cmp dd c = cl at *
 clear hms hloop
 obtain ⟨p, g⟩ := o
 obtain ⟨n, ⟨v, fn, args⟩, ⟨v2, fn2, args2⟩⟩ := l
 simp only at hG hmore hsome
 generalize g.right = gr at *
 simp [hdl, cellC, Lt.enc, Term.enc, Od.enc, Sg.enc] at a1 a2 hH1 g0 g1 h6 hL hR hG g20 hcls hH3 g327
 cases r
 ·simp [Lt.enc, Term.enc, Od.enc, Sg.enc, plc_raw, ← hH1, a1, g1, a2, ← hH2, g23, g20, e1, e2, e3, mapD_encT, hL, h7]
 by_cases hz0 : z = 0
 ·cases gr
  ·simp [Lt.enc, Term.enc, Od.enc, Sg.enc, plc_raw, ← hH1, a1, g1, a2, ← hH2, g23, g20, e1, e2, e3, mapD_encT, hL, hR, hG, hz0, h7]
  ·have h10 := hlb rfl
   obtain ⟨e, t, hrun, rfl, N, rfl⟩ := hl3 h10
   have hc1 := hmore rfl hz0
   have hs1 := hsome rfl hz0
   subst hc1 hs1
   have hcl1 := hcls (by omega)
   simp [hdl, moT, Od.enc, Sg.enc] at hrun hcl1
   simp [Lt.enc, Term.enc, Od.enc, Sg.enc, plc_raw, ← hH1, a1, g1, a2, ← hH2, g23, g20, e1, e2, e3, mapD_encT, hL, hR, hG, hz0, h6, ← hH3, hrun, g33, g327, hcl1, h7]
 ·simp [Lt.enc, Term.enc, Od.enc, Sg.enc, plc_raw, ← hH1, a1, g1, a2, ← hH2, g23, g20, e1, e2, e3, mapD_encT, hL, hR, hz0, h7]
end Go.Proofs.Ytajilkmepjhkdaa.Am

/-
 The law on orders that go through a third one: the function returns true. No condition.
-/
namespace Go.Proofs.Ytajilkmepjhkdaa.Am
open Go Go.Proofs
set_option maxHeartbeats 8000000
set_option maxRecDepth 20000
set_option linter.unusedSimpArgs false
set_option linter.unusedVariables false
theorem wrapm1 : IntKind.i64.wrap (-1) = -1 := by decide
theorem wrapp1 : IntKind.i64.wrap 1 = 1 := by decide
theorem wrapz : IntKind.i64.wrap 0 = 0 := by decide
theorem ways {x y z w : Int} (ho : x = 0 ∨ x = 1 ∨ x = -1 ∨ x = 2) (hs : w = if x = 2 then 2 else -x) (ht : x = 1 → y = 1 → z = 1) :
  (x = 0 ∧ w = 0) ∨ (x = -1 ∧ w = 1) ∨ (x = 2 ∧ w = 2) ∨ (x = 1 ∧ w = -1 ∧ y = 1 ∧ z = 1) ∨ (x = 1 ∧ w = -1 ∧ y ≠ 1) := by
 rcases ho with rfl | rfl | rfl | rfl
 ·exact .inl ⟨rfl, by rw [hs]; rfl⟩
 ·by_cases hy : y = 1
  ·exact .inr (.inr (.inr (.inl ⟨rfl, by rw [hs]; rfl, hy, ht rfl hy⟩)))
  ·exact .inr (.inr (.inr (.inr ⟨rfl, by rw [hs]; rfl, hy⟩)))
 ·exact .inr (.inl ⟨rfl, by rw [hs]; rfl⟩)
 ·exact .inr (.inr (.inl ⟨rfl, by rw [hs]; rfl⟩))
theorem through_tail (os : List D) (hos : wkL os = os) {a b c : List Lt} {a2 b2 c2 : Option Bool}
  (hl : ∀ x y z : Lt, x ∈ a → y ∈ b → z ∈ c → ∃ p q r s : Int, pcl Cp 12 [.agg os, .agg x.enc, .agg y.enc] = some (.int .i64 p) ∧ pcl Cp 12 [.agg os, .agg y.enc, .agg z.enc] = some (.int .i64 q) ∧ pcl Cp 12 [.agg os, .agg x.enc, .agg z.enc] = some (.int .i64 r) ∧ pcl Cp 12 [.agg os, .agg y.enc, .agg x.enc] = some (.int .i64 s) ∧
   ((p = 0 ∧ s = 0) ∨ (p = -1 ∧ s = 1) ∨ (p = 2 ∧ s = 2) ∨ (p = 1 ∧ s = -1 ∧ q = 1 ∧ r = 1) ∨ (p = 1 ∧ s = -1 ∧ q ≠ 1)))
  {H : Hp} {nx : Nat} (h10 : H (10, 0) = some (.cells (os.map .d))) (hol : os.length = 3) (y0 y4 y5 y6 y7 y10 y11 y12 y13 y14 y15 y16 y17 y18 y19 y20 y21 y22 y23 y24 y25 y26 y27 y28 y29 y30 y31 y32 y33 y34 y35 y36 y37 y38 y39 y40 y41 y42 y43 y44 y45 y46 y47 y48 y49 y50 y51 y52 y53 y54 y55 y56 y57 y58 y59 y60 y61 y62 y63 y64 y65 y66 : AV) :
  datK (finK Try.prog [.tmp 8] (exec Try.prog plc (acall Try.prog plc) (aloop Try.prog plc) sb5_0 ⟨[y0, .d (.sl (encC a) a.length false a2), .d (.sl (encC b) b.length false b2), .d (.sl (encC c) c.length false c2), y4, y5, y6, y7, .d (.bool false), .ptr (10, 0) 0 3, y10, y11, y12, y13, y14, y15, y16, y17, y18, y19, y20, y21, y22, y23, y24, y25, y26, y27, y28, y29, y30, y31, y32, y33, y34, y35, y36, y37, y38, y39, y40, y41, y42, y43, y44, y45, y46, y47, y48, y49, y50, y51, y52, y53, y54, y55, y56, y57, y58, y59, y60, y61, y62, y63, y64, y65, y66, .junk, .junk, .junk, .junk, .junk, .junk, .junk, .junk, .junk, .junk, .junk, .junk, .junk, .junk, .junk, .junk, .junk, .junk, .junk, .junk, .junk, .junk, .junk, .junk, .junk, .junk, .junk, .junk, .junk, .junk, .junk, .junk, .junk, .junk, .junk, .junk, .junk, .junk, .junk, .junk, .junk, .junk, .junk, .junk, .junk, .junk, .junk, .junk, .junk, .junk, .junk, .junk, .junk, .junk, .junk, .junk, .junk, .junk, .junk, .junk, .junk, .junk, .junk, .junk, .junk, .junk, .junk, .junk, .junk, .junk, .junk, .junk, .junk, .junk, .junk, .junk, .junk], H, nx⟩)) = some (.bool true) := by
 have h7 := alive09_ok
 obtain ⟨o1, o2, o3, rfl⟩ : ∃ o1 o2 o3, os = [o1, o2, o3] := by
  match os, hol with
  | [o1, o2, o3], _ => exact ⟨o1, o2, o3, rfl⟩
 simp only [List.map_cons, List.map_nil] at h10
 have hne : ∀ n : Nat, ¬ ((n : Int) + 1 = 0) := fun n => by omega
 have w3 : wk o1 = o1 ∧ wk o2 = o2 ∧ wk o3 = o3 := by simpa using hos
 unfold sb5_0
 cases a with
 | nil => simp [encC, plc_raw, h7]
 | cons la ra =>
  cases b with
  | nil => simp [encC, plc_raw, h7, hne]
  | cons lb rb =>
   cases c with
   | nil => simp [encC, plc_raw, h7, hne]
   | cons lc rc =>
    obtain ⟨p1, q1, r1, s1, c1, c2, c3, c4, w2⟩ := hl la lb lc (by simp) (by simp) (by simp)
    clear hl
    obtain ⟨n, ⟨v, fn, args⟩, ⟨v2, fn2, args2⟩⟩ := la
    obtain ⟨n3, ⟨v3, fn3, args3⟩, ⟨v4, fn4, args4⟩⟩ := lb
    obtain ⟨n5, ⟨v5, fn5, args5⟩, ⟨v6, fn6, args6⟩⟩ := lc
    simp [encC, Lt.enc, Term.enc] at c1 c2 c3 c4
    rcases w2 with ⟨rfl, rfl⟩ | ⟨rfl, rfl⟩ | ⟨rfl, rfl⟩ | ⟨rfl, rfl, rfl, rfl⟩ | ⟨rfl, rfl, hz⟩
    ·simp (maxSteps := 1000000) [encC, Lt.enc, Term.enc, plc_raw, h7, wrapm1, wrapp1, wrapz, h10, hne, w3, c1, c2, c3, c4]
    ·simp (maxSteps := 1000000) [encC, Lt.enc, Term.enc, plc_raw, h7, wrapm1, wrapp1, wrapz, h10, hne, w3, c1, c2, c3, c4]
    ·simp (maxSteps := 1000000) [encC, Lt.enc, Term.enc, plc_raw, h7, wrapm1, wrapp1, wrapz, h10, hne, w3, c1, c2, c3, c4]
    ·simp (maxSteps := 1000000) [encC, Lt.enc, Term.enc, plc_raw, h7, wrapm1, wrapp1, wrapz, h10, hne, w3, c1, c2, c3, c4]
    ·simp (maxSteps := 1000000) [encC, Lt.enc, Term.enc, plc_raw, h7, wrapm1, wrapp1, wrapz, h10, hne, w3, c1, c2, c3, c4, hz]
theorem multiThrough_ok (o : Od) (hg : o.g.ok) (a : List Lt × Bool) (ha : okC a.1 ∧ (a.2 = true → a.1 = [])) (na : a.1.length ≤ 1048576) (za : ∀ x ∈ a.1, x.l.size ≤ 1048576 ∧ x.r.size ≤ 1048576)
  (b : List Lt × Bool) (hb : okC b.1 ∧ (b.2 = true → b.1 = [])) (nb : b.1.length ≤ 1048576) (zb : ∀ x ∈ b.1, x.l.size ≤ 1048576 ∧ x.r.size ≤ 1048576)
  (c : List Lt × Bool) (hc : okC c.1 ∧ (c.2 = true → c.1 = [])) (nc : c.1.length ≤ 1048576) (zc : ∀ x ∈ c.1, x.l.size ≤ 1048576 ∧ x.r.size ≤ 1048576) :
  pcl Cp 5 [.agg o.enc, .sl (encC a.1) a.1.length false (some a.2), .sl (encC b.1) b.1.length false (some b.2), .sl (encC c.1) c.1.length false (some c.2)] = some (.bool true) := by
 have h1 := light_ok (xs := [(a.1, none), (b.1, none), (c.1, none)]) (by simp) (fun x hx => by simp at hx; rcases hx with rfl | rfl | rfl; exact ha.1; exact hb.1; exact hc.1)
 have k1 := mCls_ok o hg ha.1 hb.1 na nb za zb a.2 b.2 ha.2 hb.2
 have k2 := mCls_ok o hg hb.1 hc.1 nb nc zb zc b.2 c.2 hb.2 hc.2
 have k3 := mCls_ok o hg ha.1 hc.1 na nc za zc a.2 c.2 ha.2 hc.2
 have k4 := mCls_ok o hg hb.1 ha.1 nb na zb za b.2 a.2 hb.2 ha.2
 have h6 := own9_ok o
 have h7 := alive09_ok
 have w1 := ways (clausesF_or (gr := o.g.right) (tc := o.cmp) a.1 b.1) (clausesF_swap (gr := o.g.right) (tc := o.cmp) o.strict a.1 b.1) (y := clausesF o.g.right o.cmp b.1 c.1) (z := clausesF o.g.right o.cmp a.1 c.1) (fun e1 e2 => clausesF_tr o.strict e1 e2)
 have hl : ∀ x y z : Lt, x ∈ a.1 → y ∈ b.1 → z ∈ c.1 → ∃ p q r s : Int, pcl Cp 12 [.agg o.enc, .agg x.enc, .agg y.enc] = some (.int .i64 p) ∧ pcl Cp 12 [.agg o.enc, .agg y.enc, .agg z.enc] = some (.int .i64 q) ∧ pcl Cp 12 [.agg o.enc, .agg x.enc, .agg z.enc] = some (.int .i64 r) ∧ pcl Cp 12 [.agg o.enc, .agg y.enc, .agg x.enc] = some (.int .i64 s) ∧
   ((p = 0 ∧ s = 0) ∨ (p = -1 ∧ s = 1) ∨ (p = 2 ∧ s = 2) ∨ (p = 1 ∧ s = -1 ∧ q = 1 ∧ r = 1) ∨ (p = 1 ∧ s = -1 ∧ q ≠ 1)) := fun x y z hx hy hz =>
  ⟨_, _, _, _, mLits_ok o hg (ha.1.2 x hx) (hb.1.2 y hy) (za x hx) (zb y hy), mLits_ok o hg (hb.1.2 y hy) (hc.1.2 z hz) (zb y hy) (zc z hz), mLits_ok o hg (ha.1.2 x hx) (hc.1.2 z hz) (za x hx) (zc z hz), mLits_ok o hg (hb.1.2 y hy) (ha.1.2 x hx) (zb y hy) (za x hx),
   ways (litsF_or (gr := o.g.right) (tc := o.cmp) x y) (litsF_swap o.strict x y) (fun e1 e2 => litsF_tr o.strict e1 e2)⟩
 refine pcl_body code5 ?_
 generalize lightB _ = r at h1
 generalize clausesF o.g.right o.cmp a.1 b.1 = x at k1 w1
 generalize clausesF o.g.right o.cmp b.1 c.1 = y at k2 w1
 generalize clausesF o.g.right o.cmp a.1 c.1 = z at k3 w1
 generalize clausesF o.g.right o.cmp b.1 a.1 = w at k4 w1
 obtain ⟨p, g⟩ := o
 obtain ⟨a, a2⟩ := a
 obtain ⟨b, b2⟩ := b
 obtain ⟨c, c2⟩ := c
 simp only at h1 k1 k2 k3 k4 hl ⊢
 have hos := wkL_encO ⟨p, g⟩
 simp only [Od.enc, Sg.enc] at hl hos
 simp [cellC, Od.enc, Sg.enc] at h1 k1 k2 k3 k4 h6
 cases r
 ·simp [Od.enc, Sg.enc, plc_raw, h1, h7]
 rcases w1 with ⟨rfl, rfl⟩ | ⟨rfl, rfl⟩ | ⟨rfl, rfl⟩ | ⟨rfl, rfl, rfl, rfl⟩ | ⟨rfl, rfl, hy⟩
 ·simp [Od.enc, Sg.enc, plc_raw, h1, h6, h7, k1, k2, k3, k4, wrapm1, wrapp1, wrapz]
  exact through_tail _ hos hl (by simp) rfl ..
 ·simp [Od.enc, Sg.enc, plc_raw, h1, h6, h7, k1, k2, k3, k4, wrapm1, wrapp1, wrapz]
  exact through_tail _ hos hl (by simp) rfl ..
 ·simp [Od.enc, Sg.enc, plc_raw, h1, h6, h7, k1, k2, k3, k4, wrapm1, wrapp1, wrapz]
  exact through_tail _ hos hl (by simp) rfl ..
 ·simp [Od.enc, Sg.enc, plc_raw, h1, h6, h7, k1, k2, k3, k4, wrapm1, wrapp1, wrapz]
  exact through_tail _ hos hl (by simp) rfl ..
 ·simp [Od.enc, Sg.enc, plc_raw, h1, h6, h7, k1, k2, k3, k4, wrapm1, wrapp1, wrapz, hy]
  exact through_tail _ hos hl (by simp) rfl ..
end Go.Proofs.Ytajilkmepjhkdaa.Am


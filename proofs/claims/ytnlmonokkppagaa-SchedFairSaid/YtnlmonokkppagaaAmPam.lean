/-
  Joined texts: AmTq. No condition.
-/
import Derived.Test.YtnlmonokkppagaaAmPal
/-
  The scheduler: SchedFair returns true. No condition.
-/
namespace Go.Proofs.Ytnlmonokkppagaa.Am
open Go Go.Proofs
set_option maxHeartbeats 4000000
set_option maxRecDepth 20000
set_option linter.unusedSimpArgs false
set_option linter.unusedVariables false
abbrev fr0T (w n a : Nat) (oS : Oid) (i : Nat) : List AV := [.d (.int .i64 w), .d (.int .i64 n), .d (.int .i64 a), .junk, .junk, .junk, .d (.bool false), .ptr oS 0 3, .junk, .d (.int .i64 i), .junk, .junk, .junk, .junk, .junk, .junk, .junk, .junk, .junk, .junk, .junk, .junk, .junk, .junk, .junk, .junk, .junk, .junk, .junk, .junk, .junk, .junk, .junk, .junk, .junk, .junk, .junk, .junk, .junk, .junk, .junk, .junk, .junk, .junk, .junk, .junk, .junk, .junk, .junk, .junk, .junk, .junk, .junk, .junk, .junk, .junk, .junk, .junk, .junk, .junk, .junk, .junk, .junk, .junk, .junk, .junk, .junk, .junk, .junk, .junk, .junk, .junk, .junk, .junk, .junk, .junk, .junk, .junk, .junk, .junk, .junk, .junk, .junk, .junk, .junk, .junk, .junk, .junk, .junk, .junk, .junk, .junk, .junk, .junk, .junk, .junk, .junk, .junk, .junk, .junk, .junk, .junk, .junk, .junk, .junk, .junk, .junk, .junk, .junk, .junk, .junk, .junk, .junk, .junk, .junk, .junk, .junk, .junk, .junk, .junk, .junk, .junk, .junk, .junk, .junk, .junk, .junk, .junk, .junk, .junk, .junk, .junk, .junk, .junk, .junk, .junk, .junk, .junk, .junk, .junk, .junk, .junk, .junk, .junk, .junk, .junk, .junk, .junk, .junk, .junk, .junk, .junk, .junk, .junk, .junk]
abbrev fr1T (w n a : Nat) (oS : Oid) (i : Nat) : List AV := [.d (.int .i64 w), .d (.int .i64 n), .d (.int .i64 a), .junk, .junk, .junk, .d (.bool false), .ptr oS 0 3, .junk, .junk, .d (.int .i64 i), .junk, .junk, .junk, .junk, .junk, .junk, .junk, .junk, .junk, .junk, .junk, .junk, .junk, .junk, .junk, .junk, .junk, .junk, .junk, .junk, .junk, .junk, .junk, .junk, .junk, .junk, .junk, .junk, .junk, .junk, .junk, .junk, .junk, .junk, .junk, .junk, .junk, .junk, .junk, .junk, .junk, .junk, .junk, .junk, .junk, .junk, .junk, .junk, .junk, .junk, .junk, .junk, .junk, .junk, .junk, .junk, .junk, .junk, .junk, .junk, .junk, .junk, .junk, .junk, .junk, .junk, .junk, .junk, .junk, .junk, .junk, .junk, .junk, .junk, .junk, .junk, .junk, .junk, .junk, .junk, .junk, .junk, .junk, .junk, .junk, .junk, .junk, .junk, .junk, .junk, .junk, .junk, .junk, .junk, .junk, .junk, .junk, .junk, .junk, .junk, .junk, .junk, .junk, .junk, .junk, .junk, .junk, .junk, .junk, .junk, .junk, .junk, .junk, .junk, .junk, .junk, .junk, .junk, .junk, .junk, .junk, .junk, .junk, .junk, .junk, .junk, .junk, .junk, .junk, .junk, .junk, .junk, .junk, .junk, .junk, .junk, .junk, .junk, .junk, .junk, .junk, .junk, .junk, .junk]
abbrev fr2T (w n : Nat) (oS o : Oid) (i : Nat) : List AV := [.d (.int .i64 w), .d (.int .i64 n), .junk, .junk, .junk, .junk, .d (.bool false), .ptr oS 0 3, .junk, .junk, .junk, .osl o 0 (n * w) 1 (n * w), .d (.int .i64 i), .junk, .junk, .junk, .junk, .junk, .junk, .junk, .junk, .junk, .junk, .junk, .junk, .junk, .junk, .junk, .junk, .junk, .junk, .junk, .junk, .junk, .junk, .junk, .junk, .junk, .junk, .junk, .junk, .junk, .junk, .junk, .junk, .junk, .junk, .junk, .junk, .junk, .junk, .junk, .junk, .junk, .junk, .junk, .junk, .junk, .junk, .junk, .junk, .junk, .junk, .junk, .junk, .junk, .junk, .junk, .junk, .junk, .junk, .junk, .junk, .junk, .junk, .junk, .junk, .junk, .junk, .junk, .junk, .junk, .junk, .junk, .junk, .junk, .junk, .junk, .junk, .junk, .junk, .junk, .junk, .junk, .junk, .junk, .junk, .junk, .junk, .junk, .junk, .junk, .junk, .junk, .junk, .junk, .junk, .junk, .junk, .junk, .junk, .junk, .junk, .junk, .junk, .junk, .junk, .junk, .junk, .junk, .junk, .junk, .junk, .junk, .junk, .junk, .junk, .junk, .junk, .junk, .junk, .junk, .junk, .junk, .junk, .junk, .junk, .junk, .junk, .junk, .junk, .junk, .junk, .junk, .junk, .junk, .junk, .junk, .junk, .junk, .junk, .junk, .junk, .junk, .junk]
abbrev fr3T (k : Nat) (o : Oid) (i : Nat) : List AV := [.junk, .junk, .junk, .junk, .junk, .junk, .d (.bool false), .junk, .junk, .junk, .junk, .osl o 0 k 1 k, .junk, .junk, .junk, .d (.int .i64 i), .junk, .junk, .junk, .junk, .junk, .junk, .junk, .junk, .junk, .junk, .junk, .junk, .junk, .junk, .junk, .junk, .junk, .junk, .junk, .junk, .junk, .junk, .junk, .junk, .junk, .junk, .junk, .junk, .junk, .junk, .junk, .junk, .junk, .junk, .junk, .junk, .junk, .junk, .junk, .junk, .junk, .junk, .junk, .junk, .junk, .junk, .junk, .junk, .junk, .junk, .junk, .junk, .junk, .junk, .junk, .junk, .junk, .junk, .junk, .junk, .junk, .junk, .junk, .junk, .junk, .junk, .junk, .junk, .junk, .junk, .junk, .junk, .junk, .junk, .junk, .junk, .junk, .junk, .junk, .junk, .junk, .junk, .junk, .junk, .junk, .junk, .junk, .junk, .junk, .junk, .junk, .junk, .junk, .junk, .junk, .junk, .junk, .junk, .junk, .junk, .junk, .junk, .junk, .junk, .junk, .junk, .junk, .junk, .junk, .junk, .junk, .junk, .junk, .junk, .junk, .junk, .junk, .junk, .junk, .junk, .junk, .junk, .junk, .junk, .junk, .junk, .junk, .junk, .junk, .junk, .junk, .junk, .junk, .junk, .junk, .junk, .junk, .junk, .junk]
def FrEnd (oS oL : Oid) (j : Nat) (tm : List AV) (S : Sc) (e : Ex) (st : St) : Prop := ∃ vs os, e = .exit j ∧ st.tm = tm ∧ SchH st.hp st.nx oS oL vs os S
theorem fair0 (w n a : Nat) (hn : n ≤ 20) {H : Hp} {N : Nat} {oS oL : Oid} {vs : List AV} {os : List (Option Oid)} (h0 : SchH H N oS oL vs os (fillS w 0)) :
    ∃ e st, aloop Try.prog plc b3_3 ⟨[true, true, true, false, false, false, true, true, false, true, true, true, true, true, true, true, false, false, false, false, false, false, false, false, false, false, false, false, false, false, false, false, false, false, false, false, false, false, false, false, false, false, false, false, false, false, false, false, false, false, false, false, false, false, false, false, false, false, false, true, true, true, true, true, true, false, true, true, true, true, true, true, true, true, true, true, true, true, true, true, true, true, true, true, true, true, true, true, true, true, true, true, true, true, true, true, true, true, true, true, true, true, true, true, true, true, true, true, true, true, true, true, true, true, true, true, true, true, true, true, true, true, true, true, true, true, true, true, true, true, true, true, true, true, true, true, true, true, true, true, true, true, true, true, true, true, true, true, true, true, true, true, true, true, true], none⟩ ⟨fr0T w n a oS 0, H, N⟩ = some (e, st) ∧ FrEnd oS oL 0 (fr0T w n a oS n) (fillS w n) e st := by
  have key := loop_ruleN (P := Try.prog) (pol := plc) (c := b3_3) (m := ⟨[true, true, true, false, false, false, true, true, false, true, true, true, true, true, true, true, false, false, false, false, false, false, false, false, false, false, false, false, false, false, false, false, false, false, false, false, false, false, false, false, false, false, false, false, false, false, false, false, false, false, false, false, false, false, false, false, false, false, false, true, true, true, true, true, true, false, true, true, true, true, true, true, true, true, true, true, true, true, true, true, true, true, true, true, true, true, true, true, true, true, true, true, true, true, true, true, true, true, true, true, true, true, true, true, true, true, true, true, true, true, true, true, true, true, true, true, true, true, true, true, true, true, true, true, true, true, true, true, true, true, true, true, true, true, true, true, true, true, true, true, true, true, true, true, true, true, true, true, true, true, true, true, true, true, true], none⟩)
    (N := fun s : TkS => s.N) (tm := fun s => fr0T w n a oS s.t) (Hf := fun s => s.H) (I := fun s => s.t ≤ n ∧ SchH s.H s.N oS oL s.vs s.os (fillS w s.t))
    (μ := fun s => n - s.t) (res := fun _ => ()) (R := fun _ => FrEnd oS oL 0 (fr0T w n a oS n) (fillS w n))
    (fun s hI => by
      obtain ⟨hi, hI⟩ := hI
      rcases Nat.lt_or_ge s.t n with hl | hl
      · obtain ⟨H1, n1, vs1, os1, hc, hd⟩ := add_ok hI (s.N + 7) (by omega) (by simp [fillS]) 1 s.t 0
        rw [fill_add w s.t (by omega)] at hc hd
        have hli : (s.t : Int) < n := by omega
        have hw : IntKind.i64.wrap ((s.t : Int) + 1) = (s.t : Int) + 1 := wrap_i64 (by omega) (by omega)
        conv => arg 9; arg 4; unfold b3_3
        simp [plc_raw, Nat.add_assoc, hli, hl, hw, hc]
        exact .next (TkS.mk (s.t + 1) H1 (n1 + 3) vs1 os1) (by simp) (by simp) rfl ⟨hl, hd.sch.mono (by simp only; omega)⟩ (by simp only; omega) rfl
      · have hte : s.t = n := Nat.le_antisymm hi hl
        simp [b3_3, hte]
        refine .fin _ _ ⟨s.vs, s.os, rfl, by simp, ?_⟩
        rw [hte] at hI
        exact hI.mono (by simp only; omega)) ⟨0, H, N, vs, os⟩ ⟨Nat.zero_le _, h0⟩
  simpa using key
theorem fair_tick_ok {H : Hp} {N : Nat} {oS oL : Oid} {vs : List AV} {os : List (Option Oid)} {w n k : Nat} (h : SchH H N oS oL vs os (fairS w n k)) (hw : 1 ≤ w) (hn : 1 ≤ n) (hk : k ≤ 1000) (nx : Nat) (hN : N ≤ nx) :
    ∃ H' nx' vs' os' o1 o2, acall Try.prog plc 9 [.ptr oS 0 3] H nx = some (.tup [.osl o1 0 1 3 3, .osl o2 0 0 1 0], H', nx') ∧ Did H nx oS oL os (fairS w n (k + 1)) H' nx' vs' os' ∧ H' o1 = some (.grow [.d (.int .i64 1), .d (.int .i64 (k % n : Nat)), .d (.int .i64 (k / n % w : Nat))]) ∧ o1.1 < nx' := by
  obtain ⟨H', nx', vs', os', o1, o2, hc, ht⟩ := tick_ok h nx hN (by simp [fairS]) (by simp [fairS]; omega) (by simp [fairS]; omega)
  have hd := ht.did
  have hr := ht.runs
  rw [fair_tick w n k hn (by omega)] at hd
  rw [fair_runs w n k hn] at hr
  rw [fair_runs w n k hn, fair_late, runA_one, runA_nil] at hc
  exact ⟨H', nx', vs', os', o1, o2, hc, hd, hr, ht.l1⟩
theorem fair1 (w n a : Nat) (hw1 : 1 ≤ w) (hn1 : 1 ≤ n) (ha : a ≤ 50) {H : Hp} {N : Nat} {oS oL : Oid} {vs : List AV} {os : List (Option Oid)} (h0 : SchH H N oS oL vs os (fairS w n 0)) :
    ∃ e st, aloop Try.prog plc b3_2 ⟨[true, true, true, false, false, false, true, true, false, false, true, true, true, true, true, true, false, false, false, false, false, false, false, false, false, false, false, false, false, false, false, false, false, false, false, false, false, false, false, false, false, false, false, false, false, false, false, false, false, false, false, false, false, false, false, false, false, false, false, false, false, false, false, false, false, false, true, true, true, true, true, true, true, true, true, true, true, true, true, true, true, true, true, true, true, true, true, true, true, true, true, true, true, true, true, true, true, true, true, true, true, true, true, true, true, true, true, true, true, true, true, true, true, true, true, true, true, true, true, true, true, true, true, true, true, true, true, true, true, true, true, true, true, true, true, true, true, true, true, true, true, true, true, true, true, true, true, true, true, true, true, true, true, true, true], none⟩ ⟨fr1T w n a oS 0, H, N⟩ = some (e, st) ∧ FrEnd oS oL 2 (fr1T w n a oS a) (fairS w n a) e st := by
  have key := loop_ruleN (P := Try.prog) (pol := plc) (c := b3_2) (m := ⟨[true, true, true, false, false, false, true, true, false, false, true, true, true, true, true, true, false, false, false, false, false, false, false, false, false, false, false, false, false, false, false, false, false, false, false, false, false, false, false, false, false, false, false, false, false, false, false, false, false, false, false, false, false, false, false, false, false, false, false, false, false, false, false, false, false, false, true, true, true, true, true, true, true, true, true, true, true, true, true, true, true, true, true, true, true, true, true, true, true, true, true, true, true, true, true, true, true, true, true, true, true, true, true, true, true, true, true, true, true, true, true, true, true, true, true, true, true, true, true, true, true, true, true, true, true, true, true, true, true, true, true, true, true, true, true, true, true, true, true, true, true, true, true, true, true, true, true, true, true, true, true, true, true, true, true], none⟩)
    (N := fun s : TkS => s.N) (tm := fun s => fr1T w n a oS s.t) (Hf := fun s => s.H) (I := fun s => s.t ≤ a ∧ SchH s.H s.N oS oL s.vs s.os (fairS w n s.t))
    (μ := fun s => a - s.t) (res := fun _ => ()) (R := fun _ => FrEnd oS oL 2 (fr1T w n a oS a) (fairS w n a))
    (fun s hI => by
      obtain ⟨hi, hI⟩ := hI
      rcases Nat.lt_or_ge s.t a with hl | hl
      · obtain ⟨H1, n1, vs1, os1, o1, o2, hc, hd, _, _⟩ := fair_tick_ok hI hw1 hn1 (by omega) (s.N + 5) (by omega)
        have hli : (s.t : Int) < a := by omega
        have hw : IntKind.i64.wrap ((s.t : Int) + 1) = (s.t : Int) + 1 := wrap_i64 (by omega) (by omega)
        conv => arg 9; arg 4; unfold b3_2
        simp [plc_raw, Nat.add_assoc, hli, hl, hw, hc]
        exact .next (TkS.mk (s.t + 1) H1 (n1 + 3) vs1 os1) (by simp) (by simp) rfl ⟨hl, hd.sch.mono (by simp only; omega)⟩ (by simp only; omega) rfl
      · have hte : s.t = a := Nat.le_antisymm hi hl
        simp [b3_2, hte]
        refine .fin _ _ ⟨s.vs, s.os, rfl, by simp, ?_⟩
        rw [hte] at hI
        exact hI.mono (by simp only; omega)) ⟨0, H, N, vs, os⟩ ⟨Nat.zero_le _, h0⟩
  simpa using key
def rowN (l : List Nat) : Am.Obj := .cells (l.map fun (x : Nat) => .d (.int .i64 (x : Int)))
def Fr2End (w n : Nat) (oS o : Oid) (l : List Nat) (e : Ex) (st : St) : Prop := e = .exit 4 ∧ st.tm = fr2T w n oS o (n * w) ∧ st.hp o = some (rowN l)
theorem fair2 (w n a : Nat) (hw1 : 1 ≤ w) (hn1 : 1 ≤ n) (hw2 : w ≤ 16) (hn2 : n ≤ 20) (ha : a ≤ 50) {H : Hp} {N : Nat} {oS oL o : Oid} {vs : List AV} {os : List (Option Oid)} (h0 : SchH H N oS oL vs os (fairS w n a)) (hf : ¬ Foot oS oL os o) (ho : o.1 < N) (hrow : H o = some (rowN (seenL w n a 0))) :
    ∃ e st, aloop Try.prog plc b3_1 ⟨[true, true, false, false, false, false, true, true, false, false, false, true, true, false, false, true, false, false, false, false, false, false, false, false, false, false, false, false, false, false, false, false, false, false, false, false, false, false, false, false, false, false, false, false, false, false, false, false, false, false, false, false, false, false, false, false, false, false, false, false, false, false, false, false, false, false, false, false, false, false, false, false, false, false, false, false, false, false, false, false, false, false, false, false, false, false, false, false, false, false, false, false, false, false, false, false, false, false, false, false, false, false, false, false, false, false, false, false, false, false, false, false, false, false, false, false, false, false, false, false, false, false, false, false, false, false, false, false, false, false, false, false, false, false, false, false, false, false, false, false, false, false, false, true, true, true, true, true, true, true, true, true, true, true, true], none⟩ ⟨fr2T w n oS o 0, H, N⟩ = some (e, st) ∧ Fr2End w n oS o (seenL w n a (n * w)) e st := by
  have hM : n * w ≤ 320 := Nat.mul_le_mul hn2 hw2
  have hmi : (n : Int) * (w : Int) = ((n * w : Nat) : Int) := rfl
  have key := loop_ruleN (P := Try.prog) (pol := plc) (c := b3_1) (m := ⟨[true, true, false, false, false, false, true, true, false, false, false, true, true, false, false, true, false, false, false, false, false, false, false, false, false, false, false, false, false, false, false, false, false, false, false, false, false, false, false, false, false, false, false, false, false, false, false, false, false, false, false, false, false, false, false, false, false, false, false, false, false, false, false, false, false, false, false, false, false, false, false, false, false, false, false, false, false, false, false, false, false, false, false, false, false, false, false, false, false, false, false, false, false, false, false, false, false, false, false, false, false, false, false, false, false, false, false, false, false, false, false, false, false, false, false, false, false, false, false, false, false, false, false, false, false, false, false, false, false, false, false, false, false, false, false, false, false, false, false, false, false, false, false, true, true, true, true, true, true, true, true, true, true, true, true], none⟩)
    (N := fun s : TkS => s.N) (tm := fun s => fr2T w n oS o s.t) (Hf := fun s => s.H) (I := fun s => s.t ≤ n * w ∧ SchH s.H s.N oS oL s.vs s.os (fairS w n (a + s.t)) ∧ ¬ Foot oS oL s.os o ∧ o.1 < s.N ∧ s.H o = some (rowN (seenL w n a s.t)))
    (μ := fun s => n * w - s.t) (res := fun _ => ()) (R := fun _ => Fr2End w n oS o (seenL w n a (n * w)))
    (fun s hI => by
      obtain ⟨hi, hI, hF, hoN, hR⟩ := hI
      have hwm : IntKind.i64.wrap ((n : Int) * (w : Int)) = ((n * w : Nat) : Int) := by rw [hmi]; exact wrap_i64 (by omega) (by omega)
      rcases Nat.lt_or_ge s.t (n * w) with hl | hl
      · obtain ⟨H1, n1, vs1, os1, o1, o2, hc, hd, hr1, hl1⟩ := fair_tick_ok hI hw1 hn1 (by omega) (s.N + 12) (by omega)
        have hli : (s.t : Int) < (n * w : Nat) := by omega
        have hw : IntKind.i64.wrap ((s.t : Int) + 1) = (s.t : Int) + 1 := wrap_i64 (by omega) (by omega)
        have hRo : H1 o = some (rowN (seenL w n a s.t)) := (hd.fr o (by omega) hF).trans hR
        obtain ⟨x, hx⟩ : ∃ x, x = (a + s.t) % n := ⟨_, rfl⟩
        obtain ⟨y, hy⟩ : ∃ y, y = (a + s.t) / n % w := ⟨_, rfl⟩
        have hxn : x < n := by rw [hx]; exact Nat.mod_lt _ (by omega)
        have hyw : y < w := by rw [hy]; exact Nat.mod_lt _ (by omega)
        have hsa : seenAt w n (a + s.t) = x * w + y := by rw [hx, hy]; rfl
        have hs := seen_lt w n (a + s.t) hw1 hn1
        have hsucc := seen_succ w n a s.t hs
        rw [hsa] at hs hsucc
        rw [← hx, ← hy] at hr1
        have hxw : IntKind.i64.wrap ((x : Int) * (w : Int)) = ((x * w : Nat) : Int) := by rw [show (x : Int) * (w : Int) = ((x * w : Nat) : Int) from rfl]; exact wrap_i64 (by omega) (by omega)
        have hxy : IntKind.i64.wrap (((x * w : Nat) : Int) + (y : Int)) = ((x * w + y : Nat) : Int) := by rw [show ((x * w : Nat) : Int) + (y : Int) = ((x * w + y : Nat) : Int) from rfl]; exact wrap_i64 (by omega) (by omega)
        have b1 : ¬ (x : Int) < 0 := by omega
        have b2 : ¬ (n : Int) ≤ x := by omega
        have b3 : ¬ (y : Int) < 0 := by omega
        have b4 : ¬ (w : Int) ≤ y := by omega
        obtain ⟨l, hl0⟩ : ∃ l, l = seenL w n a s.t := ⟨_, rfl⟩
        have hlen : l.length = n * w := by rw [hl0]; simp [seenL]
        rw [← hl0] at hRo hsucc
        have hil : x * w + y < l.length := by omega
        obtain ⟨v, hv⟩ : ∃ v, v = l[x * w + y] := ⟨_, rfl⟩
        have hvb : v ≤ s.t := by
          rw [hv]
          simp only [hl0, seenL, List.getElem_map]
          exact Nat.le_trans List.countP_le_length (by simp)
        have hvw : IntKind.i64.wrap ((v : Int) + 1) = ((v + 1 : Nat) : Int) := by rw [wrap_i64 (by omega) (by omega)]; rfl
        have hve : ∀ h : x * w + y < l.length, l[x * w + y]'h = v := fun h => hv.symm
        have hgd : l.getD (x * w + y) 0 = v := by rw [List.getD_eq_getElem?_getD, List.getElem?_eq_getElem hil, hv]; rfl
        rw [hgd] at hsucc
        have hlt : (((x * w + y : Nat) : Int)) < ((n * w : Nat) : Int) := by omega
        have h0i : (0 : Int) ≤ ((x * w + y : Nat) : Int) := by omega
        have hnw1 : x * w + (y + 1) ≤ n * w := hs
        have hset : rowN (seenL w n a (s.t + 1)) = .cells (List.take (x * w + y) (l.map fun (x : Nat) => AV.d (.int .i64 (x : Int))) ++ .d (.int .i64 ((v + 1 : Nat) : Int)) :: List.drop (x * w + (y + 1)) (l.map fun (x : Nat) => AV.d (.int .i64 (x : Int)))) := by
          rw [hsucc, List.set_eq_take_append_cons_drop, if_pos hil]
          simp [rowN, Nat.add_assoc]
        simp only [rowN] at hRo
        conv => arg 9; arg 4; unfold b3_1
        simp (config := { maxSteps := 3000000 }) [plc_raw, Nat.add_assoc, hli, hl, hw, hc, hwm, hr1, b1, b2, b3, b4, hxw, hxy, hRo, hlen, hs, hlt, h0i, hve, hvw, hnw1, -Int.natCast_add, -Int.natCast_mul]
        have hFo : ¬ Foot oS oL os1 o := hd.foot (by omega) hF
        have hkp : ∀ p, Foot oS oL os1 p → upd H1 o (rowN (seenL w n a (s.t + 1))) p = H1 p := fun p hp => upd_ne fun e => hFo (by rw [← e]; exact hp)
        exact .next (TkS.mk (s.t + 1) (upd H1 o (rowN (seenL w n a (s.t + 1)))) (n1 + 65) vs1 os1) (by simp) (by simp) (by rw [hset]) ⟨hl, (hd.sch.keep hkp).mono (by simp only; omega), hFo, by have := hd.le; simp only; omega, upd_same _ _ _⟩ (by simp only; omega) rfl
      · have hte : s.t = n * w := Nat.le_antisymm hi hl
        simp [b3_1, hte, hwm]
        refine .fin _ _ ⟨rfl, by simp, ?_⟩
        rw [hte] at hR
        exact hR) ⟨0, H, N, vs, os⟩ ⟨Nat.zero_le _, h0, hf, ho, hrow⟩
  simpa using key
theorem fair3 (k : Nat) (hk : k ≤ 320) (o : Oid) (H : Hp) (N : Nat) (ho : H o = some (rowN (List.replicate k 1))) :
    ∃ e st, aloop Try.prog plc b3_0 ⟨[false, false, false, false, false, false, true, false, false, false, false, true, false, false, false, true, false, false, false, false, false, false, false, false, false, false, false, false, false, false, false, false, false, false, false, false, false, false, false, false, false, false, false, false, false, false, false, false, false, false, false, false, false, false, false, false, false, false, false, false, false, false, false, false, false, false, false, false, false, false, false, false, false, false, false, false, false, false, false, false, false, false, false, false, false, false, false, false, false, false, false, false, false, false, false, false, false, false, false, false, false, false, false, false, false, false, false, false, false, false, false, false, false, false, false, false, false, false, false, false, false, false, false, false, false, false, false, false, false, false, false, false, false, false, false, false, false, false, false, false, false, false, false, false, false, false, false, false, false, false, false, false, false, false, true], none⟩ ⟨fr3T k o 0, H, N⟩ = some (e, st) ∧ (e = .exit 6 ∧ st.tm = fr3T k o k) := by
  have key := loop_ruleN (P := Try.prog) (pol := plc) (c := b3_0) (m := ⟨[false, false, false, false, false, false, true, false, false, false, false, true, false, false, false, true, false, false, false, false, false, false, false, false, false, false, false, false, false, false, false, false, false, false, false, false, false, false, false, false, false, false, false, false, false, false, false, false, false, false, false, false, false, false, false, false, false, false, false, false, false, false, false, false, false, false, false, false, false, false, false, false, false, false, false, false, false, false, false, false, false, false, false, false, false, false, false, false, false, false, false, false, false, false, false, false, false, false, false, false, false, false, false, false, false, false, false, false, false, false, false, false, false, false, false, false, false, false, false, false, false, false, false, false, false, false, false, false, false, false, false, false, false, false, false, false, false, false, false, false, false, false, false, false, false, false, false, false, false, false, false, false, false, false, true], none⟩)
    (N := fun s : Nat × Nat => s.2) (tm := fun s => fr3T k o s.1) (Hf := fun _ => H) (I := fun s => s.1 ≤ k)
    (μ := fun s => k - s.1) (res := fun _ => ()) (R := fun _ e st => e = .exit 6 ∧ st.tm = fr3T k o k)
    (fun s hi => by
      obtain ⟨i, N1⟩ := s
      simp only at hi
      rcases Nat.lt_or_ge i k with hl | hl
      · have hli : (i : Int) < k := by omega
        have hw : IntKind.i64.wrap ((i : Int) + 1) = (i : Int) + 1 := wrap_i64 (by omega) (by omega)
        conv => arg 9; arg 4; unfold b3_0
        simp [plc_raw, Nat.add_assoc, hli, hl, hw, ho, rowN]
        exact .next (i + 1, N1 + 12) (by simp) (by simp) rfl hl (by simp only; omega) rfl
      · have hte : i = k := Nat.le_antisymm hi hl
        simp [b3_0, hte]
        exact .fin _ _ ⟨rfl, by simp⟩) (0, N) (Nat.zero_le _)
  simpa using key
theorem schedFair_ok (w n a : Int) : pcl Cp 3 [.int .i64 w, .int .i64 n, .int .i64 a] = some (.bool true) := by
  have hal := alive21_ok
  refine pcl_body code3 ?_
  by_cases h1 : w < 1
  · simp [plc_raw, h1, hal]
  by_cases h2 : 16 < w
  · simp [plc_raw, h1, h2, hal]
  by_cases h3 : n < 1
  · simp [plc_raw, h1, h2, h3, hal]
  by_cases h4 : 20 < n
  · simp [plc_raw, h1, h2, h3, h4, hal]
  by_cases h5 : a < 0
  · simp [plc_raw, h1, h2, h3, h4, h5, hal]
  by_cases h6 : 50 < a
  · simp [plc_raw, h1, h2, h3, h4, h5, h6, hal]
  obtain ⟨w, rfl⟩ : ∃ k : Nat, w = k := ⟨w.toNat, by omega⟩
  obtain ⟨n, rfl⟩ : ∃ k : Nat, n = k := ⟨n.toNat, by omega⟩
  obtain ⟨a, rfl⟩ : ∃ k : Nat, a = k := ⟨a.toNat, by omega⟩
  have hM : n * w ≤ 320 := Nat.mul_le_mul (show n ≤ 20 by omega) (show w ≤ 16 by omega)
  have hwm : IntKind.i64.wrap ((n : Int) * (w : Int)) = ((n * w : Nat) : Int) := by rw [show (n : Int) * (w : Int) = ((n * w : Nat) : Int) from rfl]; exact wrap_i64 (by omega) (by omega)
  obtain ⟨H0, n0, oS, oL, vs0, os0, c0, g0, s0, _, _⟩ := new_ok (fun _ => none) 30 2 w (by omega) (by omega) (by omega) (by omega)
  have s0' : SchH H0 (n0 + 7) oS oL vs0 os0 (fillS w 0) := s0.mono (by omega)
  obtain ⟨e1, t1, r1, vs1, os1, rfl, m1, s1⟩ := fair0 w n a (by omega) s0'
  obtain ⟨tm1, H1, n1⟩ := t1
  simp only at m1 s1 r1
  subst m1
  rw [fill_fair w n (by omega)] at s1
  obtain ⟨e2, t2, r2, vs2, os2, rfl, m2, s2⟩ := fair1 w n a (by omega) (by omega) (by omega) (s1.mono (Nat.le_add_right _ 1))
  obtain ⟨tm2, H2, n2⟩ := t2
  simp only at m2 s2 r2
  subst m2
  have hfo : ¬ Foot oS oL os2 (n2 + 3, 0) := fun hF => by have := s2.foot_lt hF; simp only at this; omega
  have s2' : SchH (upd H2 (n2 + 3, 0) (rowN (seenL w n a 0))) (n2 + 6) oS oL vs2 os2 (fairS w n a) := (s2.keep fun p hp => upd_ne fun e => hfo (by rw [← e]; exact hp)).mono (by omega)
  obtain ⟨e3, t3, r3, rfl, m3, w3⟩ := fair2 w n a (by omega) (by omega) (by omega) (by omega) (by omega) s2' hfo (by simp) (upd_same _ _ _)
  obtain ⟨tm3, H3, n3⟩ := t3
  simp only at m3 w3 r3
  subst m3
  rw [seen_end w n a (by omega) (by omega)] at w3
  obtain ⟨e4, t4, r4, rfl, m4⟩ := fair3 (n * w) hM (n2 + 3, 0) H3 (n3 + 1) w3
  obtain ⟨tm4, H4, n4⟩ := t4
  simp only at m4 r4
  subst m4
  simp only [show ((2 : Nat) : Int) = 2 from rfl] at c0
  have hz : rowN (seenL w n a 0) = .cells (List.replicate (n * w) (.d (.int .i64 0))) := by rw [seen_zero]; simp [rowN]
  rw [hz] at r3
  simp only [fr0T, Int.natCast_zero] at r1
  simp only [fr1T, Int.natCast_zero] at r2
  simp only [fr2T, Int.natCast_zero] at r3
  simp only [fr3T, Int.natCast_zero] at r4
  have hb : ((n * w : Nat) : Int) ≤ 1099511627776 := by omega
  have hb0 : (0 : Int) ≤ ((n * w : Nat) : Int) := by omega
  simp (config := { maxSteps := 3000000 }) [plc_raw, Nat.add_assoc, h1, h2, h3, h4, h5, h6, hal, c0, r1, r2, hwm, hb, hb0, r3, r4, -Int.natCast_mul]
  trace_state
  done
end Go.Proofs.Ytnlmonokkppagaa.Am


/-
  A variable's place among binds: what the program's function answers. No condition.
-/
import Derived.Test.YtiafeijkifpfaaaAmSc
namespace Go.Proofs.Ytiafeijkifpfaaa.Am
open Go Go.Proofs
set_option maxHeartbeats 4000000
set_option linter.unusedSimpArgs false
set_option linter.unusedVariables false

def cmpI (a b : Int) : Int := if a < b then -1 else if a > b then 1 else 0
theorem nan_ok (a : Int) : pcl Cp 77 [.int .i64 a] = some (.bool false) := by
  refine pcl_body code77 ?_
  simp
theorem cmp_ok (a b : Int) : pcl Cp 57 [.int .i64 a, .int .i64 b] = some (.int .i64 (cmpI a b)) := by
  have h1 := nan_ok a
  have h2 := nan_ok b
  refine pcl_body code57 ?_
  unfold cmpI
  by_cases c1 : a < b
  · simp [plc_raw, h1, h2, c1]
  · by_cases c2 : b < a
    · simp [plc_raw, h1, h2, c1, c2]
    · simp [plc_raw, h1, h2, c1, c2]
theorem find1_ok (x v : Int) (fn : ByteArray) (args : List Term) (y : Int) : pcl Cp 84 [.agg [.int .i64 x, .int .i64 v, .str fn, .sl (encL args) args.length false none], .int .i64 y] = some (.int .i64 (cmpI x y)) := by
  have h := cmp_ok x y
  refine pcl_body code84 ?_
  simp [plc_raw, h]
theorem wrap_u64 {n : Int} (h : 0 ≤ n) (h2 : n < 18446744073709551616) : IntKind.u64.wrap n = n := by
  simp only [IntKind.wrap, IntKind.signed, IntKind.bits]
  simp
  omega
theorem half_ok {i j : Nat} (h : i + j ≤ 4611686018427387904) : shiftD .shr .u64 (IntKind.u64.wrap (IntKind.i64.wrap ((i : Int) + (j : Int)))) 1 = some (.int .u64 (((i + j) / 2 : Nat) : Int)) := by
  rw [wrap_i64 (by omega) (by omega), wrap_u64 (by omega) (by omega)]
  simp only [shiftD]
  rw [if_neg (by omega)]
  congr 2
  have : (2 : Int) ^ (min (1 : Int).toNat IntKind.u64.bits) = 2 := by decide
  rw [this, Int.fdiv_eq_ediv_of_nonneg _ (by omega)]
  omega
theorem search_ok (bs : List Bd) (hb : okB bs) (hn : bs.length ≤ 1048576) (hp : bs.Pairwise (fun a b => a.v < b.v)) (x : Int) :
    pcl Cp 83 [.sl (encB bs) bs.length false none, .int .i64 x, .fn 84 []] = some (.tup [.int .i64 (lowB bs x), .bool (foundB bs x)]) := by
  have hlb := lowB_le bs x
  have hloop := loop_rule (P := Try.prog) (pol := plc) (c := b83_0) (m := ⟨[true, true, true, false, false, false, true, true, true, true, true, false, false, false, false, false, false, false, false, false, false, false, false, false, false, false, false, false, false, false, false, false, false, false, false, true, true, true, true, true, true, true, true, true, true, true, true, true, true], some 8⟩)
    (b := 8) (tm := fun (s : Nat × Nat) => [.d (.sl (encB bs) bs.length false none), .d (.int .i64 x), .d (.fn 84 []), .junk, .junk, .junk, .d (.int .i64 0), .d (.bool false), .d (.int .i64 bs.length), .d (.int .i64 s.1), .d (.int .i64 s.2), .junk, .junk, .junk, .junk, .junk, .junk, .junk, .junk, .junk, .junk, .junk, .junk, .junk, .junk, .junk, .junk, .junk, .junk, .junk, .junk, .junk, .junk, .junk, .junk, .junk, .junk, .junk, .junk, .junk, .junk, .junk, .junk, .junk, .junk, .junk, .junk, .junk, .junk]) (Hf := fun _ => fun _ => none)
    (I := fun s => s.1 ≤ lowB bs x ∧ lowB bs x ≤ s.2 ∧ s.2 ≤ bs.length) (μ := fun s => s.2 - s.1) (res := fun s => ())
    (R := fun r e t => AtExit 0 [.d (.sl (encB bs) bs.length false none), .d (.int .i64 x), .d (.fn 84 []), .junk, .junk, .junk, .d (.int .i64 0), .d (.bool false), .d (.int .i64 bs.length), .d (.int .i64 (lowB bs x)), .d (.int .i64 (lowB bs x)), .junk, .junk, .junk, .junk, .junk, .junk, .junk, .junk, .junk, .junk, .junk, .junk, .junk, .junk, .junk, .junk, .junk, .junk, .junk, .junk, .junk, .junk, .junk, .junk, .junk, .junk, .junk, .junk, .junk, .junk, .junk, .junk, .junk, .junk, .junk, .junk, .junk, .junk] (fun _ => none) e t)
    (fun s nx hi => by
      obtain ⟨i, j⟩ := s
      obtain ⟨h1, h2, h3⟩ := hi
      simp only at h1 h2 h3 ⊢
      conv => arg 9; arg 4; unfold b83_0
      rcases Nat.lt_or_ge i j with hl | hl
      · have hm : (i + j) / 2 < bs.length := by omega
        obtain ⟨y, v, fn, args, a⟩ := atB_ok hb.1 (i := (i + j) / 2) hm
        have hc := find1_ok y v fn args x
        have hh := half_ok (i := i) (j := j) (by omega)
        have hli : (i : Int) < (j : Int) := by omega
        have hw3 : IntKind.i64.wrap (((i + j) / 2 : Nat) : Int) = (((i + j) / 2 : Nat) : Int) := wrap_i64 (by omega) (by omega)
        have hbk : bs[(i + j) / 2]? = some ⟨y, .mk v fn args⟩ := by
          have := a.dr
          rw [List.drop_eq_getElem_cons hm] at this
          rw [List.getElem?_eq_getElem hm]
          exact congrArg some (List.cons.inj this).1
        have hlow := lowB_iff x bs hp _ _ hbk
        simp only at hlow
        have hmid1 : i ≤ (i + j) / 2 := by omega
        have hmid2 : (i + j) / 2 < j := by omega
        have k1 := a.lti
        have k2 := a.ltm
        have k3 := a.cells
        have k4 := a.le4
        have k5 := a.w
        have k6 := a.sz
        clear a hbk
        generalize (i + j) / 2 = h at *
        by_cases hy : y < x
        · have hcm : cmpI y x < 0 := by simp [cmpI, hy]
          simp [hl, hli, hh, hw3, k1, k2, k3, k4, k5, k6, plc_raw, hc, hcm]
          exact .next (h + 1, j) (by omega) (by simp) rfl ⟨by simp only; have := hlow.1 hy; omega, h2, h3⟩ (by simp; omega) rfl
        · have hcm : ¬ cmpI y x < 0 := by simp only [cmpI]; split <;> (try split) <;> omega
          simp [hl, hli, hh, hw3, k1, k2, k3, k4, k5, k6, plc_raw, hc, hcm]
          exact .next (i, h) (by omega) (by simp) rfl ⟨h1, by simp only; omega, by simp only; omega⟩ (by simp; omega) rfl
      · obtain rfl : i = lowB bs x := by omega
        obtain rfl : j = lowB bs x := by omega
        simp
        exact .fin _ _ .mk) (0, bs.length) ⟨Nat.zero_le _, hlb, Nat.le_refl _⟩
  obtain ⟨e, t, hrun, rfl, nx, rfl⟩ := hloop
  simp at hrun
  refine pcl_body code83 ?_
  by_cases hl : lowB bs x < bs.length
  · obtain ⟨y, v, fn, args, a⟩ := atB_ok hb.1 hl
    have hc := find1_ok y v fn args x
    have hbk : bs[lowB bs x]? = some ⟨y, .mk v fn args⟩ := by
      have := a.dr
      rw [List.drop_eq_getElem_cons hl] at this
      rw [List.getElem?_eq_getElem hl]
      exact congrArg some (List.cons.inj this).1
    have hf : foundB bs x = decide (y = x) := by simp only [foundB, hbk]
    rw [hf]
    have k1 := a.lti
    have k2 := a.ltm
    have k3 := a.cells
    have k4 := a.le4
    have k6 := a.sz
    clear a hbk hf hlb
    generalize lowB bs x = h at *
    by_cases hy : y = x
    · subst hy
      have hcm : cmpI y y = 0 := by simp [cmpI]
      simp [hrun, plc_raw, hl, k1, k2, k3, k4, k6, hc, hcm]
    · have hcm : ¬ cmpI y x = 0 := by simp only [cmpI]; split <;> (try split) <;> omega
      simp [hrun, plc_raw, hl, k1, k2, k3, k4, k6, hc, hcm, hy]
  · have hf : foundB bs x = false := by
      simp only [foundB]
      rw [List.getElem?_eq_none (by omega)]
    have hli : ¬ (lowB bs x : Int) < bs.length := by omega
    rw [hf]
    simp [hrun, plc_raw, hl, hli]
theorem find_ok (bs : List Bd) (hb : okB bs) (hn : bs.length ≤ 1048576) (hp : bs.Pairwise (fun a b => a.v < b.v)) (x : Int) :
    pcl Cp 64 [.sl (encB bs) bs.length false none, .int .i64 x] = some (.tup [.int .i64 (lowB bs x), .bool (foundB bs x)]) := by
  have h := search_ok bs hb hn hp x
  refine pcl_body code64 ?_
  simp [plc_raw, h]
end Go.Proofs.Ytiafeijkifpfaaa.Am

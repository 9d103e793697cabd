/-
  The document's order of Knuth and Bendix: weights, counts, symbols. No condition.
-/
import Derived.Test.YtfcedichoigbbaaAmVb
namespace Go.Proofs.Ytfcedichoigbbaa.Am
open Go Go.Proofs
set_option maxHeartbeats 4000000
set_option linter.unusedSimpArgs false
set_option linter.unusedVariables false

def RwEnd (g : Sg) (v : Int) (fn : ByteArray) (args : List Term) (r : Int) (e : Ex) (t : St) : Prop :=
  AtExit 0 [.junk, .junk, .ptr (0, 0) 0 2, .ptr (1, 0) 0 3, .d (.int .i64 0), .d (.int .i64 r), .junk, .d (.int .i64 args.length), .junk, .junk, .junk, .junk, .junk, .junk, .junk, .junk, .junk, .junk, .junk, .junk, .junk, .junk, .junk, .junk, .junk, .junk, .junk, .junk, .junk, .junk, .junk, .junk, .junk, .junk, .junk, .junk, .junk, .junk, .junk, .junk, .junk, .junk, .junk, .junk, .junk, .junk, .junk, .junk, .junk, .junk, .junk, .junk, .junk, .junk, .junk, .junk, .junk, .junk, .junk, .junk, .junk, .junk, .junk, .junk] (upd (upd (fun _ => none) (0, 0) (.cells [.d (.sl (encS g.names) g.names.length false none), .d (.sl (encI g.weights) g.weights.length false none)])) (1, 0) (.cells [.d (.int .i64 v), .d (.str fn), .d (.sl (encL args) args.length false none)])) e t
theorem sizeL_drop {a : List Term} {i : Nat} {v : Int} {fn : ByteArray} {args : List Term} (h : At a i v fn args) : sizeL (a.drop i) = (Term.mk v fn args).size + sizeL (a.drop (i + 1)) := by rw [h.dr]; rfl
theorem rweight_ok (g : Sg) (hg : g.ok) (t : Term) : t.ok → t.size ≤ 1048576 → pcl Cp 48 [.agg g.enc, .agg t.enc] = some (.int .i64 (t.wt g)) := by
  refine Term.ind (p := fun t => t.ok → t.size ≤ 1048576 → pcl Cp 48 [.agg g.enc, .agg t.enc] = some (.int .i64 (t.wt g))) (fun v fn args ih h hsz => ?_) t
  have hn := h.1
  simp only [Term.size] at hsz
  have hloop := fun (k : Nat) (hk : 2 ≤ k) (acc : Int) (h0 : 0 ≤ acc) (h1 : acc ≤ 1000) =>
    loop_rule (P := Try.prog) (pol := plc) (c := b48_0) (m := ⟨[false, false, true, true, true, true, false, true, false, false, false, false, false, false, false, false, false, false, false, false, false, false, false, false, false, false, false, false, false, false, false, false, false, false, false, false, false, false, false, false, false, false, false, false, false, false, false, false, false, false, false, false, false, false, false, false, false, false, false, false, false, false, false, true], some k⟩)
      (b := k) (tm := fun (s : Nat × Int) => [.junk, .junk, .ptr (0, 0) 0 2, .ptr (1, 0) 0 3, .d (.int .i64 0), .d (.int .i64 s.2), .junk, .d (.int .i64 s.1), .junk, .junk, .junk, .junk, .junk, .junk, .junk, .junk, .junk, .junk, .junk, .junk, .junk, .junk, .junk, .junk, .junk, .junk, .junk, .junk, .junk, .junk, .junk, .junk, .junk, .junk, .junk, .junk, .junk, .junk, .junk, .junk, .junk, .junk, .junk, .junk, .junk, .junk, .junk, .junk, .junk, .junk, .junk, .junk, .junk, .junk, .junk, .junk, .junk, .junk, .junk, .junk, .junk, .junk, .junk, .junk])
      (Hf := fun _ => upd (upd (fun x => none) (0, 0) (.cells [.d (.sl (encS g.names) g.names.length false none), .d (.sl (encI g.weights) g.weights.length false none)])) (1, 0) (.cells [.d (.int .i64 v), .d (.str fn), .d (.sl (encL args) args.length false none)]))
      (I := fun s => s.1 ≤ args.length ∧ 0 ≤ s.2 ∧ s.2 + 1000 * sizeL (args.drop s.1) ≤ 4000000000) (μ := fun s => args.length - s.1) (res := fun s => s.2 + wtL g (args.drop s.1))
      (R := RwEnd g v fn args)
      (fun s nx hi => by
        obtain ⟨i, acc⟩ := s
        obtain ⟨hi, h0, hs⟩ := hi
        simp only at hi h0 hs ⊢
        have hk0 : 0 < k := by omega
        have hk1 : 1 < k := by omega
        rcases Nat.lt_or_ge i args.length with hl2 | hl2
        · obtain ⟨v', fn', args', a⟩ := at_ok hn hl2
          rw [sizeL_drop a] at hs
          have hm := sizeL_mem a.mem
          have hc := ih _ a.mem (okL_mem h.2 _ a.mem) (by omega)
          have hw := wt_range g (.mk v' fn' args')
          have hwr : IntKind.i64.wrap (acc + (Term.mk v' fn' args').wt g) = acc + (Term.mk v' fn' args').wt g := wrap_small (by omega) (by omega)
          simp [Term.enc, Sg.enc] at hc
          conv => arg 9; arg 4; unfold b48_0
          simp [a.lti, a.sz, a.ltm, a.cells, a.le3, plc_raw, a.w, hc, hk0, hk1, hwr]
          refine .next (i + 1, acc + (Term.mk v' fn' args').wt g) (by omega) (by simp) rfl ⟨hl2, by simp only; omega, by simp only; omega⟩ (by simp; omega) ?_
          simp only [a.dr, wtL]; omega
        · obtain rfl : i = args.length := Nat.le_antisymm hi hl2
          simp [b48_0, hk0, hk1]
          refine .fin _ _ ?_
          simp only [List.drop_length, wtL, Int.add_zero]
          exact .mk) (0, acc) ⟨Nat.zero_le _, h0, by simp; omega⟩
  have hat := rat_ok g.names g.weights hg.1 fn
  have hr := of_range g fn
  have hfin := fun (k : Nat) (hk : 2 ≤ k) (acc : Int) (he : g.of fn = acc) => hloop k hk acc (by omega) (by omega)
  clear hloop ih
  refine pcl_body code48 ?_
  simp only [Term.wt]
  have h1 : g.of fn = 1 → datK (finK Try.prog [.tmp 4] (exec Try.prog plc (acall Try.prog plc) (aloop Try.prog plc) (.seq .skip .skip) ⟨[], fun _ => none, 0⟩)) = none → True := fun _ _ => trivial
  clear h1
  rcases idxS_lt (ns := g.names) (s := fn) with hi | ⟨k, hi, hk⟩
  · have hg1 : g.of fn = 1 := by simp [Sg.of, hi]
    obtain ⟨e, t, hrun, rfl, nx, rfl⟩ := hfin 40 (by omega) 1 hg1
    simp at hrun
    rw [hi] at hat
    by_cases hv : fn.toList = [] <;> simp [Term.enc, Sg.enc, plc_raw, hat, hv, hrun, hg1]
  · rw [hi] at hat
    by_cases hv : fn.toList = []
    · have hg1 : g.of fn = 1 := by simp [Sg.of, hv]
      obtain ⟨e, t, hrun, rfl, nx, rfl⟩ := hfin 40 (by omega) 1 hg1
      simp at hrun
      simp [Term.enc, Sg.enc, plc_raw, hat, hv, hrun, hg1]
    · by_cases hw : k < g.weights.length
      · have hw2 : (k : Int) < g.weights.length := by omega
        by_cases hlo : g.weights[k] < 1
        · have hg1 : g.of fn = 1 := by simp [Sg.of, hi, hw, hlo]
          obtain ⟨e, t, hrun, rfl, nx, rfl⟩ := hfin 40 (by omega) 1 hg1
          simp at hrun
          have hlo2 : ¬ 1 ≤ g.weights[k] := by omega
          simp [Term.enc, Sg.enc, plc_raw, hat, hv, hrun, hg1, hw, hw2, hlo2]
        · by_cases hhi : 1000 < g.weights[k]
          · have hg1 : g.of fn = 1 := by simp [Sg.of, hi, hw, hlo, hhi]
            obtain ⟨e, t, hrun, rfl, nx, rfl⟩ := hfin 40 (by omega) 1 hg1
            simp at hrun
            have hlo2 : 1 ≤ g.weights[k] := by omega
            have hhi2 : ¬ g.weights[k] ≤ 1000 := by omega
            simp [Term.enc, Sg.enc, plc_raw, hat, hv, hrun, hg1, hw, hw2, hlo2, hhi2]
          · have hg1 : g.of fn = g.weights[k] := by
              have : ¬ ((g.weights.length : Int) ≤ k) := by omega
              have : ¬ g.weights.length ≤ k := by omega
              have : ¬ (k : Int) < 0 := by omega
              simp [Sg.of, hi, hv, hw, hlo, hhi, *]
            obtain ⟨e, t, hrun, rfl, nx, rfl⟩ := hfin 46 (by omega) _ hg1
            simp at hrun
            have hlo2 : 1 ≤ g.weights[k] := by omega
            have hhi2 : g.weights[k] ≤ 1000 := by omega
            simp [Term.enc, Sg.enc, plc_raw, hat, hv, hrun, hg1, hw, hw2, hlo2, hhi2]
      · have hw2 : ¬ (k : Int) < g.weights.length := by omega
        have hg1 : g.of fn = 1 := by
          have : (g.weights.length : Int) ≤ k := by omega
          simp [Sg.of, hi, this]
        obtain ⟨e, t, hrun, rfl, nx, rfl⟩ := hfin 40 (by omega) 1 hg1
        simp at hrun
        simp [Term.enc, Sg.enc, plc_raw, hat, hv, hrun, hg1, hw, hw2]
def RcEnd (x v : Int) (fn : ByteArray) (args : List Term) (r : Int) (e : Ex) (t : St) : Prop :=
  AtExit 0 [.junk, .d (.int .i64 x), .ptr (0, 0) 0 3, .junk, .d (.int .i64 0), .d (.int .i64 r), .d (.int .i64 args.length), .junk, .junk, .junk, .junk, .junk, .junk, .junk, .junk, .junk, .junk, .junk, .junk, .junk, .junk, .junk, .junk, .junk, .junk, .junk, .junk, .junk, .junk, .junk, .junk, .junk, .junk] (upd (fun _ => none) (0, 0) (.cells [.d (.int .i64 v), .d (.str fn), .d (.sl (encL args) args.length false none)])) e t
theorem occL_drop {a : List Term} {i : Nat} {v : Int} {fn : ByteArray} {args : List Term} (h : At a i v fn args) : occL (a.drop i) = (Term.mk v fn args).occ ++ occL (a.drop (i + 1)) := by rw [h.dr]; rfl
theorem occL_len : ∀ (a : List Term), (occL a).length ≤ sizeL a
  | [] => by simp [occL, sizeL]
  | x :: r => by
    have h1 := occ_len x
    have h2 := occL_len r
    simp only [occL, sizeL, List.length_append]; omega
theorem rcount_ok (x : Int) (t : Term) : t.ok → t.size ≤ 1048576 → pcl Cp 68 [.agg t.enc, .int .i64 x] = some (.int .i64 (t.occ.count x)) := by
  refine Term.ind (p := fun t => t.ok → t.size ≤ 1048576 → pcl Cp 68 [.agg t.enc, .int .i64 x] = some (.int .i64 (t.occ.count x))) (fun v fn args ih h hsz => ?_) t
  have hn := h.1
  simp only [Term.size] at hsz
  have hloop := fun (k : Nat) (hk : 2 ≤ k) (acc : Nat) (h1 : acc ≤ 1) =>
    loop_rule (P := Try.prog) (pol := plc) (c := b68_0) (m := ⟨[false, true, true, false, true, true, true, false, false, false, false, false, false, false, false, false, false, false, false, false, false, false, false, false, false, false, false, false, false, false, false, false, true], some k⟩)
      (b := k) (tm := fun (s : Nat × Nat) => [.junk, .d (.int .i64 x), .ptr (0, 0) 0 3, .junk, .d (.int .i64 0), .d (.int .i64 s.2), .d (.int .i64 s.1), .junk, .junk, .junk, .junk, .junk, .junk, .junk, .junk, .junk, .junk, .junk, .junk, .junk, .junk, .junk, .junk, .junk, .junk, .junk, .junk, .junk, .junk, .junk, .junk, .junk, .junk])
      (Hf := fun _ => upd (fun x => none) (0, 0) (.cells [.d (.int .i64 v), .d (.str fn), .d (.sl (encL args) args.length false none)]))
      (I := fun s => s.1 ≤ args.length ∧ s.2 + sizeL (args.drop s.1) ≤ 4000000000) (μ := fun s => args.length - s.1) (res := fun s => ((s.2 + (occL (args.drop s.1)).count x : Nat) : Int))
      (R := RcEnd x v fn args)
      (fun s nx hi => by
        obtain ⟨i, acc⟩ := s
        obtain ⟨hi, hs⟩ := hi
        simp only at hi hs ⊢
        have hk0 : 0 < k := by omega
        have hk1 : 1 < k := by omega
        rcases Nat.lt_or_ge i args.length with hl2 | hl2
        · obtain ⟨v', fn', args', a⟩ := at_ok hn hl2
          rw [sizeL_drop a] at hs
          have hm := sizeL_mem a.mem
          have hc := ih _ a.mem (okL_mem h.2 _ a.mem) (by omega)
          have hw : (Term.mk v' fn' args').occ.count x ≤ (Term.mk v' fn' args').size := Nat.le_trans List.count_le_length (occ_len _)
          have hwr : IntKind.i64.wrap ((acc : Int) + ((Term.mk v' fn' args').occ.count x : Int)) = ((acc + (Term.mk v' fn' args').occ.count x : Nat) : Int) := by rw [wrap_small (by omega) (by omega)]; omega
          generalize hcc : (Term.mk v' fn' args').occ.count x = cc at hc hw hwr
          simp [Term.enc, Sg.enc] at hc
          conv => arg 9; arg 4; unfold b68_0
          simp only [Int.natCast_add] at hwr
          simp [a.lti, a.sz, a.ltm, a.cells, a.le3, plc_raw, a.w, hc, hk0, hk1, hwr]
          refine .next (i + 1, acc + cc) (by omega) (by simp) rfl ⟨hl2, by simp only; omega⟩ (by simp; omega) ?_
          simp only [occL_drop a, List.count_append, hcc]; omega
        · obtain rfl : i = args.length := Nat.le_antisymm hi hl2
          simp [b68_0, hk0, hk1]
          refine .fin _ _ ?_
          simp only [List.drop_length, occL, List.count_nil, Nat.add_zero]
          exact .mk) (0, acc) ⟨Nat.zero_le _, by simp; omega⟩
  refine pcl_body code68 ?_
  clear ih
  by_cases hv : fn.toList = []
  · by_cases hx : v = x
    · subst hx
      obtain ⟨e, t, hrun, rfl, nx, rfl⟩ := hloop 14 (by omega) 1 (by omega)
      simp at hrun
      simp [Term.enc, plc_raw, hv, hrun, Term.occ]
      omega
    · obtain ⟨e, t, hrun, rfl, nx, rfl⟩ := hloop 13 (by omega) 0 (by omega)
      simp at hrun
      have hc : ([v] : List Int).count x = 0 := List.count_eq_zero.2 (by simpa using fun e => hx e.symm)
      simp [Term.enc, plc_raw, hv, hrun, Term.occ, hx]
  · obtain ⟨e, t, hrun, rfl, nx, rfl⟩ := hloop 13 (by omega) 0 (by omega)
    simp at hrun
    simp [Term.enc, plc_raw, hv, hrun, Term.occ]
/-- Is a symbol above? -/
def Sg.symR (g : Sg) (f1 f2 : ByteArray) (n1 n2 : Nat) : Bool := if f1.toList = f2.toList then decide (n2 < n1) else g.aboveR f1 f2
theorem rsymbol_ok (g : Sg) (hg : g.ok) (v1 : Int) (f1 : ByteArray) (a1 : List Term) (v2 : Int) (f2 : ByteArray) (a2 : List Term) :
    pcl Cp 69 [.agg g.enc, .agg (Term.mk v1 f1 a1).enc, .agg (Term.mk v2 f2 a2).enc] = some (.bool (g.symR f1 f2 a1.length a2.length)) := by
  have hab := rabove_ok g hg f1 f2
  refine pcl_body code69 ?_
  unfold Sg.symR
  simp [Sg.enc] at hab
  by_cases hf : f1.toList = f2.toList
  · simp [Term.enc, Sg.enc, plc_raw, hf]
  · simp [Term.enc, Sg.enc, plc_raw, hf, hab]
end Go.Proofs.Ytfcedichoigbbaa.Am

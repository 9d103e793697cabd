/-
  The document's order of Knuth and Bendix: its function. No condition.
-/
import Derived.Test.YtfcedichoigbbaaAmRk
namespace Go.Proofs.Ytfcedichoigbbaa.Am
open Go Go.Proofs
set_option maxHeartbeats 4000000
set_option linter.unusedSimpArgs false
set_option linter.unusedVariables false

def fewer (t u : Term) (x : Int) : Bool := decide (t.occ.count x < u.occ.count x)
mutual
def Term.rgt (g : Sg) : Term → Term → Bool
  | .mk v1 f1 a1, .mk v2 f2 a2 =>
    if ((Term.mk v2 f2 a2).varsW []).any (fewer (.mk v1 f1 a1) (.mk v2 f2 a2)) then false
    else if (Term.mk v1 f1 a1).wt g ≠ (Term.mk v2 f2 a2).wt g then decide ((Term.mk v1 f1 a1).wt g > (Term.mk v2 f2 a2).wt g)
    else if f1.toList = [] ∨ f2.toList = [] then false
    else if f1.toList ≠ f2.toList ∨ a1.length ≠ a2.length then g.symR f1 f2 a1.length a2.length
    else rgtL g a1 a2
def rgtL (g : Sg) : List Term → List Term → Bool
  | t :: r, u :: s => if t.sameB u then rgtL g r s else t.rgt g u
  | _, _ => false
end
abbrev kH (g : Sg) (t u : Term) : Hp := upd (upd (upd (fun _ => none) (0, 0) (.cells (g.enc.map .d))) (1, 0) (.cells (t.enc.map .d))) (2, 0) (.cells (u.enc.map .d))
def Rg1End (g : Sg) (v : Int) (fn : ByteArray) (args : List Term) (v2 : Int) (fn2 : ByteArray) (args2 : List Term) (vs : List Int) (nl : Option Bool) (r : Bool) (e : Ex) (t : St) : Prop :=
  if r then AtRet 6 (.d (.bool false)) e t else AtExit 0 [.junk, .junk, .junk, .ptr (0, 0) 0 2, .ptr (1, 0) 0 3, .ptr (2, 0) 0 3, .d (.bool false), .d (.sl (encI vs) vs.length false nl), .d (.int .i64 vs.length), .junk, .junk, .junk, .junk, .junk, .junk, .junk, .junk, .junk, .junk, .junk, .junk, .junk, .junk, .junk, .junk, .junk, .junk, .junk, .junk, .junk, .junk, .junk, .junk, .junk, .junk, .junk, .junk, .junk, .junk, .junk, .junk, .junk, .junk, .junk, .junk, .junk, .junk, .junk, .junk, .junk, .junk, .junk, .junk, .junk, .junk, .junk, .junk, .junk, .junk, .junk, .junk, .junk, .junk, .junk, .junk, .junk, .junk, .junk, .junk, .junk, .junk, .junk, .junk, .junk, .junk, .junk, .junk, .junk, .junk, .junk, .junk, .junk, .junk, .junk, .junk, .junk, .junk, .junk, .junk, .junk, .junk, .junk, .junk, .junk, .junk, .junk, .junk, .junk, .junk, .junk, .junk, .junk]
    (upd (upd (upd (fun _ => none) (0, 0) (.cells [.d (.sl (encS g.names) g.names.length false none), .d (.sl (encI g.weights) g.weights.length false none)])) (1, 0) (.cells [.d (.int .i64 v), .d (.str fn), .d (.sl (encL args) args.length false none)])) (2, 0) (.cells [.d (.int .i64 v2), .d (.str fn2), .d (.sl (encL args2) args2.length false none)])) e t
theorem rg1_loop (g : Sg) (v : Int) (fn : ByteArray) (args : List Term) (v2 : Int) (fn2 : ByteArray) (args2 : List Term) (h : (Term.mk v fn args).ok) (h2 : (Term.mk v2 fn2 args2).ok) (hs : (Term.mk v fn args).size ≤ 1048576) (hs2 : (Term.mk v2 fn2 args2).size ≤ 1048576)
    (vs : List Int) (nl : Option Bool) (hvs : vs.length ≤ 1048576) :
    ∃ e t, aloop Try.prog plc b46_1 ⟨[false, false, false, true, true, true, true, true, true, true, true, true, false, false, false, false, false, false, false, false, false, false, false, false, false, false, false, false, false, false, false, false, false, true, true, true, true, true, true, true, true, true, true, true, true, true, true, true, true, true, true, true, true, true, true, true, true, true, true, true, true, true, true, true, true, true, true, true, true, true, true, true, true, true, true, true, true, true, true, true, true, true, true, true, true, true, true, true, true, true, true, true, true, true, true, true, true, true, true, true, true, true], some 8⟩ ⟨[.junk, .junk, .junk, .ptr (0, 0) 0 2, .ptr (1, 0) 0 3, .ptr (2, 0) 0 3, .d (.bool false), .d (.sl (encI vs) vs.length false nl), .d (.int .i64 0), .junk, .junk, .junk, .junk, .junk, .junk, .junk, .junk, .junk, .junk, .junk, .junk, .junk, .junk, .junk, .junk, .junk, .junk, .junk, .junk, .junk, .junk, .junk, .junk, .junk, .junk, .junk, .junk, .junk, .junk, .junk, .junk, .junk, .junk, .junk, .junk, .junk, .junk, .junk, .junk, .junk, .junk, .junk, .junk, .junk, .junk, .junk, .junk, .junk, .junk, .junk, .junk, .junk, .junk, .junk, .junk, .junk, .junk, .junk, .junk, .junk, .junk, .junk, .junk, .junk, .junk, .junk, .junk, .junk, .junk, .junk, .junk, .junk, .junk, .junk, .junk, .junk, .junk, .junk, .junk, .junk, .junk, .junk, .junk, .junk, .junk, .junk, .junk, .junk, .junk, .junk, .junk, .junk],
      upd (upd (upd (fun x => none) (0, 0) (.cells [.d (.sl (encS g.names) g.names.length false none), .d (.sl (encI g.weights) g.weights.length false none)])) (1, 0) (.cells [.d (.int .i64 v), .d (.str fn), .d (.sl (encL args) args.length false none)])) (2, 0) (.cells [.d (.int .i64 v2), .d (.str fn2), .d (.sl (encL args2) args2.length false none)]), 8⟩ = some (e, t) ∧
      Rg1End g v fn args v2 fn2 args2 vs nl (vs.any (fewer (.mk v fn args) (.mk v2 fn2 args2))) e t := by
  refine loop_rule (b := 8) (tm := fun (i : Nat) => [.junk, .junk, .junk, .ptr (0, 0) 0 2, .ptr (1, 0) 0 3, .ptr (2, 0) 0 3, .d (.bool false), .d (.sl (encI vs) vs.length false nl), .d (.int .i64 i), .junk, .junk, .junk, .junk, .junk, .junk, .junk, .junk, .junk, .junk, .junk, .junk, .junk, .junk, .junk, .junk, .junk, .junk, .junk, .junk, .junk, .junk, .junk, .junk, .junk, .junk, .junk, .junk, .junk, .junk, .junk, .junk, .junk, .junk, .junk, .junk, .junk, .junk, .junk, .junk, .junk, .junk, .junk, .junk, .junk, .junk, .junk, .junk, .junk, .junk, .junk, .junk, .junk, .junk, .junk, .junk, .junk, .junk, .junk, .junk, .junk, .junk, .junk, .junk, .junk, .junk, .junk, .junk, .junk, .junk, .junk, .junk, .junk, .junk, .junk, .junk, .junk, .junk, .junk, .junk, .junk, .junk, .junk, .junk, .junk, .junk, .junk, .junk, .junk, .junk, .junk, .junk, .junk])
    (Hf := fun _ => upd (upd (upd (fun x => none) (0, 0) (.cells [.d (.sl (encS g.names) g.names.length false none), .d (.sl (encI g.weights) g.weights.length false none)])) (1, 0) (.cells [.d (.int .i64 v), .d (.str fn), .d (.sl (encL args) args.length false none)])) (2, 0) (.cells [.d (.int .i64 v2), .d (.str fn2), .d (.sl (encL args2) args2.length false none)]))
    (I := fun i => i ≤ vs.length) (μ := fun i => vs.length - i) (res := fun i => (vs.drop i).any (fewer (.mk v fn args) (.mk v2 fn2 args2))) (R := Rg1End g v fn args v2 fn2 args2 vs nl)
    (fun i nx hi => ?_) 0 (Nat.zero_le _)
  rcases Nat.lt_or_ge i vs.length with hl | hl
  · have hw : IntKind.i64.wrap ((i : Int) + 1) = (i : Int) + 1 := wrap_i64 (by omega) (by omega)
    have hdr := List.drop_eq_getElem_cons hl
    have hc1 := rcount_ok vs[i] _ h hs
    have hc2 := rcount_ok vs[i] _ h2 hs2
    have hf : fewer (.mk v fn args) (.mk v2 fn2 args2) vs[i] = decide ((Term.mk v fn args).occ.count vs[i] < (Term.mk v2 fn2 args2).occ.count vs[i]) := rfl
    generalize (Term.mk v fn args).occ.count vs[i] = c1 at hc1 hf
    generalize (Term.mk v2 fn2 args2).occ.count vs[i] = c2 at hc2 hf
    simp [Term.enc] at hc1 hc2
    conv => arg 9; arg 4; unfold b46_1
    by_cases hcc : c1 < c2
    · have hcc2 : (c1 : Int) < c2 := by omega
      simp [hl, hw, plc_raw, hc1, hc2, hcc, hcc2]
      refine .fin _ _ ?_
      simp only [hdr, List.any_cons, hf, hcc, decide_true, Bool.true_or]
      exact ⟨rfl, rfl⟩
    · have hcc2 : ¬ (c1 : Int) < c2 := by omega
      simp [hl, hw, plc_raw, hc1, hc2, hcc, hcc2]
      refine .next (i + 1) (by omega) (by simp) rfl hl (by omega) ?_
      simp only [hdr, List.any_cons, hf, hcc, decide_false, Bool.false_or]
  · obtain rfl : i = vs.length := Nat.le_antisymm hi hl
    simp [b46_1]
    refine .fin _ _ ?_
    simp only [List.drop_length, List.any_nil]
    exact .mk
def Rg2End (g : Sg) (v : Int) (fn : ByteArray) (args : List Term) (v2 : Int) (fn2 : ByteArray) (args2 : List Term) (r : Bool) (e : Ex) (t : St) : Prop :=
  AtRet 6 (.d (.bool r)) e t ∨ (r = false ∧ AtExit 2 [.junk, .junk, .junk, .ptr (0, 0) 0 2, .ptr (1, 0) 0 3, .ptr (2, 0) 0 3, .d (.bool false), .junk, .junk, .junk, .junk, .d (.int .i64 args.length), .junk, .junk, .junk, .junk, .junk, .junk, .junk, .junk, .junk, .junk, .junk, .junk, .junk, .junk, .junk, .junk, .junk, .junk, .junk, .junk, .junk, .junk, .junk, .junk, .junk, .junk, .junk, .junk, .junk, .junk, .junk, .junk, .junk, .junk, .junk, .junk, .junk, .junk, .junk, .junk, .junk, .junk, .junk, .junk, .junk, .junk, .junk, .junk, .junk, .junk, .junk, .junk, .junk, .junk, .junk, .junk, .junk, .junk, .junk, .junk, .junk, .junk, .junk, .junk, .junk, .junk, .junk, .junk, .junk, .junk, .junk, .junk, .junk, .junk, .junk, .junk, .junk, .junk, .junk, .junk, .junk, .junk, .junk, .junk, .junk, .junk, .junk, .junk, .junk, .junk]
    (upd (upd (upd (fun _ => none) (0, 0) (.cells [.d (.sl (encS g.names) g.names.length false none), .d (.sl (encI g.weights) g.weights.length false none)])) (1, 0) (.cells [.d (.int .i64 v), .d (.str fn), .d (.sl (encL args) args.length false none)])) (2, 0) (.cells [.d (.int .i64 v2), .d (.str fn2), .d (.sl (encL args2) args.length false none)])) e t)
theorem rg2_loop (g : Sg) (hg : g.ok) (v : Int) (fn : ByteArray) (args : List Term) (v2 : Int) (fn2 : ByteArray) (args2 : List Term) (hn : args.length ≤ 9223372036854775807) (hok : okL args) (hok2 : okL args2) (hlen : args2.length = args.length)
    (ih : ∀ x ∈ args, ∀ y ∈ args2, pcl Cp 46 [.agg g.enc, .agg x.enc, .agg y.enc] = some (.bool (x.rgt g y))) (k : Nat) (hk : 3 ≤ k) :
    ∃ e t, aloop Try.prog plc b46_0 ⟨[false, false, false, true, true, true, true, false, false, false, false, true, false, false, false, false, false, false, false, false, false, false, false, false, false, false, false, false, false, false, false, false, false, false, false, false, false, false, false, false, false, false, false, false, false, false, false, false, false, false, false, false, false, false, false, false, false, false, false, false, false, false, false, false, false, false, false, false, false, false, false, false, false, false, false, false, false, false, false, false, false, false, false, false, false, false, false, false, false, false, false, false, false, false, false, false, false, false, false, false, false, false], some k⟩ ⟨[.junk, .junk, .junk, .ptr (0, 0) 0 2, .ptr (1, 0) 0 3, .ptr (2, 0) 0 3, .d (.bool false), .junk, .junk, .junk, .junk, .d (.int .i64 0), .junk, .junk, .junk, .junk, .junk, .junk, .junk, .junk, .junk, .junk, .junk, .junk, .junk, .junk, .junk, .junk, .junk, .junk, .junk, .junk, .junk, .junk, .junk, .junk, .junk, .junk, .junk, .junk, .junk, .junk, .junk, .junk, .junk, .junk, .junk, .junk, .junk, .junk, .junk, .junk, .junk, .junk, .junk, .junk, .junk, .junk, .junk, .junk, .junk, .junk, .junk, .junk, .junk, .junk, .junk, .junk, .junk, .junk, .junk, .junk, .junk, .junk, .junk, .junk, .junk, .junk, .junk, .junk, .junk, .junk, .junk, .junk, .junk, .junk, .junk, .junk, .junk, .junk, .junk, .junk, .junk, .junk, .junk, .junk, .junk, .junk, .junk, .junk, .junk, .junk],
      upd (upd (upd (fun x => none) (0, 0) (.cells [.d (.sl (encS g.names) g.names.length false none), .d (.sl (encI g.weights) g.weights.length false none)])) (1, 0) (.cells [.d (.int .i64 v), .d (.str fn), .d (.sl (encL args) args.length false none)])) (2, 0) (.cells [.d (.int .i64 v2), .d (.str fn2), .d (.sl (encL args2) args.length false none)]), k⟩ = some (e, t) ∧
      Rg2End g v fn args v2 fn2 args2 (rgtL g args args2) e t := by
  have key := loop_rule (P := Try.prog) (pol := plc) (c := b46_0) (m := ⟨[false, false, false, true, true, true, true, false, false, false, false, true, false, false, false, false, false, false, false, false, false, false, false, false, false, false, false, false, false, false, false, false, false, false, false, false, false, false, false, false, false, false, false, false, false, false, false, false, false, false, false, false, false, false, false, false, false, false, false, false, false, false, false, false, false, false, false, false, false, false, false, false, false, false, false, false, false, false, false, false, false, false, false, false, false, false, false, false, false, false, false, false, false, false, false, false, false, false, false, false, false, false], some k⟩) (b := k) (tm := fun (i : Nat) => [.junk, .junk, .junk, .ptr (0, 0) 0 2, .ptr (1, 0) 0 3, .ptr (2, 0) 0 3, .d (.bool false), .junk, .junk, .junk, .junk, .d (.int .i64 i), .junk, .junk, .junk, .junk, .junk, .junk, .junk, .junk, .junk, .junk, .junk, .junk, .junk, .junk, .junk, .junk, .junk, .junk, .junk, .junk, .junk, .junk, .junk, .junk, .junk, .junk, .junk, .junk, .junk, .junk, .junk, .junk, .junk, .junk, .junk, .junk, .junk, .junk, .junk, .junk, .junk, .junk, .junk, .junk, .junk, .junk, .junk, .junk, .junk, .junk, .junk, .junk, .junk, .junk, .junk, .junk, .junk, .junk, .junk, .junk, .junk, .junk, .junk, .junk, .junk, .junk, .junk, .junk, .junk, .junk, .junk, .junk, .junk, .junk, .junk, .junk, .junk, .junk, .junk, .junk, .junk, .junk, .junk, .junk, .junk, .junk, .junk, .junk, .junk, .junk])
    (Hf := fun _ => upd (upd (upd (fun x => none) (0, 0) (.cells [.d (.sl (encS g.names) g.names.length false none), .d (.sl (encI g.weights) g.weights.length false none)])) (1, 0) (.cells [.d (.int .i64 v), .d (.str fn), .d (.sl (encL args) args.length false none)])) (2, 0) (.cells [.d (.int .i64 v2), .d (.str fn2), .d (.sl (encL args2) args.length false none)]))
    (I := fun i => i ≤ args.length) (μ := fun i => args.length - i) (res := fun i => rgtL g (args.drop i) (args2.drop i)) (R := Rg2End g v fn args v2 fn2 args2)
    (fun i nx hi => by
      have hk0 : 0 < k := by omega
      have hk1 : 1 < k := by omega
      have hk2 : 2 < k := by omega
      rcases Nat.lt_or_ge i args.length with hl | hl
      · obtain ⟨v', fn', args', a⟩ := at_ok hn hl
        obtain ⟨v2', fn2', args2', b⟩ := at_ok (ts := args2) (by omega) (i := i) (by omega)
        have hc := rsame_ok _ (okL_mem hok _ a.mem) _ (okL_mem hok2 _ b.mem)
        have hc2 := ih _ a.mem _ b.mem
        have b1 := b.lti
        have b2 := b.sz
        have b3 := b.ltm
        have b5 := b.le3
        simp only [hlen] at b1 b2 b3 b5
        have hres : rgtL g (args.drop i) (args2.drop i) = if (Term.mk v' fn' args').sameB (.mk v2' fn2' args2') then rgtL g (args.drop (i + 1)) (args2.drop (i + 1)) else (Term.mk v' fn' args').rgt g (.mk v2' fn2' args2') := by
          rw [a.dr, b.dr]; rfl
        generalize (Term.mk v' fn' args').sameB (.mk v2' fn2' args2') = sm at hc hres
        generalize (Term.mk v' fn' args').rgt g (.mk v2' fn2' args2') = r at hc2 hres
        simp [Term.enc, Sg.enc] at hc hc2
        conv => arg 9; arg 4; unfold b46_0
        cases sm
        · simp [a.lti, a.sz, a.ltm, a.cells, a.le3, b1, b2, b3, b.cells, b5, plc_raw, a.w, hc, hc2, hk0, hk1, hk2]
          refine .fin _ _ ?_
          simp only [hres]
          exact .inl ⟨rfl, rfl⟩
        · simp [a.lti, a.sz, a.ltm, a.cells, a.le3, b1, b2, b3, b.cells, b5, plc_raw, a.w, hc, hc2, hk0, hk1, hk2]
          refine .next (i + 1) (by omega) (by simp) rfl hl (by omega) ?_
          simp only [hres]; rfl
      · obtain rfl : i = args.length := Nat.le_antisymm hi hl
        simp [b46_0, hk0, hk1, hk2]
        refine .fin _ _ ?_
        simp only [List.drop_length, rgtL]
        exact .inr ⟨rfl, .mk⟩) 0 (Nat.zero_le _)
  simpa using key
theorem rgreater_ok (g : Sg) (hg : g.ok) (t : Term) : t.ok → t.size ≤ 1048576 → ∀ u : Term, u.ok → u.size ≤ 1048576 → pcl Cp 46 [.agg g.enc, .agg t.enc, .agg u.enc] = some (.bool (t.rgt g u)) := by
  refine Term.ind (p := fun t => t.ok → t.size ≤ 1048576 → ∀ u : Term, u.ok → u.size ≤ 1048576 → pcl Cp 46 [.agg g.enc, .agg t.enc, .agg u.enc] = some (.bool (t.rgt g u))) (fun v fn args ih h hs u hu hus => ?_) t
  obtain ⟨v2, fn2, args2⟩ := u
  obtain ⟨nl, hvars⟩ := rVars_ok _ hu (by omega)
  have hvl := varsW_len (.mk v2 fn2 args2) []
  simp only [List.length_nil, Nat.zero_add] at hvl
  have hw1 := rweight_ok g hg _ h hs
  have hw2 := rweight_ok g hg _ hu hus
  have hsy := rsymbol_ok g hg v fn args v2 fn2 args2
  have hrr : (Term.mk v fn args).rgt g (.mk v2 fn2 args2) = (if ((Term.mk v2 fn2 args2).varsW []).any (fewer (.mk v fn args) (.mk v2 fn2 args2)) then false
    else if (Term.mk v fn args).wt g ≠ (Term.mk v2 fn2 args2).wt g then decide ((Term.mk v fn args).wt g > (Term.mk v2 fn2 args2).wt g)
    else if fn.toList = [] ∨ fn2.toList = [] then false
    else if fn.toList ≠ fn2.toList ∨ args.length ≠ args2.length then g.symR fn fn2 args.length args2.length
    else rgtL g args args2) := by simp only [Term.rgt]
  rw [hrr]
  clear hrr
  generalize (Term.mk v2 fn2 args2).varsW [] = vs at hvars hvl ⊢
  obtain ⟨e, t, hrun, hend⟩ := rg1_loop g v fn args v2 fn2 args2 h hu hs hus vs nl (by omega)
  generalize vs.any (fewer (.mk v fn args) (.mk v2 fn2 args2)) = bad at hend ⊢
  generalize (Term.mk v fn args).wt g = W1 at hw1 ⊢
  generalize (Term.mk v2 fn2 args2).wt g = W2 at hw2 ⊢
  simp [Term.enc, Sg.enc] at hvars hw1 hw2 hsy hrun
  refine pcl_body code46 ?_
  cases bad
  · obtain ⟨rfl, nx, rfl⟩ := hend
    by_cases hw : W1 = W2
    · subst hw
      by_cases hv1 : fn.toList = []
      · simp [Term.enc, Sg.enc, plc_raw, hvars, hrun, hw1, hw2, hv1]
      by_cases hv2 : fn2.toList = []
      · simp [Term.enc, Sg.enc, plc_raw, hvars, hrun, hw1, hw2, hv1, hv2]
      by_cases hf : fn.toList = fn2.toList
      · by_cases hl : args.length = args2.length
        · simp only [Term.enc]
          have hl2 := hl.symm
          simp only [Term.size] at hs hus
          have h2loop := rg2_loop g hg v fn args v2 fn2 args2 h.1 h.2 hu.2 hl2 (fun x hx y hy => ih x hx (okL_mem h.2 _ hx) (by have := sizeL_mem hx; omega) y (okL_mem hu.2 _ hy) (by have := sizeL_mem hy; omega))
          clear hl ih hu hus h hs
          generalize args2.length = nl2 at *
          subst hl2
          obtain ⟨e2, t2, hrun2, hend2⟩ := h2loop (nx + 8 + 3 + 8 + 14 + 1) (by omega)
          generalize rgtL g args args2 = r at hend2 ⊢
          rcases hend2 with ⟨rfl, hv⟩ | ⟨rfl, rfl, nx2, rfl⟩
          · simp [Term.enc, Sg.enc, plc_raw, hvars, hrun, hw1, hw2, hv1, hv2, hf, hrun2, hv]
          · simp [Term.enc, Sg.enc, plc_raw, hvars, hrun, hw1, hw2, hv1, hv2, hf, hrun2]
        · have hli : ¬ (args.length : Int) = args2.length := by omega
          simp [Term.enc, Sg.enc, plc_raw, hvars, hrun, hw1, hw2, hv1, hv2, hf, hl, hli, hsy]
      · simp [Term.enc, Sg.enc, plc_raw, hvars, hrun, hw1, hw2, hv1, hv2, hf, hsy]
    · simp [Term.enc, Sg.enc, plc_raw, hvars, hrun, hw1, hw2, hw]
  · obtain ⟨rfl, hv⟩ := hend
    simp [Term.enc, Sg.enc, plc_raw, hvars, hrun, hv]
end Go.Proofs.Ytfcedichoigbbaa.Am

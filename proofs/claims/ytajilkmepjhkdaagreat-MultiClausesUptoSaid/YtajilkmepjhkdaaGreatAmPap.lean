/-
  Joined texts: AmRg, AmKd, AmKe, AmKq, AmLm, AmLh, AmLi, AmLj, AmLu, AmKr, AmKs, AmLv, AmLq, AmLy, AmLz, AmLa, AmLb, AmNa. No condition.
-/
import Derived.Test.YtajilkmepjhkdaaGreatAmPao
/-
 The document's order of Knuth and Bendix: its function. No condition.
-/
namespace Go.Proofs.YtajilkmepjhkdaaGreat.Am
open Go Go.Proofs
set_option maxHeartbeats 4000000
set_option linter.unusedSimpArgs false
set_option linter.unusedVariables false
def fewer (t u : Term) (x : Int) : Bool := decide (t.occ.count x < u.occ.count x)
mutual
def Term.rgt (g : Sg) : Term → Term → Bool
 | .mk v1 f1 a1, .mk v2 f2 a2 =>
  if ((Term.mk v2 f2 a2).varsW []).any (fewer (.mk v1 f1 a1) (.mk v2 f2 a2)) then false
  else if (Term.mk v1 f1 a1).wt g ≠ (Term.mk v2 f2 a2).wt g then decide ((Term.mk v1 f1 a1).wt g > (Term.mk v2 f2 a2).wt g)
  else if f1.toList = [] ∨ f2.toList = [] then false
  else if f1.toList ≠ f2.toList ∨ a1.length ≠ a2.length then g.symR f1 f2 a1.length a2.length
  else rgtL g a1 a2
def rgtL (g : Sg) : List Term → List Term → Bool
 | t :: r, u :: s => if t.sameB u then rgtL g r s else t.rgt g u
 | _, _ => false
end
abbrev kH (g : Sg) (t u : Term) : Hp := upd (upd (upd (fun _ => none) (0, 0) (.cells (g.enc.map .d))) (1, 0) (.cells (t.enc.map .d))) (2, 0) (.cells (u.enc.map .d))
def Rg1End (g : Sg) (v : Int) (fn : ByteArray) (args : List Term) (v2 : Int) (fn2 : ByteArray) (args2 : List Term) (vs : List Int) (nl : Option Bool) (r : Bool) (e : Ex) (t : St) : Prop :=
 if r then AtRet 6 (.d (.bool false)) e t else AtExit 0 [.junk, .junk, .junk, .ptr (0, 0) 0 2, .ptr (1, 0) 0 3, .ptr (2, 0) 0 3, .d (.bool false), .d (.sl (encI vs) vs.length false nl), .d (.int .i64 vs.length), .junk, .junk, .junk, .junk, .junk, .junk, .junk, .junk, .junk, .junk, .junk, .junk, .junk, .junk, .junk, .junk, .junk, .junk, .junk, .junk, .junk, .junk, .junk, .junk, .junk, .junk, .junk, .junk, .junk, .junk, .junk, .junk, .junk, .junk, .junk, .junk, .junk, .junk, .junk, .junk, .junk, .junk, .junk, .junk, .junk, .junk, .junk, .junk, .junk, .junk, .junk, .junk, .junk, .junk, .junk, .junk, .junk, .junk, .junk, .junk, .junk, .junk, .junk, .junk, .junk, .junk, .junk, .junk, .junk, .junk, .junk, .junk, .junk, .junk, .junk, .junk, .junk, .junk, .junk, .junk, .junk, .junk, .junk, .junk, .junk, .junk, .junk, .junk, .junk, .junk, .junk, .junk, .junk]
  (upd (upd (upd (fun _ => none) (0, 0) (.cells [.d (.sl (encS g.names) g.names.length false none), .d (.sl (encI g.weights) g.weights.length false none)])) (1, 0) (.cells [.d (.int .i64 v), .d (.str fn), .d (.sl (encL args) args.length false none)])) (2, 0) (.cells [.d (.int .i64 v2), .d (.str fn2), .d (.sl (encL args2) args2.length false none)])) e t
theorem rg1_loop (g : Sg) (v : Int) (fn : ByteArray) (args : List Term) (v2 : Int) (fn2 : ByteArray) (args2 : List Term) (h : (Term.mk v fn args).ok) (h2 : (Term.mk v2 fn2 args2).ok) (hs : (Term.mk v fn args).size ≤ 1048576) (hs2 : (Term.mk v2 fn2 args2).size ≤ 1048576)
  (vs : List Int) (nl : Option Bool) (hvs : vs.length ≤ 1048576) :
  ∃ e t, aloop Tryz.prog plc b95_1 ⟨[false, false, false, true, true, true, true, true, true, true, true, true, false, false, false, false, false, false, false, false, false, false, false, false, false, false, false, false, false, false, false, false, false, true, true, true, true, true, true, true, true, true, true, true, true, true, true, true, true, true, true, true, true, true, true, true, true, true, true, true, true, true, true, true, true, true, true, true, true, true, true, true, true, true, true, true, true, true, true, true, true, true, true, true, true, true, true, true, true, true, true, true, true, true, true, true, true, true, true, true, true, true], some 8⟩ ⟨[.junk, .junk, .junk, .ptr (0, 0) 0 2, .ptr (1, 0) 0 3, .ptr (2, 0) 0 3, .d (.bool false), .d (.sl (encI vs) vs.length false nl), .d (.int .i64 0), .junk, .junk, .junk, .junk, .junk, .junk, .junk, .junk, .junk, .junk, .junk, .junk, .junk, .junk, .junk, .junk, .junk, .junk, .junk, .junk, .junk, .junk, .junk, .junk, .junk, .junk, .junk, .junk, .junk, .junk, .junk, .junk, .junk, .junk, .junk, .junk, .junk, .junk, .junk, .junk, .junk, .junk, .junk, .junk, .junk, .junk, .junk, .junk, .junk, .junk, .junk, .junk, .junk, .junk, .junk, .junk, .junk, .junk, .junk, .junk, .junk, .junk, .junk, .junk, .junk, .junk, .junk, .junk, .junk, .junk, .junk, .junk, .junk, .junk, .junk, .junk, .junk, .junk, .junk, .junk, .junk, .junk, .junk, .junk, .junk, .junk, .junk, .junk, .junk, .junk, .junk, .junk, .junk],
   upd (upd (upd (fun x => none) (0, 0) (.cells [.d (.sl (encS g.names) g.names.length false none), .d (.sl (encI g.weights) g.weights.length false none)])) (1, 0) (.cells [.d (.int .i64 v), .d (.str fn), .d (.sl (encL args) args.length false none)])) (2, 0) (.cells [.d (.int .i64 v2), .d (.str fn2), .d (.sl (encL args2) args2.length false none)]), 8⟩ = some (e, t) ∧
   Rg1End g v fn args v2 fn2 args2 vs nl (vs.any (fewer (.mk v fn args) (.mk v2 fn2 args2))) e t := by
 refine loop_rule (b := 8) (tm := fun (i : Nat) => [.junk, .junk, .junk, .ptr (0, 0) 0 2, .ptr (1, 0) 0 3, .ptr (2, 0) 0 3, .d (.bool false), .d (.sl (encI vs) vs.length false nl), .d (.int .i64 i), .junk, .junk, .junk, .junk, .junk, .junk, .junk, .junk, .junk, .junk, .junk, .junk, .junk, .junk, .junk, .junk, .junk, .junk, .junk, .junk, .junk, .junk, .junk, .junk, .junk, .junk, .junk, .junk, .junk, .junk, .junk, .junk, .junk, .junk, .junk, .junk, .junk, .junk, .junk, .junk, .junk, .junk, .junk, .junk, .junk, .junk, .junk, .junk, .junk, .junk, .junk, .junk, .junk, .junk, .junk, .junk, .junk, .junk, .junk, .junk, .junk, .junk, .junk, .junk, .junk, .junk, .junk, .junk, .junk, .junk, .junk, .junk, .junk, .junk, .junk, .junk, .junk, .junk, .junk, .junk, .junk, .junk, .junk, .junk, .junk, .junk, .junk, .junk, .junk, .junk, .junk, .junk, .junk])
  (Hf := fun _ => upd (upd (upd (fun x => none) (0, 0) (.cells [.d (.sl (encS g.names) g.names.length false none), .d (.sl (encI g.weights) g.weights.length false none)])) (1, 0) (.cells [.d (.int .i64 v), .d (.str fn), .d (.sl (encL args) args.length false none)])) (2, 0) (.cells [.d (.int .i64 v2), .d (.str fn2), .d (.sl (encL args2) args2.length false none)]))
  (I := fun i => i ≤ vs.length) (μ := fun i => vs.length - i) (res := fun i => (vs.drop i).any (fewer (.mk v fn args) (.mk v2 fn2 args2))) (R := Rg1End g v fn args v2 fn2 args2 vs nl)
  (fun i nx hi => ?_) 0 (Nat.zero_le _)
 rcases Nat.lt_or_ge i vs.length with hl | hl
 ·have hw : IntKind.i64.wrap ((i : Int) + 1) = (i : Int) + 1 := wrap_i64 (by omega) (by omega)
  have hdr := List.drop_eq_getElem_cons hl
  have hc1 := rcount_ok vs[i] _ h hs
  have hc2 := rcount_ok vs[i] _ h2 hs2
  have hf : fewer (.mk v fn args) (.mk v2 fn2 args2) vs[i] = decide ((Term.mk v fn args).occ.count vs[i] < (Term.mk v2 fn2 args2).occ.count vs[i]) := rfl
  generalize (Term.mk v fn args).occ.count vs[i] = c1 at hc1 hf
  generalize (Term.mk v2 fn2 args2).occ.count vs[i] = c2 at hc2 hf
  simp [Term.enc] at hc1 hc2
  conv => arg 9; arg 4; unfold b95_1
  by_cases hcc : c1 < c2
  ·have hcc2 : (c1 : Int) < c2 := by omega
   simp [hl, hw, plc_raw, hc1, hc2, hcc, hcc2]
   refine .fin _ _ ?_
   simp only [hdr, List.any_cons, hf, hcc, decide_true, Bool.true_or]
   exact ⟨rfl, rfl⟩
  ·have hcc2 : ¬ (c1 : Int) < c2 := by omega
   simp [hl, hw, plc_raw, hc1, hc2, hcc, hcc2]
   refine .next (i + 1) (by omega) (by simp) rfl hl (by omega) ?_
   simp only [hdr, List.any_cons, hf, hcc, decide_false, Bool.false_or]
 ·obtain rfl : i = vs.length := Nat.le_antisymm hi hl
  simp [b95_1]
  refine .fin _ _ ?_
  simp only [List.drop_length, List.any_nil]
  exact .mk
def Rg2End (g : Sg) (v : Int) (fn : ByteArray) (args : List Term) (v2 : Int) (fn2 : ByteArray) (args2 : List Term) (r : Bool) (e : Ex) (t : St) : Prop :=
 AtRet 6 (.d (.bool r)) e t ∨ (r = false ∧ AtExit 2 [.junk, .junk, .junk, .ptr (0, 0) 0 2, .ptr (1, 0) 0 3, .ptr (2, 0) 0 3, .d (.bool false), .junk, .junk, .junk, .junk, .d (.int .i64 args.length), .junk, .junk, .junk, .junk, .junk, .junk, .junk, .junk, .junk, .junk, .junk, .junk, .junk, .junk, .junk, .junk, .junk, .junk, .junk, .junk, .junk, .junk, .junk, .junk, .junk, .junk, .junk, .junk, .junk, .junk, .junk, .junk, .junk, .junk, .junk, .junk, .junk, .junk, .junk, .junk, .junk, .junk, .junk, .junk, .junk, .junk, .junk, .junk, .junk, .junk, .junk, .junk, .junk, .junk, .junk, .junk, .junk, .junk, .junk, .junk, .junk, .junk, .junk, .junk, .junk, .junk, .junk, .junk, .junk, .junk, .junk, .junk, .junk, .junk, .junk, .junk, .junk, .junk, .junk, .junk, .junk, .junk, .junk, .junk, .junk, .junk, .junk, .junk, .junk, .junk]
  (upd (upd (upd (fun _ => none) (0, 0) (.cells [.d (.sl (encS g.names) g.names.length false none), .d (.sl (encI g.weights) g.weights.length false none)])) (1, 0) (.cells [.d (.int .i64 v), .d (.str fn), .d (.sl (encL args) args.length false none)])) (2, 0) (.cells [.d (.int .i64 v2), .d (.str fn2), .d (.sl (encL args2) args.length false none)])) e t)
theorem rg2_loop (g : Sg) (hg : g.ok) (v : Int) (fn : ByteArray) (args : List Term) (v2 : Int) (fn2 : ByteArray) (args2 : List Term) (hn : args.length ≤ 9223372036854775807) (hok : okL args) (hok2 : okL args2) (hlen : args2.length = args.length)
  (ih : ∀ x ∈ args, ∀ y ∈ args2, pcl Cp 95 [.agg g.enc, .agg x.enc, .agg y.enc] = some (.bool (x.rgt g y))) (k : Nat) (hk : 3 ≤ k) :
  ∃ e t, aloop Tryz.prog plc b95_0 ⟨[false, false, false, true, true, true, true, false, false, false, false, true, false, false, false, false, false, false, false, false, false, false, false, false, false, false, false, false, false, false, false, false, false, false, false, false, false, false, false, false, false, false, false, false, false, false, false, false, false, false, false, false, false, false, false, false, false, false, false, false, false, false, false, false, false, false, false, false, false, false, false, false, false, false, false, false, false, false, false, false, false, false, false, false, false, false, false, false, false, false, false, false, false, false, false, false, false, false, false, false, false, false], some k⟩ ⟨[.junk, .junk, .junk, .ptr (0, 0) 0 2, .ptr (1, 0) 0 3, .ptr (2, 0) 0 3, .d (.bool false), .junk, .junk, .junk, .junk, .d (.int .i64 0), .junk, .junk, .junk, .junk, .junk, .junk, .junk, .junk, .junk, .junk, .junk, .junk, .junk, .junk, .junk, .junk, .junk, .junk, .junk, .junk, .junk, .junk, .junk, .junk, .junk, .junk, .junk, .junk, .junk, .junk, .junk, .junk, .junk, .junk, .junk, .junk, .junk, .junk, .junk, .junk, .junk, .junk, .junk, .junk, .junk, .junk, .junk, .junk, .junk, .junk, .junk, .junk, .junk, .junk, .junk, .junk, .junk, .junk, .junk, .junk, .junk, .junk, .junk, .junk, .junk, .junk, .junk, .junk, .junk, .junk, .junk, .junk, .junk, .junk, .junk, .junk, .junk, .junk, .junk, .junk, .junk, .junk, .junk, .junk, .junk, .junk, .junk, .junk, .junk, .junk],
   upd (upd (upd (fun x => none) (0, 0) (.cells [.d (.sl (encS g.names) g.names.length false none), .d (.sl (encI g.weights) g.weights.length false none)])) (1, 0) (.cells [.d (.int .i64 v), .d (.str fn), .d (.sl (encL args) args.length false none)])) (2, 0) (.cells [.d (.int .i64 v2), .d (.str fn2), .d (.sl (encL args2) args.length false none)]), k⟩ = some (e, t) ∧
   Rg2End g v fn args v2 fn2 args2 (rgtL g args args2) e t := by
 have key := loop_rule (P := Tryz.prog) (pol := plc) (c := b95_0) (m := ⟨[false, false, false, true, true, true, true, false, false, false, false, true, false, false, false, false, false, false, false, false, false, false, false, false, false, false, false, false, false, false, false, false, false, false, false, false, false, false, false, false, false, false, false, false, false, false, false, false, false, false, false, false, false, false, false, false, false, false, false, false, false, false, false, false, false, false, false, false, false, false, false, false, false, false, false, false, false, false, false, false, false, false, false, false, false, false, false, false, false, false, false, false, false, false, false, false, false, false, false, false, false, false], some k⟩) (b := k) (tm := fun (i : Nat) => [.junk, .junk, .junk, .ptr (0, 0) 0 2, .ptr (1, 0) 0 3, .ptr (2, 0) 0 3, .d (.bool false), .junk, .junk, .junk, .junk, .d (.int .i64 i), .junk, .junk, .junk, .junk, .junk, .junk, .junk, .junk, .junk, .junk, .junk, .junk, .junk, .junk, .junk, .junk, .junk, .junk, .junk, .junk, .junk, .junk, .junk, .junk, .junk, .junk, .junk, .junk, .junk, .junk, .junk, .junk, .junk, .junk, .junk, .junk, .junk, .junk, .junk, .junk, .junk, .junk, .junk, .junk, .junk, .junk, .junk, .junk, .junk, .junk, .junk, .junk, .junk, .junk, .junk, .junk, .junk, .junk, .junk, .junk, .junk, .junk, .junk, .junk, .junk, .junk, .junk, .junk, .junk, .junk, .junk, .junk, .junk, .junk, .junk, .junk, .junk, .junk, .junk, .junk, .junk, .junk, .junk, .junk, .junk, .junk, .junk, .junk, .junk, .junk])
  (Hf := fun _ => upd (upd (upd (fun x => none) (0, 0) (.cells [.d (.sl (encS g.names) g.names.length false none), .d (.sl (encI g.weights) g.weights.length false none)])) (1, 0) (.cells [.d (.int .i64 v), .d (.str fn), .d (.sl (encL args) args.length false none)])) (2, 0) (.cells [.d (.int .i64 v2), .d (.str fn2), .d (.sl (encL args2) args.length false none)]))
  (I := fun i => i ≤ args.length) (μ := fun i => args.length - i) (res := fun i => rgtL g (args.drop i) (args2.drop i)) (R := Rg2End g v fn args v2 fn2 args2)
  (fun i nx hi => by
   have hk0 : 0 < k := by omega
   have hk1 : 1 < k := by omega
   have hk2 : 2 < k := by omega
   rcases Nat.lt_or_ge i args.length with hl | hl
   ·obtain ⟨v', fn', args', a⟩ := at_ok hn hl
    obtain ⟨v2', fn2', args2', b⟩ := at_ok (ts := args2) (by omega) (i := i) (by omega)
    have hc := rsame_ok _ (okL_mem hok _ a.mem) _ (okL_mem hok2 _ b.mem)
    have hc2 := ih _ a.mem _ b.mem
    have b1 := b.lti
    have b2 := b.sz
    have b3 := b.ltm
    have b5 := b.le3
    simp only [hlen] at b1 b2 b3 b5
    have hres : rgtL g (args.drop i) (args2.drop i) = if (Term.mk v' fn' args').sameB (.mk v2' fn2' args2') then rgtL g (args.drop (i + 1)) (args2.drop (i + 1)) else (Term.mk v' fn' args').rgt g (.mk v2' fn2' args2') := by
     rw [a.dr, b.dr]; rfl
    generalize (Term.mk v' fn' args').sameB (.mk v2' fn2' args2') = sm at hc hres
    generalize (Term.mk v' fn' args').rgt g (.mk v2' fn2' args2') = r at hc2 hres
    simp [Term.enc, Sg.enc] at hc hc2
    conv => arg 9; arg 4; unfold b95_0
    cases sm
    ·simp [a.lti, a.sz, a.ltm, a.cells, a.le3, b1, b2, b3, b.cells, b5, plc_raw, a.w, hc, hc2, hk0, hk1, hk2]
     refine .fin _ _ ?_
     simp only [hres]
     exact .inl ⟨rfl, rfl⟩
    ·simp [a.lti, a.sz, a.ltm, a.cells, a.le3, b1, b2, b3, b.cells, b5, plc_raw, a.w, hc, hc2, hk0, hk1, hk2]
     refine .next (i + 1) (by omega) (by simp) rfl hl (by omega) ?_
     simp only [hres]; rfl
   ·obtain rfl : i = args.length := Nat.le_antisymm hi hl
    simp [b95_0, hk0, hk1, hk2]
    refine .fin _ _ ?_
    simp only [List.drop_length, rgtL]
    exact .inr ⟨rfl, .mk⟩) 0 (Nat.zero_le _)
 simpa using key
theorem rgreater_ok (g : Sg) (hg : g.ok) (t : Term) : t.ok → t.size ≤ 1048576 → ∀ u : Term, u.ok → u.size ≤ 1048576 → pcl Cp 95 [.agg g.enc, .agg t.enc, .agg u.enc] = some (.bool (t.rgt g u)) := by
 refine Term.ind (p := fun t => t.ok → t.size ≤ 1048576 → ∀ u : Term, u.ok → u.size ≤ 1048576 → pcl Cp 95 [.agg g.enc, .agg t.enc, .agg u.enc] = some (.bool (t.rgt g u))) (fun v fn args ih h hs u hu hus => ?_) t
 obtain ⟨v2, fn2, args2⟩ := u
 obtain ⟨nl, hvars⟩ := rVars_ok _ hu (by omega)
 have hvl := varsW_len (.mk v2 fn2 args2) []
 simp only [List.length_nil, Nat.zero_add] at hvl
 have hw1 := rweight_ok g hg _ h hs
 have hw2 := rweight_ok g hg _ hu hus
 have hsy := rsymbol_ok g hg v fn args v2 fn2 args2
 have hrr : (Term.mk v fn args).rgt g (.mk v2 fn2 args2) = (if ((Term.mk v2 fn2 args2).varsW []).any (fewer (.mk v fn args) (.mk v2 fn2 args2)) then false
  else if (Term.mk v fn args).wt g ≠ (Term.mk v2 fn2 args2).wt g then decide ((Term.mk v fn args).wt g > (Term.mk v2 fn2 args2).wt g)
  else if fn.toList = [] ∨ fn2.toList = [] then false
  else if fn.toList ≠ fn2.toList ∨ args.length ≠ args2.length then g.symR fn fn2 args.length args2.length
  else rgtL g args args2) := by simp only [Term.rgt]
 rw [hrr]
 clear hrr
 generalize (Term.mk v2 fn2 args2).varsW [] = vs at hvars hvl ⊢
 obtain ⟨e, t, hrun, hend⟩ := rg1_loop g v fn args v2 fn2 args2 h hu hs hus vs nl (by omega)
 generalize vs.any (fewer (.mk v fn args) (.mk v2 fn2 args2)) = bad at hend ⊢
 generalize (Term.mk v fn args).wt g = W1 at hw1 ⊢
 generalize (Term.mk v2 fn2 args2).wt g = W2 at hw2 ⊢
 simp [Term.enc, Sg.enc] at hvars hw1 hw2 hsy hrun
 refine pcl_body code95 ?_
 cases bad
 ·obtain ⟨rfl, nx, rfl⟩ := hend
  by_cases hw : W1 = W2
  ·subst hw
   by_cases hv1 : fn.toList = []
   ·simp [Term.enc, Sg.enc, plc_raw, hvars, hrun, hw1, hw2, hv1]
   by_cases hv2 : fn2.toList = []
   ·simp [Term.enc, Sg.enc, plc_raw, hvars, hrun, hw1, hw2, hv1, hv2]
   by_cases hf : fn.toList = fn2.toList
   ·by_cases hl : args.length = args2.length
    ·simp only [Term.enc]
     have hl2 := hl.symm
     simp only [Term.size] at hs hus
     have h2loop := rg2_loop g hg v fn args v2 fn2 args2 h.1 h.2 hu.2 hl2 (fun x hx y hy => ih x hx (okL_mem h.2 _ hx) (by have := sizeL_mem hx; omega) y (okL_mem hu.2 _ hy) (by have := sizeL_mem hy; omega))
     clear hl ih hu hus h hs
     generalize args2.length = nl2 at *
     subst hl2
     obtain ⟨e2, t2, hrun2, hend2⟩ := h2loop (nx + 8 + 3 + 8 + 14 + 1) (by omega)
     generalize rgtL g args args2 = r at hend2 ⊢
     rcases hend2 with ⟨rfl, hv⟩ | ⟨rfl, rfl, nx2, rfl⟩
     ·simp [Term.enc, Sg.enc, plc_raw, hvars, hrun, hw1, hw2, hv1, hv2, hf, hrun2, hv]
     ·simp [Term.enc, Sg.enc, plc_raw, hvars, hrun, hw1, hw2, hv1, hv2, hf, hrun2]
    ·have hli : ¬ (args.length : Int) = args2.length := by omega
     simp [Term.enc, Sg.enc, plc_raw, hvars, hrun, hw1, hw2, hv1, hv2, hf, hl, hli, hsy]
   ·simp [Term.enc, Sg.enc, plc_raw, hvars, hrun, hw1, hw2, hv1, hv2, hf, hsy]
  ·simp [Term.enc, Sg.enc, plc_raw, hvars, hrun, hw1, hw2, hw]
 ·obtain ⟨rfl, hv⟩ := hend
  simp [Term.enc, Sg.enc, plc_raw, hvars, hrun, hv]
end Go.Proofs.YtajilkmepjhkdaaGreat.Am

/-
 The order of Knuth and Bendix: the program's function computes it. No condition.
-/
namespace Go.Proofs.YtajilkmepjhkdaaGreat.Am
open Go Go.Proofs
set_option maxHeartbeats 4000000
set_option linter.unusedSimpArgs false
theorem firstL_some : ∀ (a b : List Term), a.length = b.length → sameBL a b = false → ∃ i, firstL a b = some i ∧ i < a.length
 | [], [], _, h => by simp [sameBL] at h
 | [], _ :: _, hl, _ => by simp at hl
 | _ :: _, [], hl, _ => by simp at hl
 | t :: r, u :: s, hl, h => by
  by_cases hs : t.sameB u = true
  ·simp only [sameBL, hs, Bool.true_and] at h
   obtain ⟨i, hi, hl2⟩ := firstL_some r s (by simpa using hl) h
   exact ⟨i + 1, by simp [firstL, hs, hi], by simp; omega⟩
  ·exact ⟨0, by simp [firstL, hs], by simp⟩
theorem shapeB_v {v : Int} {fn : ByteArray} {args : List Term} (h : (Term.mk v fn args).shapeB = true) (hv : fn.toList ≠ []) : v = 0 := by
 have hn : noName fn = false := by simp [noName, hv]
 simp [Term.shapeB, rightB, hn] at h
 exact h.1.1.1
theorem shapeBL_mem : ∀ {ts : List Term}, shapeBL ts = true → ∀ x ∈ ts, x.shapeB = true
 | [], _, x, hx => by simp at hx
 | t :: r, h, x, hx => by
  simp only [shapeBL, Bool.and_eq_true] at h
  rcases List.mem_cons.1 hx with e | hx
  ·exact e ▸ h.1
  ·exact shapeBL_mem h.2 x hx
theorem compare_ok (g : Sg) (hg : g.ok) (t : Term) : t.ok → t.shapeB = true → ∀ u : Term, u.ok → u.shapeB = true → pcl Cp 54 [.agg g.enc, .agg t.enc, .agg u.enc] = some (.int .i64 (t.kcmp g u)) := by
 refine Term.ind (p := fun t => t.ok → t.shapeB = true → ∀ u : Term, u.ok → u.shapeB = true → pcl Cp 54 [.agg g.enc, .agg t.enc, .agg u.enc] = some (.int .i64 (t.kcmp g u))) (fun v fn args ih h hs => ?_) t
 intro u hu hus
 obtain ⟨v2, fn2, args2⟩ := u
 have hsame := same_ok _ h _ hu
 refine pcl_body code54 ?_
 by_cases hq : (Term.mk v fn args).sameB (.mk v2 fn2 args2) = true
 ·rw [hq] at hsame
  simp [Term.enc] at hsame
  simp [Term.enc, Sg.enc, plc_raw, hsame]
  simp only [Term.kcmp, if_pos hq]
 ·simp only [Bool.not_eq_true] at hq
  rw [hq] at hsame
  simp [Term.enc] at hsame
  obtain ⟨q1, hc1, hn1, ho1, hf1⟩ := load_ok g hg 1 (7, 0) _ h [] (upd (upd (upd (upd (fun _ => none) (0, 0) (.cells [.d (.sl (encS g.names) g.names.length false none), .d (.sl (encI g.weights) g.weights.length false none)]))
   (1, 0) (.cells [.d (.int .i64 v), .d (.str fn), .d (.sl (encL args) args.length false none)])) (2, 0) (.cells [.d (.int .i64 v2), .d (.str fn2), .d (.sl (encL args2) args2.length false none)]))
   (7, 0) (.mp (false, [.int .i64]) [] 0)) 19 (by decide) (by simp [encM, encMi])
  obtain ⟨H1, n1⟩ := q1
  simp only at hc1 hn1 ho1 hf1
  have hH10 := hf1 (0, 0) (by simp) (by simp)
  have hH11 := hf1 (1, 0) (by simp) (by simp)
  have hH12 := hf1 (2, 0) (by simp) (by simp)
  obtain ⟨q2, hc2, hn2, ho2, hf2⟩ := load_ok g hg (-1) (7, 0) _ hu ((Term.mk v fn args).loadW g 1 []).2 H1 n1 (by simp; omega) ho1
  obtain ⟨H2, n2⟩ := q2
  simp only at hc2 hn2 ho2 hf2
  have hH20 := (hf2 (0, 0) (by simp; omega) (by simp)).trans hH10
  have hH21 := (hf2 (1, 0) (by simp; omega) (by simp)).trans hH11
  have hH22 := (hf2 (2, 0) (by simp; omega) (by simp)).trans hH12
  have hhole := holeG_ok (nx := n2) ho2
  clear hf1 hf2
  have hn17 : 7 < n1 := by omega
  generalize hX1 : ((Term.mk v fn args).loadW g 1 []).1 = X1 at *
  generalize hM1 : ((Term.mk v fn args).loadW g 1 []).2 = M1 at *
  generalize hX2 : ((Term.mk v2 fn2 args2).loadW g (-1) M1).1 = X2 at *
  generalize hM2 : ((Term.mk v2 fn2 args2).loadW g (-1) M1).2 = M2 at *
  simp [Term.enc, Sg.enc, encM, encMi] at hc1 hc2 ho1 ho2 hH10 hH11 hH12 hH20 hH21 hH22
  have hhole := fun (nx : Nat) => holeG_ok (nx := nx) (m := M2) (by simpa only [encM] using ho2)
  have hex : ∀ (c : Code) (st : St), exec Tryz.prog plc (acall Tryz.prog plc) (aloop Tryz.prog plc) (.hole c) st = (plc.hole c).bind fun g => g st := fun _ _ => rfl
  have hk : Term.kcmp g (Term.mk v fn args) (Term.mk v2 fn2 args2) = (fun out : Int => if (out = 1 ∧ M2.any (fun q => decide (q.2 < 0)) = true) ∨ (out = -1 ∧ M2.any (fun q => decide (0 < q.2)) = true) then 2 else out)
    (if 0 < IntKind.i64.wrap (X1 - X2) then 1 else if IntKind.i64.wrap (X1 - X2) < 0 then -1 else if fn.toList = [] ∨ fn2.toList = [] then 2 else if fn.toList ≠ fn2.toList then sideI (g.above fn fn2)
   else if args.length ≠ args2.length then sideI (decide (args.length > args2.length)) else kcmpL g args args2) := by
   simp only [Term.kcmp, hq, hX1, hM1, hX2, hM2]; rfl
  have hab := above_ok g hg fn fn2
  simp [Sg.enc] at hab
  have hrest : ∀ out : Int, (if 0 < IntKind.i64.wrap (X1 - X2) then 1 else if IntKind.i64.wrap (X1 - X2) < 0 then -1 else if fn.toList = [] ∨ fn2.toList = [] then 2 else if fn.toList ≠ fn2.toList then sideI (g.above fn fn2)
   else if args.length ≠ args2.length then sideI (decide (args.length > args2.length)) else kcmpL g args args2) = out → True := fun _ _ => trivial
  rw [hk]
  clear hk hrest
  generalize hmo : (M2.any fun q => decide (0 < q.2)) = mo at *
  generalize hle : (M2.any fun q => decide (q.2 < 0)) = le at *
  by_cases hd : 0 < IntKind.i64.wrap (X1 - X2)
  ·cases le <;> simp [Term.enc, Sg.enc, plc_raw, hsame, plc_hole, hc1, hc2, ho1, ho2, hH10, hH11, hH12, hH20, hH21, hH22, hn17, hex, hhole, hd]
  by_cases hd2 : IntKind.i64.wrap (X1 - X2) < 0
  ·cases mo <;> simp [Term.enc, Sg.enc, plc_raw, hsame, plc_hole, hc1, hc2, ho1, ho2, hH10, hH11, hH12, hH20, hH21, hH22, hn17, hex, hhole, hd, hd2]
  by_cases hv1 : fn.toList = []
  ·simp [Term.enc, Sg.enc, plc_raw, hsame, plc_hole, hc1, hc2, ho1, ho2, hH10, hH11, hH12, hH20, hH21, hH22, hn17, hex, hhole, hd, hd2, hv1]
  by_cases hv2 : fn2.toList = []
  ·simp [Term.enc, Sg.enc, plc_raw, hsame, plc_hole, hc1, hc2, ho1, ho2, hH10, hH11, hH12, hH20, hH21, hH22, hn17, hex, hhole, hd, hd2, hv1, hv2]
  by_cases hn : fn.toList = fn2.toList
  ·by_cases hl : args.length = args2.length
   ·have hv : v = v2 := (shapeB_v hs hv1).trans (shapeB_v hus hv2).symm
    have hsb : sameBL args args2 = false := by simpa [Term.sameB, hv, hn, hl] using hq
    obtain ⟨i, hi, hlt⟩ := firstL_some args args2 hl hsb
    obtain ⟨t1, u1, hg1, hg2, hkc⟩ := kcmpL_first g args args2 i hi
    obtain ⟨v', fn', args', a⟩ := at_ok h.1 hlt
    obtain ⟨v2', fn2', args2', b⟩ := at_ok hu.1 (i := i) (by omega)
    obtain rfl : t1 = .mk v' fn' args' := by rw [← a.get]; exact (Option.some.inj ((List.getElem?_eq_getElem hlt).symm.trans hg1)).symm
    obtain rfl : u1 = .mk v2' fn2' args2' := by rw [← b.get]; exact (Option.some.inj ((List.getElem?_eq_getElem (by omega)).symm.trans hg2)).symm
    simp only [Term.shapeB, Bool.and_eq_true] at hs hus
    have hih := ih _ a.mem (okL_mem h.2 _ a.mem) (shapeBL_mem hs.2 _ a.mem) _ (okL_mem hu.2 _ b.mem) (shapeBL_mem hus.2 _ b.mem)
    rw [← hkc] at hih
    have hfirst := first_ok v fn args h v2 fn2 args2 hu hl.symm
    rw [hi] at hfirst
    have a1 := a.lti
    have a2 := a.sz
    have a3 := a.ltm
    have a4 := a.cells
    have a5 := a.le3
    have b1 := b.lti
    have b2 := b.sz
    have b3 := b.ltm
    have b4 := b.cells
    have b5 := b.le3
    simp [Term.enc, Sg.enc, optI] at hih hfirst
    simp only [Term.enc]
    generalize kcmpL g args args2 = out at *
    clear ih hu hus hs h hq hkc hsb hi hg1 hg2 a b
    have hl2 := hl.symm
    clear hl
    generalize args2.length = nl at *
    subst hl2
    by_cases ho : out = 1
    ·subst ho
     cases le <;> simp [Term.enc, Sg.enc, plc_raw, hsame, plc_hole, hc1, hc2, ho1, ho2, hH10, hH11, hH12, hH20, hH21, hH22, hn17, hex, hhole, hd, hd2, hv1, hv2, hn, hfirst, a1, a2, a3, a4, a5, b1, b2, b3, b4, b5, hih]
    ·by_cases ho2 : out = -1
     ·subst ho2
      cases mo <;> simp [Term.enc, Sg.enc, plc_raw, hsame, plc_hole, hc1, hc2, ho1, ho2, hH10, hH11, hH12, hH20, hH21, hH22, hn17, hex, hhole, hd, hd2, hv1, hv2, hn, hfirst, a1, a2, a3, a4, a5, b1, b2, b3, b4, b5, hih]
     ·simp [Term.enc, Sg.enc, plc_raw, hsame, plc_hole, hc1, hc2, ho1, ho2, hH10, hH11, hH12, hH20, hH21, hH22, hn17, hex, hhole, hd, hd2, hv1, hv2, hn, hfirst, a1, a2, a3, a4, a5, b1, b2, b3, b4, b5, hih, ho, ho2]
   ·have hli : ¬ ((args.length : Int) = args2.length) := by omega
    by_cases hgt : args2.length < args.length
    ·have hgti : (args2.length : Int) < args.length := by omega
     have hsd := side_ok true
     simp [sideI] at hsd
     cases le <;> simp [Term.enc, Sg.enc, plc_raw, hsame, plc_hole, hc1, hc2, ho1, ho2, hH10, hH11, hH12, hH20, hH21, hH22, hn17, hex, hhole, hd, hd2, hv1, hv2, hn, hl, hli, hgt, hgti, hsd, sideI]
    ·have hgti : ¬ (args2.length : Int) < args.length := by omega
     have hsd := side_ok false
     simp [sideI] at hsd
     cases mo <;> simp [Term.enc, Sg.enc, plc_raw, hsame, plc_hole, hc1, hc2, ho1, ho2, hH10, hH11, hH12, hH20, hH21, hH22, hn17, hex, hhole, hd, hd2, hv1, hv2, hn, hl, hli, hgt, hgti, hsd, sideI]
  ·cases hav : g.above fn fn2
   ·have hsd := side_ok false
    simp [sideI] at hsd
    rw [hav] at hab
    cases mo <;> simp [Term.enc, Sg.enc, plc_raw, hsame, plc_hole, hc1, hc2, ho1, ho2, hH10, hH11, hH12, hH20, hH21, hH22, hn17, hex, hhole, hd, hd2, hv1, hv2, hn, hab, hsd, sideI]
   ·have hsd := side_ok true
    simp [sideI] at hsd
    rw [hav] at hab
    cases le <;> simp [Term.enc, Sg.enc, plc_raw, hsame, plc_hole, hc1, hc2, ho1, ho2, hH10, hH11, hH12, hH20, hH21, hH22, hn17, hex, hhole, hd, hd2, hv1, hv2, hn, hab, hsd, sideI]
end Go.Proofs.YtajilkmepjhkdaaGreat.Am

/-
 The order of Knuth and Bendix: the program's exported functions and the chapter's examples. No condition.
-/
namespace Go.Proofs.YtajilkmepjhkdaaGreat.Am
open Go Go.Proofs
set_option maxHeartbeats 4000000
set_option linter.unusedSimpArgs false
theorem rightE_shape {t : Term} (h : t.rightE = 0) : t.shapeB = true := by
 unfold Term.rightE at h
 by_cases hs : t.shapeB = true
 ·exact hs
 ·rw [if_neg hs] at h; simp at h
def Sg.kCmp (g : Sg) (t u : Term) : Int := if g.right = true ∧ t.rightE = 0 ∧ u.rightE = 0 then t.kcmp g u else 2
theorem kCompare_ok (g : Sg) (hg : g.ok) (t : Term) (ht : t.ok) (u : Term) (hu : u.ok) : pcl Cp 30 [.agg g.enc, .agg t.enc, .agg u.enc] = some (.int .i64 (g.kCmp t u)) := by
 have h1 := gright_ok g hg
 have h2 := tright_ok t ht
 have h3 := tright_ok u hu
 have h4 := fun hs hs2 => compare_ok g hg t ht hs u hu hs2
 refine pcl_body code30 ?_
 unfold Sg.kCmp
 generalize hk : t.kcmp g u = k at h4 ⊢
 have ht0 := @rightE_shape t
 have hu0 := @rightE_shape u
 generalize t.rightE = z at *
 generalize u.rightE = z2 at *
 obtain ⟨v, fn, args⟩ := t
 obtain ⟨v2, fn2, args2⟩ := u
 simp [Term.enc, Sg.enc] at h1 h2 h3 h4 ⊢
 by_cases hr : g.right = true
 ·simp [hr] at h1
  by_cases hz : z = 0
  ·by_cases hz2 : z2 = 0
   ·have h5 := h4 (ht0 hz) (hu0 hz2)
    simp [plc_raw, h1, h2, h3, h5, hz, hz2, hr]
   ·simp [plc_raw, h1, h2, h3, hz, hz2, hr]
  ·simp [plc_raw, h1, h2, h3, hz, hr]
 ·simp [hr] at h1
  simp [plc_raw, h1, hr]
theorem own_ok (g : Sg) : pcl Cp 13 [.agg g.enc] = some (.agg g.enc) := by
 refine pcl_body code13 ?_
 simp [Sg.enc, plc_raw]
end Go.Proofs.YtajilkmepjhkdaaGreat.Am

/-
 The document's order of Knuth and Bendix is the same order; both functions answer alike, two ways, and through a third term. No condition.
-/
namespace Go.Proofs.YtajilkmepjhkdaaGreat.Am
open Go Go.Proofs
set_option linter.unusedSimpArgs false
set_option linter.unusedVariables false
theorem withGo_mem (n : Int) : ∀ (l : List Int) (inn : Bool) (out : List Int), (inn = true → n ∈ out) → ∀ x, x ∈ withGo n inn out l ↔ x = n ∨ x ∈ out ∨ x ∈ l
 | [], inn, out, h, x => by
  cases inn
  ·simp [withGo]; exact Or.comm
  ·simp [withGo]
   rintro rfl
   exact h rfl
 | y :: r, inn, out, h, x => by
  simp only [withGo]
  split
  ·rw [withGo_mem n r true _ (fun _ => by simp) x]
   split
   ·rename_i hy; subst hy; simp; grind
   ·simp; grind
  ·rename_i hn
   rw [withGo_mem n r inn _ (fun hi => by have := h hi; split <;> simp [this]) x]
   split
   ·rename_i hy; subst hy
    simp
    constructor
    ·grind
    ·grind
   ·simp; grind
theorem varsW_mem (t : Term) : ∀ l x, x ∈ t.varsW l ↔ x ∈ l ∨ x ∈ t.occ := by
 refine Term.ind (p := fun t => ∀ l x, x ∈ t.varsW l ↔ x ∈ l ∨ x ∈ t.occ) (fun v fn args ih l x => ?_) t
 have hl : ∀ (a : List Term), (∀ z ∈ a, ∀ l x, x ∈ z.varsW l ↔ x ∈ l ∨ x ∈ z.occ) → ∀ l x, x ∈ varsWL l a ↔ x ∈ l ∨ x ∈ occL a := by
  intro a
  induction a with
  | nil => intro _ l x; simp [varsWL, occL]
  | cons y r ih2 =>
   intro h l x
   simp only [varsWL, occL, List.mem_append]
   rw [ih2 (fun z hz => h z (by simp [hz])), h y (by simp)]
   exact or_assoc
 simp only [Term.varsW, Term.occ, List.mem_append]
 rw [hl args ih]
 by_cases hv : fn.toList = []
 ·simp only [if_pos hv]
  rw [withGo_mem v l false [] (fun h => by cases h)]
  simp; grind
 ·simp only [if_neg hv]; simp
theorem fewer_any (t u : Term) : (u.varsW []).any (fewer t u) = false ↔ ∀ x, u.occ.count x ≤ t.occ.count x := by
 rw [← Bool.not_eq_true, List.any_eq_true]
 constructor
 ·intro h x
  refine Nat.le_of_not_lt fun hlt => h ⟨x, ?_, by simpa [fewer] using hlt⟩
  rw [varsW_mem]
  exact .inr (List.count_pos_iff.1 (by omega))
 ·rintro h ⟨x, _, hx⟩
  have := h x
  simp [fewer] at hx
  omega
theorem idxS_inj {ns : List ByteArray} {a b : ByteArray} (h : idxS ns a = idxS ns b) (h0 : 0 ≤ idxS ns a) : a.toList = b.toList := by
 unfold idxS at h h0
 cases ha : ns.findIdx? (fun n => eqS n a) with
 | none => rw [ha] at h0; simp at h0
 | some i =>
  cases hb : ns.findIdx? (fun n => eqS n b) with
  | none => rw [ha, hb] at h; simp at h
  | some k =>
   rw [ha, hb] at h
   have h : i = k := by simp at h; omega
   subst h
   rw [List.findIdx?_eq_some_iff_getElem] at ha hb
   obtain ⟨h1, h2, _⟩ := ha
   obtain ⟨_, h4, _⟩ := hb
   simp [eqS] at h2 h4
   rw [← h2, ← h4]
theorem idxS_ge (ns : List ByteArray) (a : ByteArray) : -1 ≤ idxS ns a := by
 rcases idxS_lt (ns := ns) (s := a) with h | ⟨k, h, _⟩ <;> omega
theorem aboveR_eq (g : Sg) (a b : ByteArray) : g.aboveR a b = g.above a b := by
 have ha := idxS_ge g.names a
 have hb := idxS_ge g.names b
 by_cases hab : a.toList = b.toList
 ·have := bytes_ext hab; subst this
  rw [above_irrefl]
  simp [Sg.aboveR]
 ·unfold Sg.aboveR Sg.above Sg.rank
  by_cases h1 : a.toList = dollarTrue
  ·have h2 : ¬ b.toList = dollarTrue := fun e => hab (h1.trans e.symm)
   rw [if_pos (.inr h1)]
   simp only [h1, h2, if_true, if_false]
   rw [if_pos (by omega)]
   symm
   simp only [decide_eq_false_iff_not]
   omega
  ·by_cases h2 : b.toList = dollarTrue
   ·rw [if_neg (by simp [hab, h1]), if_pos h2]
    simp only [h1, h2, if_true, if_false]
    rw [if_pos (by omega)]
    symm
    simp only [decide_eq_true_eq]
    omega
   ·rw [if_neg (by simp [hab, h1]), if_neg h2]
    simp only [h1, h2, if_false]
    by_cases h3 : idxS g.names a < 0 ∧ idxS g.names b < 0
    ·rw [if_pos h3, if_neg (by omega)]
    ·rw [if_neg h3]
     by_cases h4 : idxS g.names a = idxS g.names b
     ·exact absurd (idxS_inj h4 (by omega)) hab
     ·rw [if_pos h4]
theorem rgt_iff (g : Sg) (t : Term) : ∀ u, t.rgt g u = true ↔ kgt g t u := by
 refine Term.ind (p := fun t => ∀ u, t.rgt g u = true ↔ kgt g t u) (fun v fn args ih u => ?_) t
 obtain ⟨v2, f2, a2⟩ := u
 have hl : ∀ (a b : List Term), (∀ x ∈ a, ∀ u, x.rgt g u = true ↔ kgt g x u) → (rgtL g a b = true ↔ kgtL g a b) := by
  intro a
  induction a with
  | nil => intro b _; simp [rgtL, kgtL]
  | cons x r ih2 =>
   intro b h
   cases b with
   | nil => simp [rgtL, kgtL]
   | cons y s =>
    simp only [rgtL, kgtL]
    by_cases hs : x = y
    ·rw [if_pos ((sameB_eq x y).2 hs), ih2 s (fun z hz => h z (by simp [hz]))]
     simp [hs]
    ·rw [if_neg (by rw [sameB_eq]; exact hs), h x (by simp)]
     simp [hs]
 simp only [Term.rgt, kgt, ← fewer_any]
 cases hf : ((Term.mk v2 f2 a2).varsW []).any (fewer (.mk v fn args) (.mk v2 f2 a2))
 ·simp only [Bool.false_eq_true, if_false, true_and]
  by_cases hw : (Term.mk v fn args).wt g = (Term.mk v2 f2 a2).wt g
  ·rw [if_neg (by simpa using hw)]
   have hlt : ¬ (Term.mk v2 f2 a2).wt g < (Term.mk v fn args).wt g := by omega
   simp only [hlt, false_or, hw, true_and]
   by_cases n1 : fn.toList = []
   ·simp [n1]
   by_cases n2 : f2.toList = []
   ·simp [n2]
   rw [if_neg (by simp [n1, n2])]
   simp only [n1, n2, ne_eq, not_false_eq_true, true_and]
   by_cases he : fn.toList = f2.toList
   ·have := bytes_ext he; subst this
    by_cases hlen : args.length = a2.length
    ·simp [hlen, hl args a2 ih]
    ·simp [hlen, Sg.symR]
   ·simp [he, Sg.symR, aboveR_eq]
  ·rw [if_pos hw]
   simp [hw]
 ·simp
def Sg.rCmp (g : Sg) (t u : Term) : Int :=
 if g.right = true ∧ t.rightE = 0 ∧ u.rightE = 0 then (if t.sameB u then 0 else if t.rgt g u then 1 else if u.rgt g t then -1 else 2) else 2
theorem rightE_shape' {t : Term} (h : t.rightE = 0) : t.shapeB = true := by
 unfold Term.rightE at h
 by_cases hs : t.shapeB = true
 ·exact hs
 ·rw [if_neg hs] at h; simp at h
open Classical in
theorem kCmp_spec (g : Sg) (t u : Term) (ht : t.size ≤ 1048576) (hu : u.size ≤ 1048576) :
  g.kCmp t u = if g.right = true ∧ t.rightE = 0 ∧ u.rightE = 0 then (if t = u then 0 else if kgt g t u then 1 else if kgt g u t then -1 else 2) else 2 := by
 unfold Sg.kCmp
 split
 ·rename_i h
  exact kcmp_spec g t u (rightE_shape' h.2.1) (rightE_shape' h.2.2) (by omega) (by omega)
 ·rfl
theorem kCmp_rCmp (g : Sg) (t u : Term) (ht : t.size ≤ 1048576) (hu : u.size ≤ 1048576) : g.kCmp t u = g.rCmp t u := by
 rw [kCmp_spec g t u ht hu]
 unfold Sg.rCmp
 by_cases h : g.right = true ∧ t.rightE = 0 ∧ u.rightE = 0
 ·rw [if_pos h, if_pos h]
  by_cases he : t = u
  ·rw [if_pos he, if_pos ((sameB_eq t u).2 he)]
  ·rw [if_neg he, if_neg (mt (sameB_eq t u).1 he)]
   by_cases h1 : kgt g t u
   ·rw [if_pos h1, if_pos ((rgt_iff g t u).2 h1)]
   ·rw [if_neg h1, if_neg (mt (rgt_iff g t u).1 h1)]
    by_cases h2 : kgt g u t
    ·rw [if_pos h2, if_pos ((rgt_iff g u t).2 h2)]
    ·rw [if_neg h2, if_neg (mt (rgt_iff g u t).1 h2)]
 ·rw [if_neg h, if_neg h]
theorem kCmp_turn (g : Sg) (t u : Term) (ht : t.size ≤ 1048576) (hu : u.size ≤ 1048576) : (g.kCmp t u = 2 ∧ g.kCmp u t = 2) ∨ (g.kCmp t u ≠ 2 ∧ g.kCmp u t = - g.kCmp t u) := by
 rw [kCmp_spec g t u ht hu, kCmp_spec g u t hu ht]
 by_cases h : g.right = true ∧ t.rightE = 0 ∧ u.rightE = 0
 ·have h' : g.right = true ∧ u.rightE = 0 ∧ t.rightE = 0 := ⟨h.1, h.2.2, h.2.1⟩
  rw [if_pos h, if_pos h']
  by_cases he : t = u
  ·subst he; simp
  ·have he' : ¬ u = t := fun e => he e.symm
   by_cases h1 : kgt g t u
   ·have h2 := kgt_asymm h1
    simp [he, he', h1, h2]
   ·by_cases h2 : kgt g u t <;> simp [he, he', h1, h2]
 ·have h' : ¬ (g.right = true ∧ u.rightE = 0 ∧ t.rightE = 0) := fun k => h ⟨k.1, k.2.2, k.2.1⟩
  rw [if_neg h, if_neg h']
  simp
theorem kCmp_gt (g : Sg) (t u : Term) (ht : t.size ≤ 1048576) (hu : u.size ≤ 1048576) : g.kCmp t u = 1 ↔ g.right = true ∧ t.rightE = 0 ∧ u.rightE = 0 ∧ kgt g t u := by
 rw [kCmp_spec g t u ht hu]
 by_cases h : g.right = true ∧ t.rightE = 0 ∧ u.rightE = 0
 ·rw [if_pos h]
  by_cases he : t = u
  ·subst he; simp [kgt_irrefl]
  ·by_cases h1 : kgt g t u
   ·simp [he, h1, h]
   ·by_cases h2 : kgt g u t <;> simp [he, h1, h2]
 ·rw [if_neg h]
  simp only [show ¬ ((2 : Int) = 1) by decide, false_iff]
  exact fun k => h ⟨k.1, k.2.1, k.2.2.1⟩
theorem kCmp_trans (g : Sg) (t u w : Term) (ht : t.size ≤ 1048576) (hu : u.size ≤ 1048576) (hw : w.size ≤ 1048576) (h1 : g.kCmp t u = 1) (h2 : g.kCmp u w = 1) : g.kCmp t w = 1 := by
 rw [kCmp_gt g _ _ ht hu] at h1
 rw [kCmp_gt g _ _ hu hw] at h2
 rw [kCmp_gt g _ _ ht hw]
 exact ⟨h1.1, h1.2.1, h2.2.2.1, kgt_trans g t u w h1.2.2.2 h2.2.2.2⟩
theorem above_one (g : Sg) (a b : ByteArray) : g.above a b = true ∨ g.above b a = true ∨ a.toList = b.toList := by
 by_cases h : a.toList = b.toList
 ·exact .inr (.inr h)
 ·have := above_total g h
  cases hb : g.above b a
  ·rw [hb] at this; exact .inl this
  ·exact .inr (.inl rfl)
theorem loadW_wt (g : Sg) (t : Term) (ht : t.size ≤ 1048576) : (t.loadW g 1 []).1 = t.wt g :=
 (loadW_ok g 1 (.inl rfl) t [] (by simp) (by omega) (fun x => by simp [look]; omega)).1
end Go.Proofs.YtajilkmepjhkdaaGreat.Am

/-
 The document's path order: what is told of two parts is the order. No condition.
-/
namespace Go.Proofs.YtajilkmepjhkdaaGreat.Am
open Go Go.Proofs
set_option maxHeartbeats 4000000
set_option linter.unusedSimpArgs false
set_option linter.unusedVariables false
noncomputable section
open Classical
def oneB (g : Sg) (v1 : Int) (f1 : ByteArray) (a1 : List Term) (v2 : Int) (f2 : ByteArray) (a2 : List Term) : Bool :=
 if f1.toList = [] then false else if under g a1 (.mk v2 f2 a2) then true else if f2.toList = [] then false else if lpoOver g (.mk v1 f1 a1) a2 = false then false
 else if f1.toList ≠ f2.toList ∨ a1.length ≠ a2.length then g.symR f1 f2 a1.length a2.length else (firstGt g a1 a2).getD false
theorem symR_iff (g : Sg) (f h : ByteArray) (n m : Nat) : g.symR f h n m = true ↔ SymGt g f h n m := by
 unfold Sg.symR SymGt
 rw [aboveR_eq]
 by_cases e : f.toList = h.toList <;> simp [e]
theorem lex_first (g : Sg) : ∀ a b : List Term, a.length = b.length → ((∃ (i : Nat) (x y : Term), (∀ j : Nat, j < i → a[j]? = b[j]?) ∧ a[i]? = some x ∧ b[i]? = some y ∧ Lpo g x y) ↔ (firstGt g a b).getD false = true)
 | [], [], _ => by simp [firstGt]
 | [], _ :: _, h => by simp at h
 | _ :: _, [], h => by simp at h
 | t :: r, u :: q, h => by
  simp only [firstGt]
  by_cases hs : t.sameB u = true
  ·have e := (sameB_eq t u).1 hs
   subst e
   rw [if_pos hs, ← lex_first g r q (by simpa using h)]
   constructor
   ·rintro ⟨i, x, y, h1, h2, h3, h4⟩
    cases i with
    | zero =>
     simp at h2 h3
     rw [← h2, ← h3] at h4
     exact absurd h4 (Lpo.irrefl g t)
    | succ i => exact ⟨i, x, y, fun j hj => by simpa using h1 (j + 1) (by omega), by simpa using h2, by simpa using h3, h4⟩
   ·rintro ⟨i, x, y, h1, h2, h3, h4⟩
    refine ⟨i + 1, x, y, fun j hj => ?_, by simpa using h2, by simpa using h3, h4⟩
    cases j with
    | zero => rfl
    | succ j => simpa using h1 j (by omega)
  ·rw [if_neg hs]
   simp only [Option.getD_some, lpoB, decide_eq_true_eq]
   constructor
   ·rintro ⟨i, x, y, h1, h2, h3, h4⟩
    cases i with
    | zero =>
     simp at h2 h3
     rw [← h2, ← h3] at h4
     exact h4
    | succ i =>
     have h0 := h1 0 (by omega)
     simp at h0
     exact absurd ((sameB_eq t u).2 h0) hs
   ·exact fun k => ⟨0, t, u, fun j hj => by omega, rfl, rfl, k⟩
theorem oneB_lpo (g : Sg) (v1 : Int) (f1 : ByteArray) (a1 : List Term) (v2 : Int) (f2 : ByteArray) (a2 : List Term) : oneB g v1 f1 a1 v2 f2 a2 = lpoB g (.mk v1 f1 a1) (.mk v2 f2 a2) := by
 rw [Bool.eq_iff_iff]
 unfold oneB
 conv => rhs; simp only [lpoB, decide_eq_true_eq, Lpo.iff]
 by_cases hf : f1.toList = []
 ·simp [hf]
 rw [if_neg hf]
 cases hu : under g a1 (.mk v2 f2 a2)
 ·have hu' : ¬ ∃ x ∈ a1, x = .mk v2 f2 a2 ∨ Lpo g x (.mk v2 f2 a2) := by simpa [under] using hu
  simp only [Bool.false_eq_true, if_false, hu', false_or, hf, ne_eq, not_false_eq_true, true_and]
  by_cases hh : f2.toList = []
  ·simp [hh]
  simp only [if_neg hh, hh, not_false_eq_true, true_and]
  cases ho : lpoOver g (.mk v1 f1 a1) a2
  ·have ho' : ¬ ∀ b ∈ a2, Lpo g (.mk v1 f1 a1) b := by simpa only [lpoOver, decide_eq_false_iff_not] using ho
   simp [ho']
  ·have ho' : ∀ b ∈ a2, Lpo g (.mk v1 f1 a1) b := by simpa only [lpoOver, decide_eq_true_eq] using ho
   simp only [Bool.true_eq_false, if_false]
   rw [and_iff_right ho']
   by_cases hc : f1.toList ≠ f2.toList ∨ a1.length ≠ a2.length
   ·rw [if_pos hc, symR_iff]
    constructor
    ·exact .inl
    ·rintro (h | ⟨h1, h2, _⟩)
     ·exact h
     ·rcases hc with hc | hc
      ·exact absurd h1 hc
      ·exact absurd h2 hc
   ·rw [if_neg hc]
    have hc1 : f1.toList = f2.toList := Classical.not_not.1 fun h => hc (.inl h)
    have hc2 : a1.length = a2.length := Classical.not_not.1 fun h => hc (.inr h)
    rw [← lex_first g a1 a2 hc2]
    constructor
    ·exact fun h => .inr ⟨hc1, hc2, h⟩
    ·rintro (h | ⟨_, _, h⟩)
     ·rcases h with ⟨h, _⟩ | ⟨_, h⟩
      ·exact absurd hc1 h
      ·omega
     ·exact h
 ·have hu' : ∃ x ∈ a1, x = .mk v2 f2 a2 ∨ Lpo g x (.mk v2 f2 a2) := by simpa [under] using hu
  simp [hu', hf]
end
end Go.Proofs.YtajilkmepjhkdaaGreat.Am

/-
 The program's path order: what its functions find on the objects. No condition.
-/
namespace Go.Proofs.YtajilkmepjhkdaaGreat.Am
open Go Go.Proofs
set_option maxHeartbeats 4000000
set_option maxRecDepth 20000
set_option linter.unusedSimpArgs false
set_option linter.unusedVariables false
structure PAt (s : Laid) (i : Nat) (v : Int) (fn : ByteArray) (args : List Term) (ns : List Int) : Prop where
 get : s.1[i]? = some (.mk v fn args)
 own : s.2[i]? = some ns
 lt : i < s.1.length
 lti : (i : Int) < (s.1.length : Int)
 len : (encPt s).length = s.1.length * 4
 t3 : List.take 3 (List.drop (i * 4) (List.map AV.d (encPt s))) = [.d (.int .i64 v), .d (.str fn), .d (.sl (encL args) args.length false none)]
 t4 : List.take 4 (List.drop (i * 4) (List.map AV.d (encPt s))) = [.d (.int .i64 v), .d (.str fn), .d (.sl (encL args) args.length false none), .d (.sl (encI ns) ns.length false (some (decide (ns = []))))]
 ltm : i * 4 < s.1.length * 4
 le3 : i * 4 + 3 ≤ s.1.length * 4
 le4 : i * 4 + 4 ≤ s.1.length * 4
theorem pat_ok {s : Laid} (hs : LOk s) {i : Nat} {v : Int} {fn : ByteArray} {args : List Term} (h : s.1[i]? = some (.mk v fn args)) : ∃ ns, PAt s i v fn args ns ∧ ns.length = args.length ∧ ∀ (j : Nat) n, ns[j]? = some n → ∃ m : Nat, n = m ∧ m < i ∧ s.1[m]? = args[j]? := by
 obtain ⟨ns, h1, h2, h3⟩ := hs.own i v fn args h
 have hl := (List.getElem?_eq_some_iff.1 h).1
 have hz : (s.1.zip s.2)[i]? = some (.mk v fn args, ns) := by rw [List.getElem?_zip_eq_some]; exact ⟨h, h1⟩
 have h4 := encPz_at _ _ _ _ hz
 have t4 : List.take 4 (List.drop (i * 4) (List.map AV.d (encPt s))) = [.d (.int .i64 v), .d (.str fn), .d (.sl (encL args) args.length false none), .d (.sl (encI ns) ns.length false (some (decide (ns = []))))] := by
  have := congrArg (List.map AV.d) h4
  simpa [Term.enc, List.map_take, List.map_drop, encPt] using this
 refine ⟨ns, ⟨h, h1, hl, by omega, encPt_len hs.len, ?_, t4, by omega, by omega, by omega⟩, h2, h3⟩
 have := congrArg (List.take 3) t4
 simpa [List.take_take] using this
structure LE where
 g : Sg
 s : Laid
 r : Laid
 oX : Oid
 oY : Oid
 oK : Oid
 oA : Oid
 oF : Oid
 oG : Oid
 rX : Oid
 rY : Oid
 oM : Oid
def LE.askC (E : LE) : List AV := [.ptr E.oK 0 1, .ptr E.oF 0 1]
def LE.findC (E : LE) : List AV := [.ptr E.oX 0 1, .ptr E.oY 0 1, .ptr E.oA 0 1, .ptr E.oG 0 2]
structure LE.In (E : LE) (H : Hp) : Prop where
 X : H E.oX = some (.cells [.osl E.rX 0 E.s.1.length 4 (E.s.1.length * 4)])
 RX : H E.rX = some (.grow ((encPt E.s).map .d))
 Y : H E.oY = some (.cells [.osl E.rY 0 E.r.1.length 4 (E.r.1.length * 4)])
 RY : H E.rY = some (.grow ((encPt E.r).map .d))
 K : H E.oK = some (.cells [.map E.oM])
 A : H E.oA = some (.cells [.fn 80 [.ptr E.oK 0 1, .ptr E.oF 0 1]])
 F : H E.oF = some (.cells [.fn 75 [.ptr E.oX 0 1, .ptr E.oY 0 1, .ptr E.oA 0 1, .ptr E.oG 0 2]])
 G : H E.oG = some (.cells [.d (.sl (encS E.g.names) E.g.names.length false none), .d (.sl (encI E.g.weights) E.g.weights.length false none)])
structure LE.Lt (E : LE) (b : Nat) : Prop where
 X : E.oX.1 < b
 Y : E.oY.1 < b
 K : E.oK.1 < b
 A : E.oA.1 < b
 F : E.oF.1 < b
 G : E.oG.1 < b
 RX : E.rX.1 < b
 RY : E.rY.1 < b
 M : E.oM.1 < b
structure LE.Ne (E : LE) : Prop where
 X : E.oX ≠ E.oM
 Y : E.oY ≠ E.oM
 K : E.oK ≠ E.oM
 A : E.oA ≠ E.oM
 F : E.oF ≠ E.oM
 G : E.oG ≠ E.oM
 RX : E.rX ≠ E.oM
 RY : E.rY ≠ E.oM
theorem LE.Lt.mono {E : LE} {b c : Nat} (h : E.Lt b) (k : b ≤ c) : E.Lt c := ⟨Nat.lt_of_lt_of_le h.X k, Nat.lt_of_lt_of_le h.Y k, Nat.lt_of_lt_of_le h.K k, Nat.lt_of_lt_of_le h.A k, Nat.lt_of_lt_of_le h.F k, Nat.lt_of_lt_of_le h.G k, Nat.lt_of_lt_of_le h.RX k, Nat.lt_of_lt_of_le h.RY k, Nat.lt_of_lt_of_le h.M k⟩
theorem LE.In.keep {E : LE} {H H' : Hp} {b : Nat} (h : E.In H) (hl : E.Lt b) (hn : E.Ne) (k : ∀ p : Oid, p.1 < b → p ≠ E.oM → H' p = H p) : E.In H' :=
 ⟨(k _ hl.X hn.X).trans h.X, (k _ hl.RX hn.RX).trans h.RX, (k _ hl.Y hn.Y).trans h.Y, (k _ hl.RY hn.RY).trans h.RY, (k _ hl.K hn.K).trans h.K, (k _ hl.A hn.A).trans h.A, (k _ hl.F hn.F).trans h.F, (k _ hl.G hn.G).trans h.G⟩
noncomputable def LE.lp (E : LE) (i k : Nat) : Bool := match E.s.1[i]?, E.r.1[k]? with | some x, some y => lpoB E.g x y | _, _ => false
def LE.Truth (E : LE) (M : PM) (n : Nat) : Prop := ∀ a c : Nat, a + c < n → getM M a c = 0 ∨ (getM M a c = 2 ∧ E.lp a c = true) ∨ (getM M a c = 1 ∧ E.lp a c = false)
def LE.AskOk (E : LE) (i k : Nat) : Prop := ∀ H nx M, E.Lt nx → E.In H → H E.oM = some (mkM M) → E.Truth M (i + k + 1) → ∃ q : Hp × Nat, acall Tryz.prog plc 80 (.d (.int .i64 i) :: .d (.int .i64 k) :: E.askC) H nx = some (.d (.bool (E.lp i k)), q.1, q.2) ∧ nx ≤ q.2 ∧
 (∃ M', q.1 E.oM = some (mkM M') ∧ E.Truth M' (i + k + 1) ∧ ∀ a c : Nat, i + k < a + c → getM M' a c = getM M a c) ∧ ∀ p, p.1 < nx → p ≠ E.oM → q.1 p = H p
def LE.I (E : LE) (b m : Nat) (M0 : PM) (H0 H : Hp) : Prop := E.In H ∧ (∃ M, H E.oM = some (mkM M) ∧ E.Truth M m ∧ ∀ a c : Nat, m ≤ a + c → getM M a c = getM M0 a c) ∧ ∀ p : Oid, p.1 < b → p ≠ E.oM → H p = H0 p
theorem LE.I.old {E : LE} {b m : Nat} {M0 : PM} {H0 : Hp} (hl : E.Lt b) (hn : E.Ne) : Old b (E.I b m M0 H0) := by
 intro H H' k ⟨h1, ⟨M, h2, h3, h4⟩, h5⟩
 exact ⟨h1.keep hl hn fun p hp _ => k p hp, ⟨M, (k _ hl.M).trans h2, h3, h4⟩, fun p hp hq => (k p hp).trans (h5 p hp hq)⟩
theorem LE.AskOk.keep {E : LE} {i k b m : Nat} {M0 : PM} {H0 : Hp} (h : E.AskOk i k) (hl : E.Lt b) (hn : E.Ne) (hm : i + k < m) :
  ∀ H nx, b ≤ nx → E.I b m M0 H0 H → ∃ q : Hp × Nat, acall Tryz.prog plc 80 (.d (.int .i64 i) :: .d (.int .i64 k) :: E.askC) H nx = some (.d (.bool (E.lp i k)), q.1, q.2) ∧ nx ≤ q.2 ∧ E.I b m M0 H0 q.1 := by
 intro H nx hb ⟨h1, ⟨M, h2, h3, h4⟩, h5⟩
 obtain ⟨q, e1, e2, ⟨M', e3, e4, e5⟩, e6⟩ := h H nx M (hl.mono hb) h1 h2 (fun a c hac => h3 a c (by omega))
 refine ⟨q, e1, e2, h1.keep (hl.mono hb) hn e6, ⟨M', e3, fun a c hac => ?_, fun a c hac => (e5 a c (by omega)).trans (h4 a c hac)⟩, fun p hp hq => (e6 p (by omega) hq).trans (h5 p hp hq)⟩
 rcases Nat.lt_or_ge (i + k) (a + c) with h | h
 ·rw [e5 a c h]; exact h3 a c hac
 ·exact e4 a c (by omega)
theorem call_fn {f : FuncId} {vs : List AV} {b : Nat} {I : Hp → Prop} {v : AV} (h : ∀ H nx, b ≤ nx → I H → ∃ q : Hp × Nat, acall Tryz.prog plc f vs H nx = some (v, q.1, q.2) ∧ nx ≤ q.2 ∧ I q.1) :
  ∃ (F : Hp → Nat → Hp) (N : Hp → Nat → Nat), ∀ H nx, b ≤ nx → I H → acall Tryz.prog plc f vs H nx = some (v, F H nx, N H nx) ∧ nx ≤ N H nx ∧ I (F H nx) := by
 have h2 : ∀ z : Hp × Nat, ∃ q : Hp × Nat, b ≤ z.2 → I z.1 → acall Tryz.prog plc f vs z.1 z.2 = some (v, q.1, q.2) ∧ z.2 ≤ q.2 ∧ I q.1 := fun z => by
  by_cases h1 : b ≤ z.2 ∧ I z.1
  ·obtain ⟨q, hq⟩ := h z.1 z.2 h1.1 h1.2
   exact ⟨q, fun _ _ => hq⟩
  ·exact ⟨default, fun a b => absurd ⟨a, b⟩ h1⟩
 obtain ⟨G, hG⟩ := Classical.skolem.1 h2
 exact ⟨fun H nx => (G (H, nx)).1, fun H nx => (G (H, nx)).2, fun H nx a b => hG (H, nx) a b⟩
theorem above_asks {E : LE} (hsz : E.s.1.length ≤ 9223372036854775807) {b m : Nat} {M0 : PM} {H0 : Hp} (hl : E.Lt b) (hn : E.Ne) {n k : Nat} (hm : n + k < m) (h : E.AskOk n k) {v : Int} {fn : ByteArray} {args : List Term} {ns : List Int} (pa : PAt E.s n v fn args ns) (hok : (Term.mk v fn args).ok)
  {v2 : Int} {fn2 : ByteArray} {args2 : List Term} {w : AV} (hok2 : (Term.mk v2 fn2 args2).ok) {oT oI : Oid} (hT : oT.1 < b ∧ oT ≠ E.oM) (hTc : H0 oT = some (.cells [.d (.int .i64 v2), .d (.str fn2), .d (.sl (encL args2) args2.length false none), w])) (hI : oI.1 < b ∧ oI ≠ E.oM) (hIc : H0 oI = some (.cells [.d (.int .i64 k)])) :
  Asks 76 [.ptr E.oX 0 1, .ptr oT 0 4, .ptr E.oA 0 1, .ptr oI 0 1] b (E.I b m M0 H0) n ((Term.mk v fn args).sameB (.mk v2 fn2 args2) || E.lp n k) := by
 intro H nx hb hI0
 obtain ⟨F, N, hFN⟩ := call_fn (h.keep (M0 := M0) (H0 := H0) hl hn hm)
 have hin := hI0.1
 have hTH := (hI0.2.2 _ hT.1 hT.2).trans hTc
 have hIH := (hI0.2.2 _ hI.1 hI.2).trans hIc
 have hsame := same_ok _ hok _ hok2
 simp [Term.enc] at hsame
 have hx := hin.X
 have hrx := hin.RX
 have ha := hin.A
 have hw : IntKind.i64.wrap (n : Int) = n := wrap_i64 (by omega) (by have := pa.lt; omega)
 have hFc := fun H nx a b => (hFN H nx a b).1
 have hbk : ∀ k, b ≤ nx + k := fun k => by omega
 simp [LE.askC] at hFc
 cases hs : (Term.mk v fn args).sameB (.mk v2 fn2 args2)
 ·rw [hs] at hsame
  obtain ⟨_, e2, e3⟩ := hFN H (nx + 16) (hbk 16) hI0
  refine ⟨(F H (nx + 16), N H (nx + 16)), acall_body code76 ?_, by simp only; omega, e3⟩
  simp [plc_raw, Nat.add_assoc, hx, hrx, ha, hTH, hIH, pa.lt, pa.lti, pa.len, pa.t3, pa.ltm, pa.le3, hsame, hFc, hbk, hI0]
 ·rw [hs] at hsame
  refine ⟨(H, nx + 16), acall_body code76 ?_, by simp only; omega, hI0⟩
  simp [plc_raw, Nat.add_assoc, hx, hrx, ha, hTH, hIH, pa.lt, pa.lti, pa.len, pa.t3, pa.ltm, pa.le3, hsame]
theorem notAsk_asks {E : LE} {b m : Nat} {M0 : PM} {H0 : Hp} (hl : E.Lt b) (hn : E.Ne) {n k : Nat} (hm : n + k < m) (h : E.AskOk n k) {oI : Oid} (hI : oI.1 < b ∧ oI ≠ E.oM) (hIc : H0 oI = some (.cells [.d (.int .i64 n)])) :
  Asks 78 [.ptr E.oA 0 1, .ptr oI 0 1] b (E.I b m M0 H0) k (!E.lp n k) := by
 intro H nx hb hI0
 obtain ⟨F, N, hFN⟩ := call_fn (h.keep (M0 := M0) (H0 := H0) hl hn hm)
 have ha := hI0.1.A
 have hIH := (hI0.2.2 _ hI.1 hI.2).trans hIc
 have hFc := fun H nx a b => (hFN H nx a b).1
 have hbk : ∀ k, b ≤ nx + k := fun k => by omega
 simp [LE.askC] at hFc
 obtain ⟨_, e2, e3⟩ := hFN H (nx + 7) (hbk 7) hI0
 refine ⟨(F H (nx + 7), N H (nx + 7)), acall_body code78 ?_, by simp only; omega, e3⟩
 simp [plc_raw, Nat.add_assoc, ha, hIH, hFc, hbk, hI0]
def LE.FindOk (E : LE) (i k : Nat) : Prop := ∀ H nx M, E.Lt nx → E.In H → H E.oM = some (mkM M) → E.Truth M (i + k) → ∃ q : Hp × Nat, acall Tryz.prog plc 75 (.d (.int .i64 i) :: .d (.int .i64 k) :: E.findC) H nx = some (.d (.bool (E.lp i k)), q.1, q.2) ∧ nx ≤ q.2 ∧
 (∃ M', q.1 E.oM = some (mkM M') ∧ E.Truth M' (i + k) ∧ ∀ a c : Nat, i + k ≤ a + c → getM M' a c = getM M a c) ∧ ∀ p, p.1 < nx → p ≠ E.oM → q.1 p = H p
end Go.Proofs.YtajilkmepjhkdaaGreat.Am

/-
 The program's path order: the search of a pair. No condition.
-/
namespace Go.Proofs.YtajilkmepjhkdaaGreat.Am
open Go Go.Proofs
set_option maxHeartbeats 4000000
set_option maxRecDepth 20000
set_option linter.unusedSimpArgs false
set_option linter.unusedVariables false
theorem psymbol_ok (g : Sg) (hg : g.ok) (v1 : Int) (f1 : ByteArray) (a1 : List Term) (v2 : Int) (f2 : ByteArray) (a2 : List Term) :
  pcl Cp 79 [.agg g.enc, .agg (Term.mk v1 f1 a1).enc, .agg (Term.mk v2 f2 a2).enc] = some (.bool (g.symR f1 f2 a1.length a2.length)) := by
 have hab := above_ok g hg f1 f2
 refine pcl_body code79 ?_
 unfold Sg.symR
 rw [aboveR_eq]
 simp [Sg.enc] at hab
 by_cases hf : f1.toList = f2.toList
 ·simp [Term.enc, Sg.enc, plc_raw, hf]
 ·simp [Term.enc, Sg.enc, plc_raw, hf, hab]
abbrev findH (H : Hp) (nx i k : Nat) (v1 : Int) (f1 : ByteArray) (a1 : List Term) (ns1 : List Int) (v2 : Int) (f2 : ByteArray) (a2 : List Term) (ns2 : List Int) : Hp :=
 upd (upd (upd (upd (upd (upd (upd (upd (upd (upd H (nx, 0) (.cells [.d (.int .i64 i)])) (nx + 1, 0) (.cells [.d (.int .i64 k)])) (nx + 11, 3) .vnil) (nx + 11, 4) .vnil) (nx + 11, 0) (.cells [.d (.int .i64 0), .d (.str (ByteArray.mk #[])), .osl (nx + 11, 3) 0 0 1 0, .osl (nx + 11, 4) 0 0 1 0]))
  (nx + 12, 3) .vnil) (nx + 12, 4) .vnil) (nx + 12, 0) (.cells [.d (.int .i64 0), .d (.str (ByteArray.mk #[])), .osl (nx + 12, 3) 0 0 1 0, .osl (nx + 12, 4) 0 0 1 0]))
  (nx + 11, 0) (.cells [.d (.int .i64 v1), .d (.str f1), .d (.sl (encL a1) a1.length false none), .d (.sl (encI ns1) ns1.length false (some (decide (ns1 = []))))]))
  (nx + 12, 0) (.cells [.d (.int .i64 v2), .d (.str f2), .d (.sl (encL a2) a2.length false none), .d (.sl (encI ns2) ns2.length false (some (decide (ns2 = []))))])
theorem get_mk {a : List Term} {i : Nat} (h : i < a.length) : ∃ v f b, a[i]? = some (Term.mk v f b) := by
 rw [List.getElem?_eq_getElem h]
 exact match a[i] with | .mk v f b => ⟨v, f, b, rfl⟩
theorem lp_at {E : LE} {a c : Nat} {x y : Term} (hx : E.s.1[a]? = some x) (hy : E.r.1[c]? = some y) : E.lp a c = lpoB E.g x y := by simp [LE.lp, hx, hy]
abbrev findT (E : LE) (nx k : Nat) (ns1 : List Int) (j : Nat) : List AV := [.junk, .junk, .ptr E.oX 0 1, .ptr E.oY 0 1, .ptr E.oA 0 1, .junk, .junk, .junk, .d (.bool false), .junk, .ptr (nx + 12, 0) 0 4, .junk, .junk, .junk, .junk, .junk, .junk, .junk, .junk, .junk, .junk, .junk, .junk, .junk, .junk, .junk, .junk, .junk, .junk, .junk, .junk, .junk, .junk, .junk, .junk, .junk, .junk, .junk, .junk, .junk, .junk, .junk, .junk, .junk, .junk, .junk, .junk, .junk, .junk, .junk, .junk, .junk, .junk, .junk, .junk, .junk, .junk, .junk, .junk, .junk, .junk, .junk, .junk, .junk, .junk, .junk, .junk, .junk, .d (.sl (encI ns1) ns1.length false (some (decide (ns1 = [])))), .d (.int .i64 ns1.length), .d (.int .i64 j), .junk, .junk, .junk, .junk, .junk, .junk, .junk, .junk, .junk, .junk, .junk, .junk, .junk, .junk, .junk, .junk, .junk, .junk, .junk, .junk, .junk, .junk, .junk, .junk, .junk, .junk, .junk, .junk, .junk]
def FindEnd (E : LE) (nx m : Nat) (M : PM) (H0 : Hp) (b k : Nat) (ns1 : List Int) (r : Option Bool) (e : Ex) (t : St) : Prop :=
 match r with
 | none => ∃ H' n', e = .exit 1 ∧ t = ⟨findT E nx k ns1 ns1.length, H', n'⟩ ∧ b ≤ n' ∧ E.I (nx + 15) m M H0 H'
 | some x => e = .ret ∧ t.tm[8]? = some (.d (.bool x)) ∧ b ≤ t.nx ∧ E.I (nx + 15) m M H0 t.hp
theorem find_loop (E : LE) (hs : LOk E.s) (hr : LOk E.r) (hsz : E.s.1.length ≤ 9223372036854775807) (hrz : E.r.1.length ≤ 9223372036854775807) (hn : E.Ne) (i k : Nat) (v1 : Int) (f1 : ByteArray) (a1 : List Term) (v2 : Int) (f2 : ByteArray) (a2 : List Term)
  (hi : E.s.1[i]? = some (.mk v1 f1 a1)) (hk : E.r.1[k]? = some (.mk v2 f2 a2)) (ho1 : ∀ x ∈ E.s.1, x.ok) (ho2 : ∀ x ∈ E.r.1, x.ok) (ih : ∀ a c : Nat, a + c < i + k → a < E.s.1.length → c < E.r.1.length → E.AskOk a c)
  (ns1 ns2 : List Int) (hl1 : ns1.length = a1.length) (hns1 : ∀ (j : Nat) n, ns1[j]? = some n → ∃ m : Nat, n = m ∧ m < i ∧ E.s.1[m]? = a1[j]?) (hl2 : ns2.length = a2.length) (hns2 : ∀ (j : Nat) n, ns2[j]? = some n → ∃ m : Nat, n = m ∧ m < k ∧ E.r.1[m]? = a2[j]?)
  (hlen : a1.length = a2.length) (hal : a1.length ≤ 9223372036854775807) (nx : Nat) (hl : E.Lt nx) (M : PM) (H0 : Hp) (hc : H0 (nx + 12, 0) = some (.cells [.d (.int .i64 v2), .d (.str f2), .d (.sl (encL a2) a2.length false none), .d (.sl (encI ns2) ns2.length false (some (decide (ns2 = []))))]))
  (H1 : Hp) (b : Nat) (hb : nx + 15 ≤ b) (hI1 : E.I (nx + 15) (i + k) M H0 H1) :
  ∃ e t, aloop Tryz.prog plc b75_0 ⟨[false, false, true, true, true, false, false, false, true, false, true, false, false, false, false, false, false, false, false, false, false, false, false, false, false, false, false, false, false, false, false, false, false, false, false, false, false, false, false, false, false, false, false, false, false, false, false, false, false, false, false, false, false, false, false, false, false, false, false, false, false, false, false, false, false, false, false, false, true, true, true, false, false, false, false, false, false, false, false, false, false, false, false, false, false, false, false, false, false, false, false, false, false, false, false, false, false, false, false, false], some b⟩ ⟨findT E nx k ns1 0, H1, b⟩ = some (e, t) ∧ FindEnd E nx (i + k) M H0 b k ns1 (firstGt E.g a1 a2) e t := by
 have hne : (nx + 12, 0) ≠ E.oM := fun e => by have := hl.M; rw [← e] at this; simp at this; omega
 have key := loop_rule (P := Tryz.prog) (pol := plc) (c := b75_0) (m := ⟨[false, false, true, true, true, false, false, false, true, false, true, false, false, false, false, false, false, false, false, false, false, false, false, false, false, false, false, false, false, false, false, false, false, false, false, false, false, false, false, false, false, false, false, false, false, false, false, false, false, false, false, false, false, false, false, false, false, false, false, false, false, false, false, false, false, false, false, false, true, true, true, false, false, false, false, false, false, false, false, false, false, false, false, false, false, false, false, false, false, false, false, false, false, false, false, false, false, false, false, false], some b⟩)
  (b := b) (tm := fun (x : Nat × Hp) => findT E nx k ns1 x.1) (Hf := fun x => x.2)
  (I := fun x => x.1 ≤ a1.length ∧ E.I (nx + 15) (i + k) M H0 x.2) (μ := fun x => a1.length - x.1) (res := fun x => firstGt E.g (a1.drop x.1) (a2.drop x.1)) (R := FindEnd E nx (i + k) M H0 b k ns1)
  (fun x nx1 hx => by
   obtain ⟨j, HH⟩ := x
   obtain ⟨hj, hII⟩ := hx
   simp only at hj hII ⊢
   have hin := hII.1
   have hold := LE.I.old (E := E) (b := nx + 15) (m := i + k) (M0 := M) (H0 := H0) (hl.mono (by omega)) hn
   rcases Nat.lt_or_ge j a1.length with hjl | hjl
   ·have hTH := (hII.2.2 (nx + 12, 0) (by simp) hne).trans hc
    have hx := hin.X
    have hrx := hin.RX
    have hy := hin.Y
    have hry := hin.RY
    have hA := hin.A
    obtain ⟨n, hn1⟩ : ∃ n, ns1[j]? = some n := ⟨ns1[j]'(by omega), by simp [hl1, hjl]⟩
    obtain ⟨m, rfl, hmi, hm⟩ := hns1 j n hn1
    obtain ⟨n', hn2⟩ : ∃ n, ns2[j]? = some n := ⟨ns2[j]'(by omega), by simp [hl2, ← hlen, hjl]⟩
    obtain ⟨m', rfl, hmi', hm'⟩ := hns2 j n' hn2
    obtain ⟨w1, g1, b1, hb1⟩ := get_mk hjl
    obtain ⟨w2, g2, b2, hb2⟩ := get_mk (a := a2) (i := j) (by omega)
    rw [hb1] at hm
    rw [hb2] at hm'
    obtain ⟨_, pa, _, _⟩ := pat_ok hs hm
    obtain ⟨_, pb, _, _⟩ := pat_ok hr hm'
    have hd1 : a1.drop j = .mk w1 g1 b1 :: a1.drop (j + 1) := by rw [List.drop_eq_getElem_cons hjl]; congr 1; rw [List.getElem?_eq_getElem hjl] at hb1; exact Option.some.inj hb1
    have hd2 : a2.drop j = .mk w2 g2 b2 :: a2.drop (j + 1) := by rw [List.drop_eq_getElem_cons (by omega)]; congr 1; rw [List.getElem?_eq_getElem (by omega)] at hb2; exact Option.some.inj hb2
    have hsame := same_ok _ (ho1 _ (List.mem_of_getElem? hm)) _ (ho2 _ (List.mem_of_getElem? hm'))
    simp [Term.enc] at hsame
    have hres : firstGt E.g (a1.drop j) (a2.drop j) = if (Term.mk w1 g1 b1).sameB (.mk w2 g2 b2) then firstGt E.g (a1.drop (j + 1)) (a2.drop (j + 1)) else some (E.lp m m') := by rw [hd1, hd2, lp_at hm hm']; rfl
    obtain ⟨F, N, hFN⟩ := call_fn ((ih m m' (by omega) pa.lt pb.lt).keep (M0 := M) (H0 := H0) (hl.mono (show nx ≤ nx + 15 by omega)) hn (show m + m' < i + k by omega))
    have hFc := fun H nx a b => (hFN H nx a b).1
    simp [LE.askC] at hFc
    have c1 := encI_at hn1
    have c2 := encI_at hn2
    have hlt : (j : Int) < (ns1.length : Int) := by omega
    have hlt2 : (j : Int) < (ns2.length : Int) := by omega
    have hltn : j < ns1.length := by omega
    have hltn2 : j < ns2.length := by omega
    have hw : IntKind.i64.wrap ((j : Int) + 1) = (j : Int) + 1 := wrap_i64 (by omega) (by omega)
    have hbk : ∀ k, nx + 15 ≤ nx1 + (b + k) := fun k => by omega
    conv => arg 9; arg 4; unfold b75_0
    cases hsb : (Term.mk w1 g1 b1).sameB (.mk w2 g2 b2)
    ·rw [hsb] at hsame hres
     have hF2 := hFN HH (nx1 + (b + 31)) (hbk 31) hII
     simp [plc_raw, Nat.add_assoc, hTH, hx, hrx, hy, hry, hA, c1.get, c1.e, c1.tk, c1.le, c2.get, c2.e, c2.tk, c2.le, encI_len', hlt, hlt2, hltn, hltn2, hw, pa.lt, pa.lti, pa.len, pa.t3, pa.ltm, pa.le3, pb.lt, pb.lti, pb.len, pb.t3, pb.ltm, pb.le3, hsame, hFc, hbk, hII]
     refine .fin _ _ ?_
     have := hF2.2.1
     simp only [hres]
     exact ⟨rfl, rfl, by simp only; omega, hold.below (by omega) hF2.2.2⟩
    ·rw [hsb] at hsame hres
     simp [plc_raw, Nat.add_assoc, hTH, hx, hrx, hy, hry, hA, c1.get, c1.e, c1.tk, c1.le, c2.get, c2.e, c2.tk, c2.le, encI_len', hlt, hlt2, hltn, hltn2, hw, pa.lt, pa.lti, pa.len, pa.t3, pa.ltm, pa.le3, pb.lt, pb.lti, pb.len, pb.t3, pb.ltm, pb.le3, hsame]
     refine .next (j + 1, below b HH) (by omega) (by simp) rfl ⟨hjl, hold.below (by omega) hII⟩ (by simp only; omega) (by simp only [hres]; rfl)
   ·obtain rfl : j = a1.length := Nat.le_antisymm hj hjl
    have hres : firstGt E.g (a1.drop a1.length) (a2.drop a1.length) = none := by simp [firstGt]
    simp [b75_0, ← hl1]
    refine .fin _ _ ?_
    rw [hl1]
    simp only [hres]
    exact ⟨below b HH, nx1 + b + 1, rfl, by simp [findT, hl1], by omega, hold.below (by omega) hII⟩) (0, H1) ⟨Nat.zero_le _, hI1⟩
 simpa using key
theorem find_ok (E : LE) (hg : E.g.ok) (hs : LOk E.s) (hr : LOk E.r) (hsz : E.s.1.length ≤ 9223372036854775807) (hrz : E.r.1.length ≤ 9223372036854775807) (hn : E.Ne) (i k : Nat) (v1 : Int) (f1 : ByteArray) (a1 : List Term) (v2 : Int) (f2 : ByteArray) (a2 : List Term)
  (hi : E.s.1[i]? = some (.mk v1 f1 a1)) (hk : E.r.1[k]? = some (.mk v2 f2 a2)) (ho1 : ∀ x ∈ E.s.1, x.ok) (ho2 : ∀ x ∈ E.r.1, x.ok) (ih : ∀ a c : Nat, a + c < i + k → a < E.s.1.length → c < E.r.1.length → E.AskOk a c) : E.FindOk i k := by
 intro H nx M hl hin hM hT
 obtain ⟨ns1, pa, hl1, hns1⟩ := pat_ok hs hi
 obtain ⟨ns2, pb, hl2, hns2⟩ := pat_ok hr hk
 have k1 := ho1 _ (List.mem_of_getElem? hi)
 have k2 := ho2 _ (List.mem_of_getElem? hk)
 have z1 : ns1.length ≤ 9223372036854775807 := by rw [hl1]; exact k1.1
 have z2 : ns2.length ≤ 9223372036854775807 := by rw [hl2]; exact k2.1
 have hx := hin.X
 have hrx := hin.RX
 have hy := hin.Y
 have hry := hin.RY
 have fx : ∀ k j x H', Am.upd H' (nx + k, j) x E.oX = H' E.oX := fun k j x H' => upd_old (by have := hl.X; omega) j x H'
 have fx0 : ∀ j x H', Am.upd H' (nx, j) x E.oX = H' E.oX := fun j x H' => upd_old (by have := hl.X; omega) j x H'
 have frx : ∀ k j x H', Am.upd H' (nx + k, j) x E.rX = H' E.rX := fun k j x H' => upd_old (by have := hl.RX; omega) j x H'
 have frx0 : ∀ j x H', Am.upd H' (nx, j) x E.rX = H' E.rX := fun j x H' => upd_old (by have := hl.RX; omega) j x H'
 have fy : ∀ k j x H', Am.upd H' (nx + k, j) x E.oY = H' E.oY := fun k j x H' => upd_old (by have := hl.Y; omega) j x H'
 have fy0 : ∀ j x H', Am.upd H' (nx, j) x E.oY = H' E.oY := fun j x H' => upd_old (by have := hl.Y; omega) j x H'
 have fry : ∀ k j x H', Am.upd H' (nx + k, j) x E.rY = H' E.rY := fun k j x H' => upd_old (by have := hl.RY; omega) j x H'
 have fry0 : ∀ j x H', Am.upd H' (nx, j) x E.rY = H' E.rY := fun j x H' => upd_old (by have := hl.RY; omega) j x H'
 have ney : ∀ k j, ¬ E.oY = (nx + k, j) := fun k j e => by have := hl.Y; rw [e] at this; simp at this; omega
 have nery : ∀ k j, ¬ E.rY = (nx + k, j) := fun k j e => by have := hl.RY; rw [e] at this; simp at this; omega
 have neM : ∀ k j, (nx + k, j) ≠ E.oM := fun k j e => by have := hl.M; rw [← e] at this; simp at this; omega
 have neM0 : ∀ j, (nx, j) ≠ E.oM := fun j e => by have := hl.M; rw [← e] at this; simp at this
 obtain ⟨Hs, hHs⟩ : ∃ Hs, Hs = findH H nx i k v1 f1 a1 ns1 v2 f2 a2 ns2 := ⟨_, rfl⟩
 have hsO : ∀ p : Oid, p.1 < nx → Hs p = H p := fun p hp => by
  rw [hHs]
  simp only [findH]
  rw [upd_old (by omega), upd_old (by omega), upd_old (by omega), upd_old (by omega), upd_old (by omega), upd_old (by omega), upd_old (by omega), upd_old (by omega), upd_old (by omega), upd_old (by omega)]
 have hs0 : Hs (nx, 0) = some (.cells [.d (.int .i64 i)]) := by rw [hHs]; simp
 have hs1 : Hs (nx + 1, 0) = some (.cells [.d (.int .i64 k)]) := by rw [hHs]; simp
 have hs11 : Hs (nx + 11, 0) = some (.cells [.d (.int .i64 v1), .d (.str f1), .d (.sl (encL a1) a1.length false none), .d (.sl (encI ns1) ns1.length false (some (decide (ns1 = []))))]) := by rw [hHs]; simp
 have hs12 : Hs (nx + 12, 0) = some (.cells [.d (.int .i64 v2), .d (.str f2), .d (.sl (encL a2) a2.length false none), .d (.sl (encI ns2) ns2.length false (some (decide (ns2 = []))))]) := by rw [hHs]; simp
 have hl15 : E.Lt (nx + 15) := hl.mono (by omega)
 have hold := LE.I.old (E := E) (b := nx + 15) (m := i + k) (M0 := M) (H0 := Hs) hl15 hn
 have hI0 : E.I (nx + 15) (i + k) M Hs Hs := ⟨hin.keep hl hn fun p hp _ => hsO p hp, ⟨M, (hsO _ hl.M).trans hM, hT, fun _ _ _ => rfl⟩, fun _ _ _ => rfl⟩
 suffices hh : ∃ (H' : Hp) (n' : Nat), acall Tryz.prog plc 75 (.d (.int .i64 i) :: .d (.int .i64 k) :: E.findC) H nx = some (.d (.bool (E.lp i k)), H', n') ∧ nx + 15 ≤ n' ∧ E.I (nx + 15) (i + k) M Hs H' by
  obtain ⟨H', n', h1, h2, h3, h4, h5⟩ := hh
  exact ⟨(H', n'), h1, by simp only; omega, h4, fun p hp hq => (h5 p (by omega) hq).trans (hsO p hp)⟩
 rw [lp_at hi hk, ← oneB_lpo]
 unfold oneB
 have e1 : ∀ n ∈ ns1, ∃ (m : Nat) (x : Term), n = m ∧ m < i ∧ E.s.1[m]? = some x := fun n hn => by
  obtain ⟨j, hj⟩ := List.mem_iff_getElem?.1 hn
  obtain ⟨m, h1, h2, h3⟩ := hns1 j n hj
  have hlt := (List.getElem?_eq_some_iff.1 hi).1
  exact ⟨m, E.s.1[m], h1, h2, List.getElem?_eq_getElem (by omega)⟩
 have e2 : ∀ n ∈ ns2, ∃ (m : Nat) (x : Term), n = m ∧ m < k ∧ E.r.1[m]? = some x := fun n hn => by
  obtain ⟨j, hj⟩ := List.mem_iff_getElem?.1 hn
  obtain ⟨m, h1, h2, h3⟩ := hns2 j n hj
  have hlt := (List.getElem?_eq_some_iff.1 hk).1
  exact ⟨m, E.r.1[m], h1, h2, List.getElem?_eq_getElem (by omega)⟩
 have hp1 : ∃ p1 : Int → Bool, (∀ n ∈ ns1, Asks 76 [.ptr E.oX 0 1, .ptr (nx + 12, 0) 0 4, .ptr E.oA 0 1, .ptr (nx + 1, 0) 0 1] (nx + 15) (E.I (nx + 15) (i + k) M Hs) n (p1 n)) ∧ ns1.any p1 = under E.g a1 (.mk v2 f2 a2) := by
  refine ⟨fun n => match E.s.1[n.toNat]? with | some x => x.sameB (.mk v2 f2 a2) || E.lp n.toNat k | none => false, fun n hn1 => ?_, ?_⟩
  ·obtain ⟨m, ⟨w, f, b⟩, rfl, hm, hx⟩ := e1 n hn1
   obtain ⟨nsm, pm, _, _⟩ := pat_ok hs hx
   simp only [Int.toNat_natCast, hx]
   exact above_asks hsz hl15 hn (by omega) (ih m k (by omega) pm.lt pb.lt) pm (ho1 _ (List.mem_of_getElem? hx)) k2 ⟨by simp, neM 12 0⟩ hs12 ⟨by simp, neM 1 0⟩ hs1
  ·rw [Bool.eq_iff_iff]
   simp only [List.any_eq_true, under, decide_eq_true_eq]
   constructor
   ·rintro ⟨n, hn1, hp⟩
    obtain ⟨j, hj⟩ := List.mem_iff_getElem?.1 hn1
    obtain ⟨m, rfl, h2, h3⟩ := hns1 j n hj
    cases hx : a1[j]? with
    | none => rw [hx] at h3; simp only [Int.toNat_natCast, h3] at hp; cases hp
    | some x =>
     rw [hx] at h3
     simp only [Int.toNat_natCast, h3, Bool.or_eq_true, sameB_eq, lp_at h3 hk, lpoB, decide_eq_true_eq] at hp
     exact ⟨x, List.mem_of_getElem? hx, hp⟩
   ·rintro ⟨x, hx, hp⟩
    obtain ⟨j, hj⟩ := List.mem_iff_getElem?.1 hx
    have hjl := (List.getElem?_eq_some_iff.1 hj).1
    have hn1 : ns1[j]? = some (ns1[j]'(by omega)) := List.getElem?_eq_getElem (by omega)
    obtain ⟨m, h1, h2, h3⟩ := hns1 j _ hn1
    rw [hj] at h3
    refine ⟨_, List.mem_of_getElem? hn1, ?_⟩
    rw [h1]
    simp only [Int.toNat_natCast, h3, Bool.or_eq_true, sameB_eq, lp_at h3 hk, lpoB, decide_eq_true_eq]
    exact hp
 have hp2 : ∃ p2 : Int → Bool, (∀ n ∈ ns2, Asks 78 [.ptr E.oA 0 1, .ptr (nx, 0) 0 1] (nx + 15) (E.I (nx + 15) (i + k) M Hs) n (p2 n)) ∧ ns2.any p2 = !lpoOver E.g (.mk v1 f1 a1) a2 := by
  refine ⟨fun n => !E.lp i n.toNat, fun n hn1 => ?_, ?_⟩
  ·obtain ⟨m, x, rfl, hm, hx⟩ := e2 n hn1
   simp only [Int.toNat_natCast]
   exact notAsk_asks hl15 hn (by omega) (ih i m (by omega) pa.lt (List.getElem?_eq_some_iff.1 hx).1) ⟨by simp, neM0 0⟩ hs0
  ·rw [Bool.eq_iff_iff]
   simp only [List.any_eq_true, lpoOver, Bool.not_eq_true', decide_eq_false_iff_not]
   constructor
   ·rintro ⟨n, hn1, hp⟩ hall
    obtain ⟨j, hj⟩ := List.mem_iff_getElem?.1 hn1
    obtain ⟨m, rfl, h2, h3⟩ := hns2 j n hj
    cases hx : a2[j]? with
    | none =>
     have hjl := (List.getElem?_eq_some_iff.1 hj).1
     rw [List.getElem?_eq_getElem (by omega)] at hx; cases hx
    | some x =>
     rw [hx] at h3
     simp only [Int.toNat_natCast, lp_at hi h3, lpoB, decide_eq_false_iff_not] at hp
     exact hp (hall x (List.mem_of_getElem? hx))
   ·intro hall
    refine Classical.byContradiction fun hc => hall fun x hx => ?_
    obtain ⟨j, hj⟩ := List.mem_iff_getElem?.1 hx
    have hjl := (List.getElem?_eq_some_iff.1 hj).1
    have hn1 : ns2[j]? = some (ns2[j]'(by omega)) := List.getElem?_eq_getElem (by omega)
    obtain ⟨m, h1, h2, h3⟩ := hns2 j _ hn1
    rw [hj] at h3
    refine Classical.byContradiction fun hx2 => hc ⟨_, List.mem_of_getElem? hn1, ?_⟩
    rw [h1]
    simp only [Int.toNat_natCast, lp_at hi h3, lpoB, decide_eq_false_iff_not]
    exact hx2
 obtain ⟨p1, hp1, hany1⟩ := hp1
 obtain ⟨p2, hp2, hany2⟩ := hp2
 by_cases hf1 : f1.toList = []
 ·refine ⟨Hs, nx + 23, acall_body code75 ?_, ?_, hI0⟩
  ·rw [hHs]
   simp [LE.findC, plc_raw, Nat.add_assoc, hx, hrx, hy, hry, fx, fx0, frx, frx0, fy, fy0, fry, fry0, pa.lt, pa.lti, pa.len, pa.t4, pa.ltm, pa.le4, pb.lt, pb.lti, pb.len, pb.t4, pb.ltm, pb.le4, ney, nery, hf1]
  ·omega
 obtain ⟨⟨H1, N1⟩, hc1, hN1, hI1⟩ := hasI_ok 76 (.inl rfl) _ _ _ hold ns1 z1 (some (decide (ns1 = []))) p1 hp1 Hs (nx + 27) (by omega) hI0
 simp only at hc1 hN1 hI1
 rw [hany1] at hc1
 have q11 := (hI1.2.2 (nx + 11, 0) (by simp) (neM 11 0)).trans hs11
 have q12 := (hI1.2.2 (nx + 12, 0) (by simp) (neM 12 0)).trans hs12
 rw [if_neg hf1]
 by_cases hu : under E.g a1 (.mk v2 f2 a2) = true
 ·rw [hu] at hc1
  simp only [hu, if_true]
  refine ⟨H1, N1 + 1, acall_body code75 ?_, by omega, hI1⟩
  rw [hHs] at hc1
  simp [LE.findC, plc_raw, Nat.add_assoc, hx, hrx, hy, hry, fx, fx0, frx, frx0, fy, fy0, fry, fry0, pa.lt, pa.lti, pa.len, pa.t4, pa.ltm, pa.le4, pb.lt, pb.lti, pb.len, pb.t4, pb.ltm, pb.le4, ney, nery, hf1, hc1]
 simp only [Bool.not_eq_true] at hu
 rw [hu] at hc1
 simp only [hu]
 by_cases hf2 : f2.toList = []
 ·refine ⟨H1, N1 + 12, acall_body code75 ?_, by omega, hI1⟩
  rw [hHs] at hc1
  simp [LE.findC, plc_raw, Nat.add_assoc, hx, hrx, hy, hry, fx, fx0, frx, frx0, fy, fy0, fry, fry0, pa.lt, pa.lti, pa.len, pa.t4, pa.ltm, pa.le4, pb.lt, pb.lti, pb.len, pb.t4, pb.ltm, pb.le4, ney, nery, hf1, hc1, q11, q12, hf2]
 obtain ⟨⟨H2, N2⟩, hc2, hN2, hI2⟩ := hasI_ok 78 (.inr rfl) _ _ _ hold ns2 z2 (some (decide (ns2 = []))) p2 hp2 H1 (N1 + 11) (by omega) hI1
 simp only at hc2 hN2 hI2
 rw [hany2] at hc2
 have r11 := (hI2.2.2 (nx + 11, 0) (by simp) (neM 11 0)).trans hs11
 have r12 := (hI2.2.2 (nx + 12, 0) (by simp) (neM 12 0)).trans hs12
 have rG := hI2.1.G
 simp only [Bool.false_eq_true, if_false, if_neg hf2]
 cases hv : lpoOver E.g (.mk v1 f1 a1) a2
 ·rw [hv] at hc2
  refine ⟨H2, N2 + 1, acall_body code75 ?_, by omega, hI2⟩
  rw [hHs] at hc1
  simp [LE.findC, plc_raw, Nat.add_assoc, hx, hrx, hy, hry, fx, fx0, frx, frx0, fy, fy0, fry, fry0, pa.lt, pa.lti, pa.len, pa.t4, pa.ltm, pa.le4, pb.lt, pb.lti, pb.len, pb.t4, pb.ltm, pb.le4, ney, nery, hf1, hc1, q11, q12, hf2, hc2]
 rw [hv] at hc2
 simp only [Bool.true_eq_false, if_false]
 have hsym := psymbol_ok E.g hg v1 f1 a1 v2 f2 a2
 simp [Term.enc, Sg.enc] at hsym
 by_cases hff : f1.toList = f2.toList
 ·by_cases hlen : a1.length = a2.length
  ·have hcd : ¬ (f1.toList ≠ f2.toList ∨ a1.length ≠ a2.length) := by simp [hff, hlen]
   rw [if_neg hcd]
   obtain ⟨e, t, hrun, hR⟩ := find_loop E hs hr hsz hrz hn i k v1 f1 a1 v2 f2 a2 hi hk ho1 ho2 ih ns1 ns2 hl1 hns1 hl2 hns2 hlen k1.1 nx hl M Hs hs12 H2 (N2 + 21) (by omega) hI2
   simp [findT] at hrun
   have hll : ns1.length = ns2.length := by omega
   cases hfg : firstGt E.g a1 a2 with
   | none =>
    rw [hfg] at hR
    obtain ⟨H', n', rfl, rfl, hn', hI'⟩ := hR
    refine ⟨H', n' + 1, acall_body code75 ?_, by omega, hI'⟩
    rw [hHs] at hc1
    simp only [findH, hll] at hc1 q11 r11 hrun
    simp [LE.findC, plc_raw, Nat.add_assoc, hx, hrx, hy, hry, fx, fx0, frx, frx0, fy, fy0, fry, fry0, pa.lt, pa.lti, pa.len, pa.t4, pa.ltm, pa.le4, pb.lt, pb.lti, pb.len, pb.t4, pb.ltm, pb.le4, ney, nery, hf1, hc1, q11, q12, hf2, hc2, r11, r12, rG, hff, hll, hrun]
   | some x =>
    rw [hfg] at hR
    obtain ⟨rfl, ht, hn', hI'⟩ := hR
    refine ⟨t.hp, t.nx, acall_body code75 ?_, by omega, hI'⟩
    rw [hHs] at hc1
    simp only [findH, hll] at hc1 q11 r11 hrun
    simp [LE.findC, plc_raw, Nat.add_assoc, hx, hrx, hy, hry, fx, fx0, frx, frx0, fy, fy0, fry, fry0, pa.lt, pa.lti, pa.len, pa.t4, pa.ltm, pa.le4, pb.lt, pb.lti, pb.len, pb.t4, pb.ltm, pb.le4, ney, nery, hf1, hc1, q11, q12, hf2, hc2, r11, r12, rG, hff, hll, hrun, ht]
  ·have hcd : f1.toList ≠ f2.toList ∨ a1.length ≠ a2.length := .inr hlen
   rw [if_pos hcd]
   refine ⟨H2, N2 + 24, acall_body code75 ?_, by omega, hI2⟩
   have hll : ¬ (ns1.length : Int) = ns2.length := by omega
   rw [hHs] at hc1
   simp [LE.findC, plc_raw, Nat.add_assoc, hx, hrx, hy, hry, fx, fx0, frx, frx0, fy, fy0, fry, fry0, pa.lt, pa.lti, pa.len, pa.t4, pa.ltm, pa.le4, pb.lt, pb.lti, pb.len, pb.t4, pb.ltm, pb.le4, ney, nery, hf1, hc1, q11, q12, hf2, hc2, r11, r12, rG, hff, hll, hsym]
 ·have hcd : f1.toList ≠ f2.toList ∨ a1.length ≠ a2.length := .inl hff
  rw [if_pos hcd]
  refine ⟨H2, N2 + 24, acall_body code75 ?_, by omega, hI2⟩
  rw [hHs] at hc1
  simp [LE.findC, plc_raw, Nat.add_assoc, hx, hrx, hy, hry, fx, fx0, frx, frx0, fy, fy0, fry, fry0, pa.lt, pa.lti, pa.len, pa.t4, pa.ltm, pa.le4, pb.lt, pb.lti, pb.len, pb.t4, pb.ltm, pb.le4, ney, nery, hf1, hc1, q11, q12, hf2, hc2, r11, r12, rG, hff, hsym]
end Go.Proofs.YtajilkmepjhkdaaGreat.Am

/-
 The program's path order: asking for a pair. No condition.
-/
namespace Go.Proofs.YtajilkmepjhkdaaGreat.Am
open Go Go.Proofs
set_option maxHeartbeats 4000000
set_option maxRecDepth 20000
set_option linter.unusedSimpArgs false
set_option linter.unusedVariables false
theorem ask_ok (E : LE) (hn : E.Ne) (i k : Nat) (hf : E.FindOk i k) : E.AskOk i k := by
 intro H nx M hl hin hM hT
 have hK := hin.K
 have hF := hin.F
 have fK : ∀ k j x H', Am.upd H' (nx + k, j) x E.oK = H' E.oK := fun k j x H' => upd_old (by have := hl.K; omega) j x H'
 have fF : ∀ k j x H', Am.upd H' (nx + k, j) x E.oF = H' E.oF := fun k j x H' => upd_old (by have := hl.F; omega) j x H'
 have fM : ∀ k j x H', Am.upd H' (nx + k, j) x E.oM = H' E.oM := fun k j x H' => upd_old (by have := hl.M; omega) j x H'
 have neM : ∀ k j, (nx + k, j) ≠ E.oM := fun k j e => by have := hl.M; rw [← e] at this; simp at this; omega
 have hlk := fun (H' : Hp) (M' : PM) (h : H' E.oM = some (mkM M')) => lookM h i k
 have hup := fun (H' : Hp) (M' : PM) (h : H' E.oM = some (mkM M')) (v : Int) => updM h i k v
 obtain ⟨Hs, hHs⟩ : ∃ Hs, Hs = upd (upd H (nx + 4, 0) (.cells [.d (.int .i64 0), .d (.int .i64 0)])) (nx + 4, 0) (.cells [.d (.int .i64 i), .d (.int .i64 k)]) := ⟨_, rfl⟩
 have hsO : ∀ p : Oid, p.1 < nx → Hs p = H p := fun p hp => by rw [hHs, upd_old (by omega), upd_old (by omega)]
 have hs4 : Hs (nx + 4, 0) = some (.cells [.d (.int .i64 i), .d (.int .i64 k)]) := by rw [hHs]; simp
 have hsM : Hs E.oM = some (mkM M) := (hsO _ hl.M).trans hM
 have hsK := (hsO _ hl.K).trans hK
 have hsF := (hsO _ hl.F).trans hF
 have hHs' := hHs
 simp at hHs'
 rcases hT i k (by omega) with h0 | ⟨h2, hlp⟩ | ⟨h1, hlp⟩
 ·-- not asked yet
  obtain ⟨H1, hH1⟩ : ∃ H1, H1 = upd Hs E.oM (mkM (setM M i k 1)) := ⟨_, rfl⟩
  have h1O : ∀ p : Oid, p ≠ E.oM → H1 p = Hs p := fun p hp => by rw [hH1, upd_ne hp]
  have h1M : H1 E.oM = some (mkM (setM M i k 1)) := by rw [hH1]; simp
  have hne : ∀ a c : Nat, a + c ≠ i + k ∨ a ≠ i → ¬ ((a : Int) = i ∧ (c : Int) = k) := fun a c h e => by omega
  have hT1 : E.Truth (setM M i k 1) (i + k) := fun a c hac => by
   rw [get_set_ne 1 (hne a c (.inl (by omega)))]
   exact hT a c (by omega)
  have hin1 : E.In H1 := hin.keep hl hn fun p hp hq => (h1O p hq).trans (hsO p hp)
  obtain ⟨⟨H2, N2⟩, hc, hN2, ⟨M2, hM2, hT2, hge⟩, hfr⟩ := hf H1 (nx + 17) _ (hl.mono (by omega)) hin1 h1M hT1
  simp only at hc hN2 hM2 hfr
  simp only [LE.findC] at hc
  have g1 : getM M2 i k = 1 := (hge i k (by omega)).trans (get_set_same _ _ _ _)
  have gO : ∀ a c : Nat, i + k ≤ a + c → a ≠ i ∨ c ≠ k → getM M2 a c = getM M a c := fun a c h h2 => (hge a c h).trans (get_set_ne 1 (fun e => by omega) _)
  have h24 := (hfr (nx + 4, 0) (by simp) (neM 4 0)).trans ((h1O _ (neM 4 0)).trans hs4)
  have h2K := (hfr _ (by have := hl.K; omega) hn.K).trans ((h1O _ hn.K).trans hsK)
  have hfr2 : ∀ p : Oid, p.1 < nx → p ≠ E.oM → H2 p = H p := fun p hp hq => (hfr p (by omega) hq).trans ((h1O p hq).trans (hsO p hp))
  have u1 := hup Hs M hsM 1
  rw [← hH1] at u1
  have l1 := hlk Hs M hsM
  have l2 := hlk H2 M2 hM2
  have h14 := (h1O _ (neM 4 0)).trans hs4
  have h1K := (h1O _ hn.K).trans hsK
  have h1F := (h1O _ hn.F).trans hsF
  cases hb : E.lp i k
  ·rw [hb] at hc
   refine ⟨(H2, N2 + 5), acall_body code80 ?_, by simp only; omega, ⟨M2, hM2, fun a c hac => ?_, fun a c hac => gO a c (by omega) (by omega)⟩, hfr2⟩
   ·simp [LE.askC, plc_raw, Nat.add_assoc, ← hHs', hsK, hs4, hsF, l1, h0, u1, h1K, h14, h1F, hc, h2K, h24, l2, g1, -lookupO, -mapUpdateO]
   ·rcases Nat.lt_or_ge (a + c) (i + k) with h | h
    ·exact hT2 a c h
    ·by_cases he : a = i ∧ c = k
     ·obtain ⟨rfl, rfl⟩ := he
      exact .inr (.inr ⟨g1, hb⟩)
     ·rw [gO a c h (by omega)]; exact hT a c hac
  ·rw [hb] at hc
   obtain ⟨H3, hH3⟩ : ∃ H3, H3 = upd H2 E.oM (mkM (setM M2 i k 2)) := ⟨_, rfl⟩
   have u2 := hup H2 M2 hM2 2
   rw [← hH3] at u2
   have h3M : H3 E.oM = some (mkM (setM M2 i k 2)) := by rw [hH3]; simp
   have h3O : ∀ p : Oid, p ≠ E.oM → H3 p = H2 p := fun p hp => by rw [hH3, upd_ne hp]
   have h34 := (h3O _ (neM 4 0)).trans h24
   have h3K := (h3O _ hn.K).trans h2K
   have l3 := hlk H3 _ h3M
   have g2 : getM (setM M2 i k 2) i k = 2 := get_set_same _ _ _ _
   refine ⟨(H3, N2 + 8), acall_body code80 ?_, by simp only; omega, ⟨setM M2 i k 2, h3M, fun a c hac => ?_, fun a c hac => (get_set_ne 2 (fun e => by omega) _).trans (gO a c (by omega) (by omega))⟩, fun p hp hq => (h3O p hq).trans (hfr2 p hp hq)⟩
   ·simp [LE.askC, plc_raw, Nat.add_assoc, ← hHs', hsK, hs4, hsF, l1, h0, u1, h1K, h14, h1F, hc, h2K, h24, u2, h3K, h34, l3, g2, -lookupO, -mapUpdateO]
   ·by_cases he : a = i ∧ c = k
    ·obtain ⟨rfl, rfl⟩ := he
     exact .inr (.inl ⟨g2, hb⟩)
    ·rw [get_set_ne 2 (fun e => by omega)]
     rcases Nat.lt_or_ge (a + c) (i + k) with h | h
     ·exact hT2 a c h
     ·rw [gO a c h (by omega)]; exact hT a c hac
 ·refine ⟨(Hs, nx + 15), acall_body code80 ?_, by simp only; omega, ⟨M, hsM, hT, fun _ _ _ => rfl⟩, fun p hp _ => hsO p hp⟩
  have l1 := hlk Hs M hsM
  simp [LE.askC, plc_raw, Nat.add_assoc, ← hHs', hsK, hs4, hsF, l1, h2, hlp, -lookupO, -mapUpdateO]
 ·refine ⟨(Hs, nx + 15), acall_body code80 ?_, by simp only; omega, ⟨M, hsM, hT, fun _ _ _ => rfl⟩, fun p hp _ => hsO p hp⟩
  have l1 := hlk Hs M hsM
  simp [LE.askC, plc_raw, Nat.add_assoc, ← hHs', hsK, hs4, hsF, l1, h1, hlp, -lookupO, -mapUpdateO]
theorem ask_all (E : LE) (hg : E.g.ok) (hs : LOk E.s) (hr : LOk E.r) (hsz : E.s.1.length ≤ 9223372036854775807) (hrz : E.r.1.length ≤ 9223372036854775807) (hn : E.Ne) (ho1 : ∀ x ∈ E.s.1, x.ok) (ho2 : ∀ x ∈ E.r.1, x.ok) :
  ∀ (n i k : Nat), i + k < n → i < E.s.1.length → k < E.r.1.length → E.AskOk i k := by
 intro n
 induction n with
 | zero => intro i k h; omega
 | succ n ih =>
  intro i k h hi hk
  obtain ⟨v1, f1, a1, h1⟩ := get_mk hi
  obtain ⟨v2, f2, a2, h2⟩ := get_mk hk
  exact ask_ok E hn i k (find_ok E hg hs hr hsz hrz hn i k v1 f1 a1 v2 f2 a2 h1 h2 ho1 ho2 fun a c hac ha hc => ih a c (by omega) ha hc)
end Go.Proofs.YtajilkmepjhkdaaGreat.Am

/-
 The program's path order: it is the order. No condition.
-/
namespace Go.Proofs.YtajilkmepjhkdaaGreat.Am
open Go Go.Proofs
set_option maxHeartbeats 4000000
set_option maxRecDepth 20000
set_option linter.unusedSimpArgs false
set_option linter.unusedVariables false
theorem lay_ok_mem (t : Term) : t.ok → ∀ s : Laid, (∀ x ∈ s.1, x.ok) → ∀ x ∈ (t.lay s).1.1, x.ok := by
 refine Term.ind (p := fun t => t.ok → ∀ s : Laid, (∀ x ∈ s.1, x.ok) → ∀ x ∈ (t.lay s).1.1, x.ok) (fun v fn args ih h s hs => ?_) t
 have hl : ∀ (a : List Term), (∀ x ∈ a, x ∈ args) → ∀ (s : Laid) own, (∀ x ∈ s.1, x.ok) → ∀ x ∈ (layL a s own).1.1, x.ok := by
  intro a
  induction a with
  | nil => intro _ s own hs; simpa [layL] using hs
  | cons y r ih2 =>
   intro hm s own hs
   simp only [layL]
   exact ih2 (fun z hz => hm z (by simp [hz])) _ _ (ih y (hm y (by simp)) (okL_mem h.2 _ (hm y (by simp))) s hs)
 intro x hx
 simp only [Term.lay, List.mem_append, List.mem_singleton] at hx
 rcases hx with hx | rfl
 ·exact hl args (fun _ h => h) s [] hs x hx
 ·exact h
theorem pgreater_ok (g : Sg) (hg : g.ok) (t : Term) (ht : t.ok) (hts : t.size ≤ 1048576) (u : Term) (hu : u.ok) (hus : u.size ≤ 1048576) :
  pcl Cp 53 [.agg g.enc, .agg t.enc, .agg u.enc] = some (.bool (lpoB g t u)) := by
 obtain ⟨s, hsd⟩ : ∃ s, s = (t.lay ([], [])).1 := ⟨_, rfl⟩
 obtain ⟨r, hrd⟩ : ∃ r, r = (u.lay ([], [])).1 := ⟨_, rfl⟩
 obtain ⟨hs, _, n, hn, hsn⟩ := lay_lok t ([], []) lok_nil
 obtain ⟨hr, _, m, hm, hrm⟩ := lay_lok u ([], []) lok_nil
 have hsl := lay_size t ([], [])
 have hrl := lay_size u ([], [])
 have ho1 := lay_ok_mem t ht ([], []) (by simp)
 have ho2 := lay_ok_mem u hu ([], []) (by simp)
 have L1 := laid_ok t ht ([], []) none rfl (by simpa using hts)
 have L2 := laid_ok u hu ([], []) none rfl (by simpa using hus)
 obtain ⟨v, fn, args⟩ := t
 obtain ⟨v2, fn2, args2⟩ := u
 unfold DoesP at L1 L2
 rw [← hsd] at hs hsn hsl ho1 L1
 rw [← hrd] at hr hrm hrl ho2 L2
 rw [hn] at L1
 rw [hm] at L2
 obtain ⟨Ha, hHa⟩ : ∃ Ha : Hp, Ha = upd (upd (upd (fun _ => none) (0, 0) (.cells [.d (.sl (encS g.names) g.names.length false none), .d (.sl (encI g.weights) g.weights.length false none)])) (1, 0) (.cells [.d (.int .i64 v), .d (.str fn), .d (.sl (encL args) args.length false none)])) (2, 0) (.cells [.d (.int .i64 v2), .d (.str fn2), .d (.sl (encL args2) args2.length false none)]) := ⟨_, rfl⟩
 obtain ⟨⟨H1, N1, o1⟩, c1, n1, r1, l1, _, g1, f1⟩ := L1 Ha 12 (by simp) rfl
 simp only at c1 n1 r1 l1 g1 f1
 have g1 := g1 trivial
 obtain ⟨Hb, hHb⟩ : ∃ Hb : Hp, Hb = upd (upd H1 (9, 1) .vnil) (9, 0) (.cells [.osl o1 0 s.1.length 4 (s.1.length * 4)]) := ⟨_, rfl⟩
 obtain ⟨⟨H2, N2, o2⟩, c2, n2, r2, l2, _, g2, f2⟩ := L2 Hb (N1 + 8) (by simp) rfl
 simp only at c2 n2 r2 l2 g2 f2
 have g2 := g2 trivial
 have q1 : H1 (1, 0) = some (.cells [.d (.int .i64 v), .d (.str fn), .d (.sl (encL args) args.length false none)]) := by rw [f1 _ (by simp) (by simp), hHa]; simp
 have q2 : H1 (2, 0) = some (.cells [.d (.int .i64 v2), .d (.str fn2), .d (.sl (encL args2) args2.length false none)]) := by rw [f1 _ (by simp) (by simp), hHa]; simp
 have q0 : H1 (0, 0) = some (.cells [.d (.sl (encS g.names) g.names.length false none), .d (.sl (encI g.weights) g.weights.length false none)]) := by rw [f1 _ (by simp) (by simp), hHa]; simp
 simp [rowV, Term.enc] at c1 c2
 obtain ⟨Hc, hHc⟩ : ∃ Hc : Hp, Hc = upd (upd (upd (upd (upd (upd (upd H2 (N1 + 5, 1) .vnil) (N1 + 5, 0) (.cells [.osl o2 0 r.1.length 4 (r.1.length * 4)])) (N2, 0) (.mp (true, [.int .i64, .int .i64]) [] 0)) (N2 + 1, 0) (.cells [.map (N2, 0)])) (N2 + 3, 0) (.cells [.d .nilfn]))
  (N2 + 5, 0) (.cells [.fn 75 [.ptr (9, 0) 0 1, .ptr (N1 + 5, 0) 0 1, .ptr (N2 + 3, 0) 0 1, .ptr (0, 0) 0 2]])) (N2 + 3, 0) (.cells [.fn 80 [.ptr (N2 + 1, 0) 0 1, .ptr (N2 + 5, 0) 0 1]]) := ⟨_, rfl⟩
 have hne1 : s.1 ≠ [] := r1.1
 have hne2 : r.1 ≠ [] := r2.1
 have hb : ∀ p : Oid, p.1 < N1 + 8 → H2 p = Hb p := fun p hp => f2 p hp (by simp)
 have hc5 : ∀ p : Oid, p ≠ (N1 + 5, 0) → p ≠ (N1 + 5, 1) → p.1 < N2 → Hc p = H2 p := fun p a c d => by
  rw [hHc, upd_old (by omega), upd_old (by omega), upd_old (by omega), upd_old (by omega), upd_old (by omega), upd_ne a, upd_ne c]
 have hb9 : ∀ p : Oid, p.1 ≠ 9 → Hb p = H1 p := fun p a => by
  rw [hHb, upd_ne (fun e => a (by rw [e])), upd_ne (fun e => a (by rw [e]))]
 let E : LE := ⟨g, s, r, (9, 0), (N1 + 5, 0), (N2 + 1, 0), (N2 + 3, 0), (N2 + 5, 0), (0, 0), o1, o2, (N2, 0)⟩
 have hE : E.Ne := ⟨fun e => by have := congrArg Prod.fst e; simp only [E] at this; omega, fun e => by have := congrArg Prod.fst e; simp only [E] at this; omega, fun e => by have := congrArg Prod.fst e; simp only [E] at this; omega, fun e => by have := congrArg Prod.fst e; simp only [E] at this; omega, fun e => by have := congrArg Prod.fst e; simp only [E] at this; omega, fun e => by have := congrArg Prod.fst e; simp only [E] at this; omega, fun e => by have := congrArg Prod.fst e; simp only [E] at this; omega, fun e => by have := congrArg Prod.fst e; simp only [E] at this; omega⟩
 have hlt : E.Lt (N2 + 14) := ⟨by simp only [E]; omega, by simp only [E]; omega, by simp only [E]; omega, by simp only [E]; omega, by simp only [E]; omega, by simp only [E]; omega, by simp only [E]; omega, by simp only [E]; omega, by simp only [E]; omega⟩
 have nlt : ∀ {p q : Oid}, p.1 ≠ q.1 → p ≠ q := fun h e => h (by rw [e])
 have hin : E.In Hc := by
  refine ⟨?_, ?_, ?_, ?_, ?_, ?_, ?_, ?_⟩
  ·simp only [E]
   rw [hc5 _ (nlt (by simp only; omega)) (nlt (by simp only; omega)) (by simp only; omega), hb _ (by simp only; omega), hHb]; simp
  ·simp only [E]
   rw [hc5 _ (nlt (by simp only; omega)) (nlt (by simp only; omega)) (by omega), hb _ (by omega), hb9 _ (by omega)]; exact r1.2
  ·simp only [E]
   rw [hHc, upd_old (by simp only; omega), upd_old (by simp only; omega), upd_old (by simp only; omega), upd_old (by simp only; omega), upd_old (by simp only; omega)]; simp
  ·simp only [E]
   rw [hc5 _ (nlt (by simp only; omega)) (nlt (by simp only; omega)) (by omega)]; exact r2.2
  ·simp only [E]; rw [hHc]; simp
  ·simp only [E]; rw [hHc]; simp
  ·simp only [E]; rw [hHc]; simp
  ·simp only [E]
   rw [hc5 _ (nlt (by simp only; omega)) (nlt (by simp only; omega)) (by simp only; omega), hb _ (by simp only; omega), hb9 _ (by simp)]; exact q0
 have hM : Hc E.oM = some (mkM []) := by simp only [E]; rw [hHc]; simp [mkM, encMp]
 have hnl := (List.getElem?_eq_some_iff.1 hsn).1
 have hml := (List.getElem?_eq_some_iff.1 hrm).1
 simp only [List.length_nil, Nat.zero_add] at hsl hrl
 obtain ⟨⟨H3, N3⟩, c3, _, _, _⟩ := ask_all E hg hs hr (by simp only [E]; omega) (by simp only [E]; omega) hE ho1 ho2 (n + m + 1) n m (by omega) hnl hml Hc (N2 + 14) [] hlt hin hM (fun a c h => .inl rfl)
 rw [lp_at (E := E) hsn hrm] at c3
 simp only [E, LE.askC] at c3
 rw [hHc] at c3
 rw [hHb] at c2
 refine pcl_body code53 ?_
 rw [hHa] at c1
 simp [plc_raw, Nat.add_assoc, Term.enc, Sg.enc, c1, q1, q2, c2, c3]
end Go.Proofs.YtajilkmepjhkdaaGreat.Am

/-
 The document's exported functions of the order of Knuth and Bendix, and the chapter's examples. No condition.
-/
namespace Go.Proofs.YtajilkmepjhkdaaGreat.Am
open Go Go.Proofs
set_option maxHeartbeats 4000000
set_option linter.unusedSimpArgs false
set_option linter.unusedVariables false
theorem rCompare_ok (g : Sg) (hg : g.ok) (t : Term) (ht : t.ok) (hts : t.size ≤ 1048576) (u : Term) (hu : u.ok) (hus : u.size ≤ 1048576) : pcl Cp 93 [.agg g.enc, .agg t.enc, .agg u.enc] = some (.int .i64 (g.rCmp t u)) := by
 have h1 := grright_ok g hg
 have h2 := rright_ok t ht
 have h3 := rright_ok u hu
 have h4 := rsame_ok t ht u hu
 have h5 := rgreater_ok g hg t ht hts u hu hus
 have h6 := rgreater_ok g hg u hu hus t ht hts
 refine pcl_body code93 ?_
 unfold Sg.rCmp
 generalize t.rightE = z at *
 generalize u.rightE = z2 at *
 generalize t.sameB u = b at *
 generalize t.rgt g u = r1 at *
 generalize u.rgt g t = r2 at *
 generalize g.right = gr at *
 obtain ⟨v, fn, args⟩ := t
 obtain ⟨v2, fn2, args2⟩ := u
 simp [Term.enc, Sg.enc] at h1 h2 h3 h4 h5 h6 ⊢
 cases gr
 ·simp [plc_raw, h1]
 by_cases hz : z = 0
 ·by_cases hz2 : z2 = 0
  ·cases b
   ·cases r1
    ·cases r2 <;> simp [plc_raw, h1, h2, h3, h4, h5, h6, hz, hz2]
    ·simp [plc_raw, h1, h2, h3, h4, h5, h6, hz, hz2]
   ·simp [plc_raw, h1, h2, h3, h4, h5, h6, hz, hz2]
  ·simp [plc_raw, h1, h2, h3, hz, hz2]
 ·simp [plc_raw, h1, h2, h3, hz]
end Go.Proofs.YtajilkmepjhkdaaGreat.Am

/-
 The laws of the order of Knuth and Bendix: each function returns true. No condition.
-/
namespace Go.Proofs.YtajilkmepjhkdaaGreat.Am
open Go Go.Proofs
set_option maxHeartbeats 4000000
set_option linter.unusedSimpArgs false
set_option linter.unusedVariables false
abbrev tX : Term := .mk 0 (ByteArray.mk #[]) []
abbrev tA : Term := .mk 0 (ByteArray.mk #[97]) []
abbrev tB : Term := .mk 0 (ByteArray.mk #[98]) []
abbrev tF (t : Term) : Term := .mk 0 (ByteArray.mk #[102]) [t]
theorem pcl_eval {f : FuncId} {ds : List D} {x : D} {n : Nat} (h : pcl (oracles Tryz.prog plc n).1 f ds = some x) : pcl Cp f ds = some x :=
 pcl_mono (fun f vs H nx r h => (acall_some Tryz.prog plc).2 ⟨n, h⟩) h
theorem kCmp_range (g : Sg) (t u : Term) (ht : t.size ≤ 1048576) (hu : u.size ≤ 1048576) : -1 ≤ g.kCmp t u ∧ g.kCmp t u ≤ 2 := by
 rw [kCmp_spec g t u ht hu]
 split
 ·split
  ·omega
  ·split
   ·omega
   ·split <;> omega
 ·omega
end Go.Proofs.YtajilkmepjhkdaaGreat.Am

/-
 The path order: the program's exported function, and the chapter's examples. No condition.
-/
namespace Go.Proofs.YtajilkmepjhkdaaGreat.Am
open Go Go.Proofs
set_option maxHeartbeats 4000000
set_option maxRecDepth 20000
set_option linter.unusedSimpArgs false
set_option linter.unusedVariables false
noncomputable section
open Classical
def Sg.lCmp (g : Sg) (t u : Term) : Int := if g.right = true ∧ t.rightE = 0 ∧ u.rightE = 0 then (if t = u then 0 else if Lpo g t u then 1 else if Lpo g u t then -1 else 2) else 2
end
theorem lCmp_bool (g : Sg) (t u : Term) : g.lCmp t u = if g.right = true ∧ t.rightE = 0 ∧ u.rightE = 0 then (if t.sameB u = true then 0 else if lpoB g t u = true then 1 else if lpoB g u t = true then -1 else 2) else 2 := by
 unfold Sg.lCmp
 by_cases h : g.right = true ∧ t.rightE = 0 ∧ u.rightE = 0
 ·rw [if_pos h, if_pos h]
  by_cases he : t = u
  ·rw [if_pos he, if_pos ((sameB_eq t u).2 he)]
  ·rw [if_neg he, if_neg (mt (sameB_eq t u).1 he)]
   by_cases h1 : Lpo g t u
   ·rw [if_pos h1, if_pos (show lpoB g t u = true by simp [lpoB, h1])]
   ·rw [if_neg h1, if_neg (show ¬ lpoB g t u = true by simp [lpoB, h1])]
    by_cases h2 : Lpo g u t
    ·rw [if_pos h2, if_pos (show lpoB g u t = true by simp [lpoB, h2])]
    ·rw [if_neg h2, if_neg (show ¬ lpoB g u t = true by simp [lpoB, h2])]
 ·rw [if_neg h, if_neg h]
theorem lCompare_ok (g : Sg) (hg : g.ok) (t : Term) (ht : t.ok) (hts : t.size ≤ 1048576) (u : Term) (hu : u.ok) (hus : u.size ≤ 1048576) : pcl Cp 29 [.agg g.enc, .agg t.enc, .agg u.enc] = some (.int .i64 (g.lCmp t u)) := by
 have h1 := gright_ok g hg
 have h2 := tright_ok t ht
 have h3 := tright_ok u hu
 have h4 := same_ok t ht u hu
 have h5 := pgreater_ok g hg t ht hts u hu hus
 have h6 := pgreater_ok g hg u hu hus t ht hts
 refine pcl_body code29 ?_
 have hk := lCmp_bool g t u
 rw [hk]
 generalize t.sameB u = b1 at *
 generalize lpoB g t u = b2 at *
 generalize lpoB g u t = b3 at *
 generalize t.rightE = z at *
 generalize u.rightE = z2 at *
 clear hk
 obtain ⟨v, fn, args⟩ := t
 obtain ⟨v2, fn2, args2⟩ := u
 simp [Term.enc, Sg.enc] at h1 h2 h3 h4 h5 h6 ⊢
 by_cases hr : g.right = true
 ·simp [hr] at h1
  by_cases hz : z = 0
  ·by_cases hz2 : z2 = 0
   ·cases b1
    ·cases b2
     ·cases b3 <;> simp [plc_raw, h1, h2, h3, h4, h5, h6, hz, hz2, hr]
     ·simp [plc_raw, h1, h2, h3, h4, h5, h6, hz, hz2, hr]
    ·simp [plc_raw, h1, h2, h3, h4, h5, h6, hz, hz2, hr]
   ·simp [plc_raw, h1, h2, h3, hz, hz2, hr]
  ·simp [plc_raw, h1, h2, h3, hz, hr]
 ·simp [hr] at h1
  simp [plc_raw, h1, hr]
theorem lCmp_turn (g : Sg) (t u : Term) : (g.lCmp t u = 2 ∧ g.lCmp u t = 2) ∨ (g.lCmp t u ≠ 2 ∧ g.lCmp u t = - g.lCmp t u) := by
 unfold Sg.lCmp
 by_cases h : g.right = true ∧ t.rightE = 0 ∧ u.rightE = 0
 ·have h' : g.right = true ∧ u.rightE = 0 ∧ t.rightE = 0 := ⟨h.1, h.2.2, h.2.1⟩
  rw [if_pos h, if_pos h']
  by_cases he : t = u
  ·subst he; simp
  ·have he' : ¬ u = t := fun e => he e.symm
   by_cases h1 : Lpo g t u
   ·have h2 := h1.asymm
    simp [he, he', h1, h2]
   ·by_cases h2 : Lpo g u t <;> simp [he, he', h1, h2]
 ·have h' : ¬ (g.right = true ∧ u.rightE = 0 ∧ t.rightE = 0) := fun k => h ⟨k.1, k.2.2, k.2.1⟩
  rw [if_neg h, if_neg h']
  simp
theorem lCmp_gt (g : Sg) (t u : Term) : g.lCmp t u = 1 ↔ g.right = true ∧ t.rightE = 0 ∧ u.rightE = 0 ∧ Lpo g t u := by
 unfold Sg.lCmp
 by_cases h : g.right = true ∧ t.rightE = 0 ∧ u.rightE = 0
 ·rw [if_pos h]
  by_cases he : t = u
  ·subst he; simp [Lpo.irrefl]
  ·by_cases h1 : Lpo g t u
   ·simp [he, h1, h]
   ·by_cases h2 : Lpo g u t <;> simp [he, h1, h2]
 ·rw [if_neg h]
  simp only [show ¬ ((2 : Int) = 1) by decide, false_iff]
  exact fun k => h ⟨k.1, k.2.1, k.2.2.1⟩
theorem lCmp_trans (g : Sg) (t u w : Term) (h1 : g.lCmp t u = 1) (h2 : g.lCmp u w = 1) : g.lCmp t w = 1 := by
 rw [lCmp_gt] at h1 h2 ⊢
 exact ⟨h1.1, h1.2.1, h2.2.2.1, h1.2.2.2.trans h2.2.2.2⟩
theorem lCmp_range (g : Sg) (t u : Term) : -1 ≤ g.lCmp t u ∧ g.lCmp t u ≤ 2 := by
 unfold Sg.lCmp
 split
 ·split
  ·omega
  ·split
   ·omega
   ·split <;> omega
 ·omega
theorem lCmp_of (g : Sg) (t u : Term) (hg : g.right = true) (ht : t.rightE = 0) (hu : u.rightE = 0) : (t = u → g.lCmp t u = 0) ∧ (Lpo g t u → g.lCmp t u = 1) ∧ (Lpo g u t → g.lCmp t u = -1) := by
 have h : g.right = true ∧ t.rightE = 0 ∧ u.rightE = 0 := ⟨hg, ht, hu⟩
 refine ⟨fun e => ?_, fun k => ?_, fun k => ?_⟩
 ·unfold Sg.lCmp; rw [if_pos h, if_pos e]
 ·exact (lCmp_gt g t u).2 ⟨hg, ht, hu, k⟩
 ·rcases lCmp_turn g u t with ⟨h1, _⟩ | ⟨_, h1⟩
  ·rw [(lCmp_gt g u t).2 ⟨hg, hu, ht, k⟩] at h1; cases h1
  ·rw [h1, (lCmp_gt g u t).2 ⟨hg, hu, ht, k⟩]
end Go.Proofs.YtajilkmepjhkdaaGreat.Am

/-
 The document's path order: what is told of two parts is what the order says. No condition.
-/
namespace Go.Proofs.YtajilkmepjhkdaaGreat.Am
open Go Go.Proofs
set_option maxHeartbeats 4000000
set_option maxRecDepth 20000
set_option linter.unusedSimpArgs false
set_option linter.unusedVariables false
theorem one_ok (g : Sg) (hg : g.ok) (s r : Laid) (tab : List D) (i k : Nat) (v1 : Int) (f1 : ByteArray) (a1 : List Term) (v2 : Int) (f2 : ByteArray) (a2 : List Term) (hs : LOk s) (hr : LOk r) (hi : s.1[i]? = some (.mk v1 f1 a1)) (hk : r.1[k]? = some (.mk v2 f2 a2)) (hs1 : s.1.length ≤ 9223372036854775807) (hr1 : r.1.length ≤ 9223372036854775807)
  (h1 : (Term.mk v1 f1 a1).ok) (h2 : (Term.mk v2 f2 a2).ok) (hT : Tab g s r tab i k) :
  pcl Cp 97 [.agg g.enc, partsD s, partsD r, tabD tab s.1.length, .int .i64 i, .int .i64 k] = some (.bool (lpoB g (.mk v1 f1 a1) (.mk v2 f2 a2))) := by
 have hi0 := List.getElem?_eq_some_iff.1 hi
 have hk0 := List.getElem?_eq_some_iff.1 hk
 obtain ⟨v', f', a', a⟩ := at_ok hs1 hi0.1
 obtain ⟨w', g', b', b⟩ := at_ok hr1 hk0.1
 have ha := a.get.symm.trans hi0.2
 have hb := b.get.symm.trans hk0.2
 injection ha with e1 e2 e3; subst e1; subst e2; subst e3
 injection hb with e1 e2 e3; subst e1; subst e2; subst e3
 refine pcl_body code97 ?_
 rw [← oneB_lpo]
 unfold oneB
 by_cases hf1 : f'.toList = []
 ·simp [Nat.add_assoc, Sg.enc, plc_raw, a.lti, a.sz, a.ltm, a.cells, a.le3, b.lti, b.sz, b.ltm, b.cells, b.le3, hf1]
 obtain ⟨e, t, hrun, hR⟩ := one_loop1 g s r tab i k v' f' a' w' g' b' hs hi hk hs1 h1.1 h1.2 h2 hT
 simp [oneH] at hrun
 cases hu : under g a' (.mk w' g' b')
 ·rw [hu] at hR
  obtain ⟨rfl, nx, hnx, rfl⟩ := hR
  by_cases hf2 : g'.toList = []
  ·simp [Nat.add_assoc, Sg.enc, plc_raw, a.lti, a.sz, a.ltm, a.cells, a.le3, b.lti, b.sz, b.ltm, b.cells, b.le3, hf1, hrun, hf2]
  obtain ⟨e, t, hrun2, hR⟩ := one_loop2 (nx + 4) (by omega) g s r tab i k v' f' a' w' g' b' hr hi hk h2.1 hT
  simp [oneH, oneT2] at hrun2
  cases hv : lpoOver g (.mk v' f' a') b'
  ·rw [hv] at hR
   obtain ⟨rfl, hR⟩ := hR
   simp [Nat.add_assoc, Sg.enc, plc_raw, a.lti, a.sz, a.ltm, a.cells, a.le3, b.lti, b.sz, b.ltm, b.cells, b.le3, hf1, hrun, hf2, hrun2, hR]
  ·rw [hv] at hR
   obtain ⟨rfl, nx', hnx', rfl⟩ := hR
   have hsym := rsymbol_ok g hg v' f' a' w' g' b'
   simp [Term.enc, Sg.enc] at hsym
   by_cases hff : f'.toList = g'.toList
   ·by_cases hl : a'.length = b'.length
    ·have hcd : ¬ (f'.toList ≠ g'.toList ∨ a'.length ≠ b'.length) := by simp [hff, hl]
     have hli : (a'.length : Int) = (b'.length : Int) := by omega
     obtain ⟨e, t, hrun3, hR3⟩ := one_loop3 (nx' + 15) (by omega) g s r tab i k v' f' a' w' g' b' hs hr hi hk h1.1 hl.symm h1.2 h2.2 hT
     simp [oneH, oneT3] at hrun3
     rw [if_neg hcd]
     cases hfg : firstGt g a' b' with
     | none =>
      rw [hfg] at hR3
      obtain ⟨rfl, nx3, hnx3, rfl⟩ := hR3
      simp [Nat.add_assoc, Sg.enc, plc_raw, a.lti, a.sz, a.ltm, a.cells, a.le3, b.lti, b.sz, b.ltm, b.cells, b.le3, hf1, hrun, hf2, hrun2, hff, hli, hrun3]
     | some x =>
      rw [hfg] at hR3
      obtain ⟨rfl, hR3⟩ := hR3
      simp [Nat.add_assoc, Sg.enc, plc_raw, a.lti, a.sz, a.ltm, a.cells, a.le3, b.lti, b.sz, b.ltm, b.cells, b.le3, hf1, hrun, hf2, hrun2, hff, hli, hrun3, hR3]
    ·have hli : ¬ (a'.length : Int) = (b'.length : Int) := by omega
     simp [Nat.add_assoc, Sg.enc, plc_raw, a.lti, a.sz, a.ltm, a.cells, a.le3, b.lti, b.sz, b.ltm, b.cells, b.le3, hf1, hrun, hf2, hrun2, hff, hl, hli, hsym]
   ·simp [Nat.add_assoc, Sg.enc, plc_raw, a.lti, a.sz, a.ltm, a.cells, a.le3, b.lti, b.sz, b.ltm, b.cells, b.le3, hf1, hrun, hf2, hrun2, hff, hsym]
 ·rw [hu] at hR
  obtain ⟨rfl, hR⟩ := hR
  simp [Nat.add_assoc, Sg.enc, plc_raw, a.lti, a.sz, a.ltm, a.cells, a.le3, b.lti, b.sz, b.ltm, b.cells, b.le3, hf1, hrun, hR]
end Go.Proofs.YtajilkmepjhkdaaGreat.Am

/-
 The document's path order: the table of all pairs. No condition.
-/
namespace Go.Proofs.YtajilkmepjhkdaaGreat.Am
open Go Go.Proofs
set_option maxHeartbeats 4000000
set_option maxRecDepth 20000
set_option linter.unusedSimpArgs false
set_option linter.unusedVariables false
theorem mapD_d (f : AV → Option (D × List Oid)) (hf : ∀ x, f (.d x) = some (x, [])) : ∀ l : List D, mapD f (l.map .d) = some (l, [])
 | [] => rfl
 | x :: r => by simp [mapD, hf, mapD_d f hf r]
theorem reify_d (H : Hp) (n : Nat) (x : D) : reify H n (.d x) = some (x, []) := by cases n <;> rfl
theorem mapD_app (f : AV → Option (D × List Oid)) : ∀ (a b : List AV) (x y : List D) (i j : List Oid), mapD f a = some (x, i) → mapD f b = some (y, j) → mapD f (a ++ b) = some (x ++ y, i ++ j)
 | [], b, x, y, i, j, h, k => by
  simp only [mapD, Option.some.injEq, Prod.mk.injEq] at h
  obtain ⟨rfl, rfl⟩ := h
  simpa using k
 | v :: r, b, x, y, i, j, h, k => by
  simp only [mapD, Option.bind_eq_bind, Option.bind_eq_some_iff] at h
  obtain ⟨⟨z, is⟩, h1, ⟨xs, is2⟩, h2, h3⟩ := h
  simp only [Option.some.injEq, Prod.mk.injEq] at h3
  obtain ⟨rfl, rfl⟩ := h3
  simp [mapD, h1, mapD_app f r b xs y is2 j h2 k]
def tabC (os : List Oid) (m n : Nat) : List AV := os.map (fun o => .osl o 0 m 1 m) ++ List.replicate (n - os.length) (.d (.sl [] 0 true (some true)))
def tabR (rows : List (List D)) (m n : Nat) : List D := rows.map (fun l => .sl l m false (some false)) ++ List.replicate (n - rows.length) (.sl [] 0 true (some true))
structure GrS (H0 : Hp) (b m n : Nat) (os : List Oid) (rows : List (List D)) (H : Hp) (N : Nat) : Prop where
 old : ∀ p : Oid, p.1 < b → H p = H0 p
 tab : H (b, 0) = some (.cells (tabC os m n))
 len : rows.length = os.length
 le : os.length ≤ n
 nd : ∀ (a c : Nat) o, os[a]? = some o → os[c]? = some o → a = c
 lt : ∀ o ∈ os, b < o.1 ∧ o.1 < N
 row : ∀ (a : Nat) o l, os[a]? = some o → rows[a]? = some l → H o = some (.cells (l.map .d)) ∧ l.length = m
theorem tabC_len {os : List Oid} {m n : Nat} (h : os.length ≤ n) : (tabC os m n).length = n := by simp [tabC]; omega
theorem tabR_len {rows : List (List D)} {m n : Nat} (h : rows.length ≤ n) : (tabR rows m n).length = n := by simp [tabR]; omega
theorem get_mkL {a : List Term} {i : Nat} (h : i < a.length) : ∃ v f b, a[i]? = some (Term.mk v f b) := by
 rw [List.getElem?_eq_getElem h]
 exact match a[i] with | .mk v f b => ⟨v, f, b, rfl⟩
theorem rows_reify (H : Hp) (k m : Nat) : ∀ (os : List Oid) (rows : List (List D)), rows.length = os.length → (∀ (a : Nat) o l, os[a]? = some o → rows[a]? = some l → H o = some (.cells (l.map .d)) ∧ l.length = m) →
  ∃ is, mapD (reify H (k + 1)) (os.map (fun o => .osl o 0 m 1 m)) = some (rows.map (fun l => .sl l m false (some false)), is)
 | [], [], _, _ => ⟨[], rfl⟩
 | [], _ :: _, h, _ => by simp at h
 | _ :: _, [], h, _ => by simp at h
 | o :: os, l :: rows, h, hr => by
  obtain ⟨is, hi⟩ := rows_reify H k m os rows (by simpa using h) (fun a o l h1 h2 => hr (a + 1) o l (by simpa using h1) (by simpa using h2))
  obtain ⟨h1, h2⟩ := hr 0 o l rfl rfl
  have hm := mapD_d (reify H k) (reify_d H k) l
  have ht : List.take m (l.map AV.d) = l.map AV.d := List.take_of_length_le (by simp [h2])
  have ho : reify H (k + 1) (.osl o 0 m 1 m) = some (.sl l m false (some false), if l.isEmpty then [] else [o]) := by
   simp [reify, h1, Obj.isRow, Obj.cs, h2, ht, hm, nlOf]
  exact ⟨(if l.isEmpty then [] else [o]) ++ is, by simp only [List.map_cons, mapD, ho, hi]; rfl⟩
theorem GrS.reify {H0 H : Hp} {b m n N : Nat} {os : List Oid} {rows : List (List D)} (h : GrS H0 b m n os rows H N) (hm : 0 < n) (k : Nat) : ∃ is, Am.reify H (k + 2) (.osl (b, 0) 0 n 1 n) = some (.sl (tabR rows m n) n false (some false), is) := by
 obtain ⟨is, hi⟩ := rows_reify H k m os rows h.len h.row
 have h2 : mapD (Am.reify H (k + 1)) (List.replicate (n - os.length) (.d (.sl [] 0 true (some true)))) = some (List.replicate (n - os.length) (.sl [] 0 true (some true)), []) := by
  have := mapD_d (Am.reify H (k + 1)) (reify_d H (k + 1)) (List.replicate (n - os.length) (.sl [] 0 true (some true)))
  simpa using this
 have h3 := mapD_app _ _ _ _ _ _ _ hi h2
 have hl : (tabC os m n).length = n := tabC_len h.le
 have ht : List.take n (tabC os m n) = tabC os m n := List.take_of_length_le (by omega)
 have hne : ¬ tabR rows m n = [] := fun e => by
  have := tabR_len (rows := rows) (m := m) (n := n) (by have := h.len; have := h.le; omega)
  rw [e] at this; simp at this; omega
 have h4 : mapD (Am.reify H (k + 1)) (tabC os m n) = some (tabR rows m n, is ++ []) := by
  unfold tabC tabR
  rw [h.len]
  exact h3
 refine ⟨(b, 0) :: is, ?_⟩
 simp [Am.reify, h.tab, Obj.isRow, Obj.cs, hl, ht, h4, nlOf, hne]
theorem parts_reify {H : Hp} {o ol oo : Oid} {s : Laid} (h : LaySt H o ol oo s) (hs : s.1 ≠ []) (hl : s.1.length = s.2.length) (k : Nat) : ∃ is, Am.reify H (k + 3) (.ptr o 0 2) = some (partsD s, is) := by
 have h1 := h.o
 have h2 := h.ol
 have h3 := h.oo
 have hs2 : s.2 ≠ [] := fun e => hs (by rw [e] at hl; exact List.length_eq_zero_iff.1 (by simpa using hl))
 have e1 : (encL s.1).length = s.1.length * 3 := encL_len _
 have e2 : (encO s.2).length = s.2.length := encO_len _
 have m1 := mapD_d (Am.reify H (k + 1)) (reify_d H _) (encL s.1)
 have m2 := mapD_d (Am.reify H (k + 1)) (reify_d H _) (encO s.2)
 have t1 : List.take (s.1.length * 3) ((encL s.1).map AV.d) = (encL s.1).map AV.d := List.take_of_length_le (by simp [e1])
 have t2 : List.take s.2.length ((encO s.2).map AV.d) = (encO s.2).map AV.d := List.take_of_length_le (by simp [e2])
 simp only [rowA, rowOA, rowT, rowO, if_neg hs, if_neg hs2] at h1 h2 h3
 have r1 : Am.reify H (k + 2) (.osl ol 0 s.1.length 3 (s.1.length * 3)) = some (.sl (encL s.1) s.1.length false (some false), if (encL s.1).isEmpty then [] else [ol]) := by
  simp [Am.reify, h2, Obj.isRow, Obj.cs, e1, t1, m1, nlOf]
 have r2 : Am.reify H (k + 2) (.osl oo 0 s.2.length 1 s.2.length) = some (.sl (encO s.2) s.2.length false (some false), if (encO s.2).isEmpty then [] else [oo]) := by
  simp [Am.reify, h3, Obj.isRow, Obj.cs, e2, t2, m2, nlOf]
 have hm : mapD (Am.reify H (k + 2)) [.osl ol 0 s.1.length 3 (s.1.length * 3), .osl oo 0 s.2.length 1 s.2.length] = some ([.sl (encL s.1) s.1.length false (some false), .sl (encO s.2) s.2.length false (some false)], (if (encL s.1).isEmpty then [] else [ol]) ++ ((if (encO s.2).isEmpty then [] else [oo]) ++ [])) := by
  simp only [mapD, r1, r2]; rfl
 have hr : Am.reify H (k + 3) (.ptr o 0 2) = (mapD (Am.reify H (k + 2)) [.osl ol 0 s.1.length 3 (s.1.length * 3), .osl oo 0 s.2.length 1 s.2.length]).bind fun q => some (.dptr q.1, o :: q.2) := by
  simp only [Am.reify, h1]; rfl
 exact ⟨o :: ((if (encL s.1).isEmpty then [] else [ol]) ++ ((if (encO s.2).isEmpty then [] else [oo]) ++ [])), by rw [hr, hm]; rfl⟩
end Go.Proofs.YtajilkmepjhkdaaGreat.Am

/-
 The document's path order: the loops over the table. No condition.
-/
namespace Go.Proofs.YtajilkmepjhkdaaGreat.Am
open Go Go.Proofs
set_option maxHeartbeats 4000000
set_option maxRecDepth 20000
set_option linter.unusedSimpArgs false
set_option linter.unusedVariables false
def RowsT (g : Sg) (s r : Laid) (rows : List (List D)) (i k : Nat) : Prop := ∀ (a c : Nat) l x y, rows[a]? = some l → s.1[a]? = some x → r.1[c]? = some y → (a < i ∨ a = i ∧ c < k) → l[c]? = some (.bool (lpoB g x y))
theorem RowsT.tab {g : Sg} {s r : Laid} {rows : List (List D)} {i k : Nat} {H0 H : Hp} {b N : Nat} {os : List Oid} (h : RowsT g s r rows i k) (hG : GrS H0 b r.1.length s.1.length os rows H N) (hi : os.length = i + 1) : Tab g s r (tabR rows r.1.length s.1.length) i k := by
 refine ⟨tabR_len (by have := hG.len; have := hG.le; omega), fun a c x y hx hy hac => ?_⟩
 have ha : a < rows.length := by have := hG.len; omega
 have hl : rows[a]? = some rows[a] := List.getElem?_eq_getElem ha
 have ho : os[a]? = some (os[a]'(by have := hG.len; omega)) := List.getElem?_eq_getElem (by have := hG.len; omega)
 refine ⟨rows[a], ?_, (hG.row a _ _ ho hl).2, h a c _ x y hl hx hy hac⟩
 unfold tabR
 rw [List.getElem?_append_left (by simpa using ha), List.getElem?_map, hl]; rfl
abbrev greT (b n m nt mt i k : Nat) : List AV := [.junk, .junk, .junk, .ptr (0, 0) 0 2, .junk, .junk, .d (.bool false), .ptr (5, 0) 0 2, .ptr (7, 0) 0 2, .d (.int .i64 nt), .d (.int .i64 mt), .osl (b, 0) 0 n 1 n, .d (.int .i64 i), .d (.int .i64 k), .junk, .junk, .junk, .junk, .junk, .junk, .junk, .junk, .junk, .junk, .junk, .junk, .junk, .junk, .junk, .junk, .junk, .junk, .junk, .junk, .junk, .junk, .junk, .junk, .junk, .junk, .junk, .junk, .junk, .junk, .junk, .junk, .junk, .junk, .junk, .junk, .junk, .junk, .junk, .junk, .junk, .junk, .junk, .junk, .junk, .junk, .junk, .junk, .junk, .junk, .junk, .junk, .junk, .junk, .junk, .junk, .junk, .junk, .junk, .junk, .junk, .junk, .junk]
structure GrB (g : Sg) (s r : Laid) (H : Hp) : Prop where
 g : H (0, 0) = some (.cells [.d (.sl (encS g.names) g.names.length false none), .d (.sl (encI g.weights) g.weights.length false none)])
 x : LaySt H (5, 0) (5, 1) (5, 2) s
 y : LaySt H (7, 0) (7, 1) (7, 2) r
theorem GrB.keep {g : Sg} {s r : Laid} {H H' : Hp} {b : Nat} (h : GrB g s r H) (hb : 8 ≤ b) (k : ∀ p : Oid, p.1 < b → H' p = H p) : GrB g s r H' :=
 ⟨(k _ (by simp; omega)).trans h.g, ⟨(k _ (by simp; omega)).trans h.x.o, (k _ (by simp; omega)).trans h.x.ol, (k _ (by simp; omega)).trans h.x.oo⟩, ⟨(k _ (by simp; omega)).trans h.y.o, (k _ (by simp; omega)).trans h.y.ol, (k _ (by simp; omega)).trans h.y.oo⟩⟩
def GreEnd (g : Sg) (s r : Laid) (H0 : Hp) (b nt mt : Nat) (os : List Oid) (i : Nat) (u : Unit) (e : Ex) (t : St) : Prop :=
 ∃ rows H' N', e = .exit 2 ∧ t = ⟨greT b s.1.length r.1.length nt mt i r.1.length, H', N'⟩ ∧ GrS H0 b r.1.length s.1.length os rows H' N' ∧ RowsT g s r rows (i + 1) 0
theorem set_map (l : List D) (k : Nat) (x : D) (h : k < l.length) : (l.set k x).map AV.d = List.take k (l.map AV.d) ++ AV.d x :: List.drop (k + 1) (l.map AV.d) := by
 rw [List.set_eq_take_append_cons_drop, if_pos h]
 simp
theorem gre_inner (g : Sg) (hg : g.ok) (s r : Laid) (hs : LOk s) (hr : LOk r) (hs0 : s.1 ≠ []) (hr0 : r.1 ≠ []) (hsz : s.1.length ≤ 1048576) (hrz : r.1.length ≤ 1048576) (ho1 : ∀ x ∈ s.1, x.ok) (ho2 : ∀ x ∈ r.1, x.ok) (H0 : Hp) (b : Nat) (hb : 8 ≤ b) (hB : GrB g s r H0) (nt mt : Nat) (os : List Oid) (i : Nat) (hi : i < s.1.length) (hos : os.length = i + 1)
  (rows : List (List D)) (H : Hp) (N : Nat) (hG : GrS H0 b r.1.length s.1.length os rows H N) (hT : RowsT g s r rows i 0) :
  ∃ e t, aloop Tryz.prog plc b94_0 ⟨[false, false, false, true, false, false, true, true, true, true, true, true, true, true, false, false, false, false, false, false, false, false, false, false, false, false, false, false, false, false, false, false, false, false, false, false, false, true, true, false, false, false, false, false, false, false, false, false, false, false, false, false, false, false, false, false, false, false, false, false, false, false, false, false, false, false, false, false, false, false, true, true, true, true, true, true, true], none⟩ ⟨greT b s.1.length r.1.length nt mt i 0, H, N⟩ = some (e, t) ∧ GreEnd g s r H0 b nt mt os i () e t := by
 have key := loop_ruleN (P := Tryz.prog) (pol := plc) (c := b94_0) (m := ⟨[false, false, false, true, false, false, true, true, true, true, true, true, true, true, false, false, false, false, false, false, false, false, false, false, false, false, false, false, false, false, false, false, false, false, false, false, false, true, true, false, false, false, false, false, false, false, false, false, false, false, false, false, false, false, false, false, false, false, false, false, false, false, false, false, false, false, false, false, false, false, true, true, true, true, true, true, true], none⟩)
  (N := fun (x : Nat × List (List D) × Hp × Nat) => x.2.2.2) (tm := fun x => greT b s.1.length r.1.length nt mt i x.1) (Hf := fun x => x.2.2.1)
  (I := fun x => x.1 ≤ r.1.length ∧ GrS H0 b r.1.length s.1.length os x.2.1 x.2.2.1 x.2.2.2 ∧ RowsT g s r x.2.1 i x.1) (μ := fun x => r.1.length - x.1) (res := fun _ => ()) (R := GreEnd g s r H0 b nt mt os i)
  (fun x hx => by
   obtain ⟨k, rw1, HH, N1⟩ := x
   obtain ⟨hk, hG, hT⟩ := hx
   simp only at hk hG hT ⊢
   have hBB := hB.keep hb hG.old
   have hx5 := hBB.x.o
   have hy7 := hBB.y.o
   have hg0 := hBB.g
   simp only [rowA, rowOA, if_neg hs0, if_neg hr0] at hx5 hy7
   have htab := hG.tab
   have hoi : os[i]? = some (os[i]'(by omega)) := List.getElem?_eq_getElem (by omega)
   generalize os[i]'(by omega) = oi at hoi
   have hri : rw1[i]? = some (rw1[i]'(by have := hG.len; omega)) := List.getElem?_eq_getElem (by have := hG.len; omega)
   generalize rw1[i]'(by have := hG.len; omega) = li at hri
   obtain ⟨hoc, hll⟩ := hG.row i oi li hoi hri
   have htl : (tabC os r.1.length s.1.length).length = s.1.length := tabC_len hG.le
   have hti : (tabC os r.1.length s.1.length)[i]? = some (.osl oi 0 r.1.length 1 r.1.length) := by
    unfold tabC
    rw [List.getElem?_append_left (by simp; omega), List.getElem?_map, hoi]; rfl
   have hte : ∀ h : i < (tabC os r.1.length s.1.length).length, (tabC os r.1.length s.1.length)[i]'h = .osl oi 0 r.1.length 1 r.1.length := fun h => (List.getElem?_eq_some_iff.1 hti).2
   have hii : (i : Int) < (s.1.length : Int) := by omega
   have hsl := hs.len
   have hrl := hr.len
   rcases Nat.lt_or_ge k r.1.length with hl | hl
   ·have hli : (k : Int) < (r.1.length : Int) := by omega
    have hw : IntKind.i64.wrap ((k : Int) + 1) = (k : Int) + 1 := wrap_i64 (by omega) (by omega)
    obtain ⟨v1, f1, a1, hx1⟩ := get_mkL hi
    obtain ⟨v2, f2, a2, hy1⟩ := get_mkL hl
    have hone := one_ok g hg s r _ i k v1 f1 a1 v2 f2 a2 hs hr hx1 hy1 (by omega) (by omega) (ho1 _ (List.mem_of_getElem? hx1)) (ho2 _ (List.mem_of_getElem? hy1)) (hT.tab hG hos)
    obtain ⟨i1, rx⟩ := parts_reify hBB.x hs0 hsl 3
    obtain ⟨i2, ry⟩ := parts_reify hBB.y hr0 hrl 3
    obtain ⟨i3, rt⟩ := hG.reify (by omega) 4
    simp only [Nat.reduceAdd] at rx ry rt
    simp only [Sg.enc] at hone
    have hoib : b < oi.1 := (hG.lt oi (List.mem_of_getElem? hoi)).1
    conv => arg 9; arg 4; unfold b94_0
    have hk1 : k + 1 ≤ r.1.length := hl
    simp [plc_raw, Nat.add_assoc, hx5, hy7, hg0, htab, htl, hti, hte, hoc, hll, hii, hi, hl, hli, hw, hk1, rx, ry, rt, reify_d, hone, -reify]
    rw [← set_map li k (.bool (lpoB g (.mk v1 f1 a1) (.mk v2 f2 a2))) (by omega)]
    obtain ⟨H9, hH9⟩ : ∃ H9, H9 = Am.upd HH oi (.cells ((li.set k (.bool (lpoB g (.mk v1 f1 a1) (.mk v2 f2 a2)))).map .d)) := ⟨_, rfl⟩
    rw [← hH9]
    have h9 : ∀ p : Oid, p ≠ oi → H9 p = HH p := fun p hp => by rw [hH9, upd_ne hp]
    have h9s : H9 oi = some (.cells ((li.set k (.bool (lpoB g (.mk v1 f1 a1) (.mk v2 f2 a2)))).map .d)) := by rw [hH9]; exact upd_same _ _ _
    refine .next (k + 1, rw1.set i (li.set k (.bool (lpoB g (.mk v1 f1 a1) (.mk v2 f2 a2)))), H9, N1 + 24) rfl (by simp) rfl ⟨hl, ⟨fun p hp => ?_, ?_, by simpa using hG.len, hG.le, hG.nd, fun o ho => by have := hG.lt o ho; simp only; omega, fun a o l h1 h2 => ?_⟩, fun a c l x y h1 h2 h3 h4 => ?_⟩ (by simp only; omega) rfl
    ·exact (h9 p (fun e => by rw [e] at hp; omega)).trans (hG.old p hp)
    ·exact (h9 _ (fun e => by rw [← e] at hoib; simp at hoib)).trans htab
    ·by_cases ha : a = i
     ·subst ha
      rw [List.getElem?_set_self (by have := hG.len; omega)] at h2
      cases h2
      rw [hoi] at h1; cases h1
      exact ⟨h9s, by simpa using hll⟩
     ·rw [List.getElem?_set_ne (Ne.symm ha)] at h2
      have hne : o ≠ oi := fun e => ha (hG.nd a i o h1 (by rw [e]; exact hoi))
      exact ⟨(h9 o hne).trans (hG.row a o l h1 h2).1, (hG.row a o l h1 h2).2⟩
    ·by_cases ha : a = i
     ·subst ha
      rw [List.getElem?_set_self (by have := hG.len; omega)] at h1
      cases h1
      by_cases hc : c = k
      ·subst hc
       rw [List.getElem?_set_self (by omega)]
       rw [hx1] at h2; cases h2
       rw [hy1] at h3; cases h3
       rfl
      ·rw [List.getElem?_set_ne (Ne.symm hc)]
       exact hT a c li x y hri h2 h3 (.inr ⟨rfl, by simp only at h4; omega⟩)
     ·rw [List.getElem?_set_ne (Ne.symm ha)] at h1
      exact hT a c l x y h1 h2 h3 (.inl (by omega))
   ·obtain rfl : k = r.1.length := Nat.le_antisymm hk hl
    simp [b94_0, hy7]
    refine .fin _ _ ⟨rw1, HH, N1 + 7, rfl, rfl, ⟨hG.old, hG.tab, hG.len, hG.le, hG.nd, fun o ho => by have := hG.lt o ho; omega, hG.row⟩, fun a c l x y h1 h2 h3 h4 => hT a c l x y h1 h2 h3 ?_⟩
    have := (List.getElem?_eq_some_iff.1 h3).1
    omega) (0, rows, H, N) ⟨Nat.zero_le _, hG, hT⟩
 simpa using key
end Go.Proofs.YtajilkmepjhkdaaGreat.Am

/-
 The document's path order: it is the order. No condition.
-/
namespace Go.Proofs.YtajilkmepjhkdaaGreat.Am
open Go Go.Proofs
set_option maxHeartbeats 4000000
set_option maxRecDepth 20000
set_option linter.unusedSimpArgs false
set_option linter.unusedVariables false
abbrev greO (b n nt mt i : Nat) : List AV := [.junk, .junk, .junk, .ptr (0, 0) 0 2, .junk, .junk, .d (.bool false), .ptr (5, 0) 0 2, .ptr (7, 0) 0 2, .d (.int .i64 nt), .d (.int .i64 mt), .osl (b, 0) 0 n 1 n, .d (.int .i64 i), .junk, .junk, .junk, .junk, .junk, .junk, .junk, .junk, .junk, .junk, .junk, .junk, .junk, .junk, .junk, .junk, .junk, .junk, .junk, .junk, .junk, .junk, .junk, .junk, .junk, .junk, .junk, .junk, .junk, .junk, .junk, .junk, .junk, .junk, .junk, .junk, .junk, .junk, .junk, .junk, .junk, .junk, .junk, .junk, .junk, .junk, .junk, .junk, .junk, .junk, .junk, .junk, .junk, .junk, .junk, .junk, .junk, .junk, .junk, .junk, .junk, .junk, .junk, .junk]
def GreOut (g : Sg) (s r : Laid) (H0 : Hp) (b nt mt : Nat) (u : Unit) (e : Ex) (t : St) : Prop :=
 ∃ os rows H' N', e = .exit 0 ∧ t = ⟨greO b s.1.length nt mt s.1.length, H', N'⟩ ∧ os.length = s.1.length ∧ GrS H0 b r.1.length s.1.length os rows H' N' ∧ RowsT g s r rows s.1.length 0
theorem tabC_set {os : List Oid} {m n : Nat} (h : os.length < n) (o : Oid) : List.take os.length (tabC os m n) ++ (AV.osl o 0 m 1 m) :: List.drop (os.length + 1) (tabC os m n) = tabC (os ++ [o]) m n := by
 unfold tabC
 have h1 : List.take os.length (os.map (fun o => AV.osl o 0 m 1 m) ++ List.replicate (n - os.length) (.d (.sl [] 0 true (some true)))) = os.map (fun o => .osl o 0 m 1 m) := by
  rw [List.take_append_of_le_length (by simp), List.take_of_length_le (by simp)]
 have h2 : List.drop (os.length + 1) (os.map (fun o => AV.osl o 0 m 1 m) ++ List.replicate (n - os.length) (.d (.sl [] 0 true (some true)))) = List.replicate (n - (os.length + 1)) (.d (.sl [] 0 true (some true))) := by
  rw [List.drop_append, List.drop_of_length_le (by simp), List.nil_append, List.drop_replicate]
  congr 1
  simp; omega
 rw [h1, h2]
 simp
theorem gre_outer (g : Sg) (hg : g.ok) (s r : Laid) (hs : LOk s) (hr : LOk r) (hs0 : s.1 ≠ []) (hr0 : r.1 ≠ []) (hsz : s.1.length ≤ 1048576) (hrz : r.1.length ≤ 1048576) (ho1 : ∀ x ∈ s.1, x.ok) (ho2 : ∀ x ∈ r.1, x.ok) (H0 : Hp) (b : Nat) (hb : 8 ≤ b) (hB : GrB g s r H0) (nt mt : Nat)
  (H : Hp) (N : Nat) (hN : b < N) (hG : GrS H0 b r.1.length s.1.length [] [] H N) :
  ∃ e t, aloop Tryz.prog plc b94_1 ⟨[false, false, false, true, false, false, true, true, true, true, true, true, true, false, false, false, false, false, false, false, false, false, false, false, false, false, false, false, false, false, false, false, false, false, false, false, false, false, false, false, false, false, false, false, false, false, false, false, false, false, false, false, false, false, false, false, false, false, false, false, false, false, false, false, false, false, false, false, false, false, true, true, true, true, true, true, true], none⟩ ⟨greO b s.1.length nt mt 0, H, N⟩ = some (e, t) ∧ GreOut g s r H0 b nt mt () e t := by
 have key := loop_ruleN (P := Tryz.prog) (pol := plc) (c := b94_1) (m := ⟨[false, false, false, true, false, false, true, true, true, true, true, true, true, false, false, false, false, false, false, false, false, false, false, false, false, false, false, false, false, false, false, false, false, false, false, false, false, false, false, false, false, false, false, false, false, false, false, false, false, false, false, false, false, false, false, false, false, false, false, false, false, false, false, false, false, false, false, false, false, false, true, true, true, true, true, true, true], none⟩)
  (N := fun (x : Nat × List Oid × List (List D) × Hp × Nat) => x.2.2.2.2) (tm := fun x => greO b s.1.length nt mt x.1) (Hf := fun x => x.2.2.2.1)
  (I := fun x => x.1 ≤ s.1.length ∧ x.2.1.length = x.1 ∧ b < x.2.2.2.2 ∧ GrS H0 b r.1.length s.1.length x.2.1 x.2.2.1 x.2.2.2.1 x.2.2.2.2 ∧ RowsT g s r x.2.2.1 x.1 0) (μ := fun x => s.1.length - x.1) (res := fun _ => ()) (R := GreOut g s r H0 b nt mt)
  (fun x hx => by
   obtain ⟨i, os, rw1, HH, N1⟩ := x
   obtain ⟨hi, hos, hbN, hG, hT⟩ := hx
   simp only at hi hos hbN hG hT ⊢
   have hBB := hB.keep hb hG.old
   have hx5 := hBB.x.o
   have hy7 := hBB.y.o
   simp only [rowA, rowOA, if_neg hs0, if_neg hr0] at hx5 hy7
   have htab := hG.tab
   have htl : (tabC os r.1.length s.1.length).length = s.1.length := tabC_len hG.le
   rcases Nat.lt_or_ge i s.1.length with hl | hl
   ·have hli : (i : Int) < (s.1.length : Int) := by omega
    have hw : IntKind.i64.wrap ((i : Int) + 1) = (i : Int) + 1 := wrap_i64 (by omega) (by omega)
    have hset := tabC_set (m := r.1.length) (n := s.1.length) (os := os) (by omega) (N1 + 14, 0)
    rw [hos] at hset
    obtain ⟨H9, hH9⟩ : ∃ H9, H9 = Am.upd (Am.upd HH (N1 + 14, 0) (.cells (List.replicate r.1.length (.d (.bool false))))) (b, 0) (.cells (tabC (os ++ [(N1 + 14, 0)]) r.1.length s.1.length)) := ⟨_, rfl⟩
    have hnew : ∀ o ∈ os, o ≠ (N1 + 14, 0) := fun o ho e => by have := (hG.lt o ho).2; rw [e] at this; simp at this; omega
    have h9 : ∀ p : Oid, p ≠ (N1 + 14, 0) → p ≠ (b, 0) → H9 p = HH p := fun p h1 h2 => by rw [hH9, upd_ne h2, upd_ne h1]
    have hG9 : GrS H0 b r.1.length s.1.length (os ++ [(N1 + 14, 0)]) (rw1 ++ [List.replicate r.1.length (.bool false)]) H9 (N1 + 18) := by
     refine ⟨fun p hp => (h9 p (fun e => by rw [e] at hp; simp at hp; omega) (fun e => by rw [e] at hp; simp at hp)).trans (hG.old p hp), by rw [hH9]; exact upd_same _ _ _, by simp [hG.len], by simp; omega, fun a c o h1 h2 => ?_, fun o ho => ?_, fun a o l h1 h2 => ?_⟩
     ·rw [List.getElem?_append] at h1 h2
      split at h1 <;> split at h2
      ·exact hG.nd a c o h1 h2
      ·have h3 := hnew o (List.mem_of_getElem? h1)
       have h4 := List.mem_of_getElem? h2
       simp at h4; exact absurd h4 h3
      ·have h3 := hnew o (List.mem_of_getElem? h2)
       have h4 := List.mem_of_getElem? h1
       simp at h4; exact absurd h4 h3
      ·have h3 := (List.getElem?_eq_some_iff.1 h1).1
       have h4 := (List.getElem?_eq_some_iff.1 h2).1
       simp at h3 h4; omega
     ·rcases List.mem_append.1 ho with ho | ho
      ·have := hG.lt o ho; omega
      ·simp at ho; subst ho; simp; omega
     ·have hlen := hG.len
      rw [List.getElem?_append] at h1 h2
      split at h1
      ·rename_i ha
       rw [if_pos (by omega)] at h2
       have hm := List.mem_of_getElem? h1
       have hlt := hG.lt o hm
       obtain ⟨h3, h4⟩ := hG.row a o l h1 h2
       exact ⟨(h9 o (hnew o hm) (fun e => by rw [e] at hlt; simp at hlt)).trans h3, h4⟩
      ·rename_i ha
       rw [if_neg (by omega)] at h2
       have h3 := List.mem_of_getElem? h1
       have h4 := List.mem_of_getElem? h2
       simp at h3 h4
       subst h3; subst h4
       refine ⟨?_, by simp⟩
       rw [hH9, upd_ne (fun e => by have := congrArg Prod.fst e; simp at this; omega)]
       simp
    have hT9 : RowsT g s r (rw1 ++ [List.replicate r.1.length (.bool false)]) i 0 := fun a c l x y h1 h2 h3 h4 => by
     have hlen := hG.len
     have ha : a < i := by omega
     rw [List.getElem?_append_left (by omega)] at h1
     exact hT a c l x y h1 h2 h3 (.inl ha)
    obtain ⟨e, t, hrun, rows', H', N', rfl, rfl, hG2, hT2⟩ := gre_inner g hg s r hs hr hs0 hr0 hsz hrz ho1 ho2 H0 b hb hB nt mt (os ++ [(N1 + 14, 0)]) i hl (by simp [hos]) _ H9 (N1 + 18) hG9 hT9
    have hbN' : b < N' + 3 := by have := hG2.lt (N1 + 14, 0) (by simp); simp at this; omega
    simp [greT] at hrun
    rw [hH9] at hrun
    have hrb : (r.1.length : Int) ≤ 1099511627776 := by omega
    have fb : ∀ x, Am.upd HH (N1 + 14, 0) x (b, 0) = HH (b, 0) := fun x => upd_old (by simp; omega) _ _ _
    have hl1 : i + 1 ≤ s.1.length := hl
    conv => arg 9; arg 4; unfold b94_1
    simp [plc_raw, Nat.add_assoc, hx5, hy7, htab, htl, hl, hl1, hli, hw, hset, hrb, fb, hrun]
    exact .next (i + 1, os ++ [(N1 + 14, 0)], rows', H', N' + 3) rfl (by simp) rfl ⟨hl, by simp [hos], hbN', ⟨hG2.old, hG2.tab, hG2.len, hG2.le, hG2.nd, fun o ho => by have := hG2.lt o ho; simp only; omega, hG2.row⟩, hT2⟩ (by simp only; omega) rfl
   ·obtain rfl : i = s.1.length := Nat.le_antisymm hi hl
    simp [b94_1, hx5]
    refine .fin _ _ ⟨os, rw1, HH, N1 + 7, rfl, rfl, hos, ⟨hG.old, hG.tab, hG.len, hG.le, hG.nd, fun o ho => by have := hG.lt o ho; omega, hG.row⟩, hT⟩) (0, [], [], H, N) ⟨Nat.zero_le _, rfl, hN, hG, fun a c l x y h1 => by simp at h1⟩
 simpa using key
theorem lay_ok_mem2 (t : Term) : t.ok → ∀ s : Laid, (∀ x ∈ s.1, x.ok) → ∀ x ∈ (t.lay s).1.1, x.ok := by
 refine Term.ind (p := fun t => t.ok → ∀ s : Laid, (∀ x ∈ s.1, x.ok) → ∀ x ∈ (t.lay s).1.1, x.ok) (fun v fn args ih h s hs => ?_) t
 have hl : ∀ (a : List Term), (∀ x ∈ a, x ∈ args) → ∀ (s : Laid) own, (∀ x ∈ s.1, x.ok) → ∀ x ∈ (layL a s own).1.1, x.ok := by
  intro a
  induction a with
  | nil => intro _ s own hs; simpa [layL] using hs
  | cons y r ih2 =>
   intro hm s own hs
   simp only [layL]
   exact ih2 (fun z hz => hm z (by simp [hz])) _ _ (ih y (hm y (by simp)) (okL_mem h.2 _ (hm y (by simp))) s hs)
 intro x hx
 simp only [Term.lay, List.mem_append, List.mem_singleton] at hx
 rcases hx with hx | rfl
 ·exact hl args (fun _ h => h) s [] hs x hx
 ·exact h
theorem rgreat_ok (g : Sg) (hg : g.ok) (t : Term) (ht : t.ok) (hts : t.size ≤ 1048576) (u : Term) (hu : u.ok) (hus : u.size ≤ 1048576) :
  pcl Cp 94 [.agg g.enc, .agg t.enc, .agg u.enc] = some (.bool (lpoB g t u)) := by
 obtain ⟨s, hsd⟩ : ∃ s, s = (t.lay ([], [])).1 := ⟨_, rfl⟩
 obtain ⟨r, hrd⟩ : ∃ r, r = (u.lay ([], [])).1 := ⟨_, rfl⟩
 obtain ⟨hs, _, n, hn, hsn⟩ := lay_lok t ([], []) lok_nil
 obtain ⟨hr, _, m, hm, hrm⟩ := lay_lok u ([], []) lok_nil
 have hsl := lay_size t ([], [])
 have hrl := lay_size u ([], [])
 have ho1 := lay_ok_mem2 t ht ([], []) (by simp)
 have ho2 := lay_ok_mem2 u hu ([], []) (by simp)
 have L1 := lay_ok (5, 0) (5, 1) (5, 2) (by simp) (by simp) (by simp) t ht ([], []) rfl (by simpa using hts)
 have L2 := lay_ok (7, 0) (7, 1) (7, 2) (by simp) (by simp) (by simp) u hu ([], []) rfl (by simpa using hus)
 obtain ⟨v, fn, args⟩ := t
 obtain ⟨v2, fn2, args2⟩ := u
 unfold DoesL at L1 L2
 rw [← hsd] at hs hsn hsl ho1 L1
 rw [← hrd] at hr hrm hrl ho2 L2
 rw [hn] at L1
 rw [hm] at L2
 simp only [List.length_nil, Nat.zero_add] at hsl hrl
 have hs0 : s.1 ≠ [] := fun e => by rw [e] at hsn; simp at hsn
 have hr0 : r.1 ≠ [] := fun e => by rw [e] at hrm; simp at hrm
 obtain ⟨Ha, hHa⟩ : ∃ Ha : Hp, Ha = Am.upd (Am.upd (Am.upd (Am.upd (Am.upd (Am.upd (Am.upd (Am.upd (Am.upd (fun _ => none) (0, 0) (.cells [.d (.sl (encS g.names) g.names.length false none), .d (.sl (encI g.weights) g.weights.length false none)])) (1, 0) (.cells [.d (.int .i64 v), .d (.str fn), .d (.sl (encL args) args.length false none)])) (2, 0) (.cells [.d (.int .i64 v2), .d (.str fn2), .d (.sl (encL args2) args2.length false none)]))
  (5, 1) .vnil) (5, 2) .vnil) (5, 0) (.cells [.osl (5, 1) 0 0 1 0, .osl (5, 2) 0 0 1 0])) (7, 1) .vnil) (7, 2) .vnil) (7, 0) (.cells [.osl (7, 1) 0 0 1 0, .osl (7, 2) 0 0 1 0]) := ⟨_, rfl⟩
 obtain ⟨⟨H1, N1⟩, c1, n1, r1, f1⟩ := L1 Ha 14 (by simp) (by simp) (by simp) ⟨by rw [hHa]; simp [rowA, rowOA], by rw [hHa]; simp [rowT], by rw [hHa]; simp [rowO]⟩
 simp only at c1 n1 r1 f1
 have b7 : H1 (7, 0) = _ := f1 (7, 0) (by simp) (by simp) (by simp) (by simp)
 have b71 : H1 (7, 1) = _ := f1 (7, 1) (by simp) (by simp) (by simp) (by simp)
 have b72 : H1 (7, 2) = _ := f1 (7, 2) (by simp) (by simp) (by simp) (by simp)
 obtain ⟨⟨H2, N2⟩, c2, n2, r2, f2⟩ := L2 H1 (N1 + 4) (by simp; omega) (by simp; omega) (by simp; omega) ⟨by rw [b7, hHa]; simp [rowA, rowOA], by rw [b71, hHa]; simp [rowT], by rw [b72, hHa]; simp [rowO]⟩
 simp only at c2 n2 r2 f2
 have hG0 : H2 (0, 0) = some (.cells [.d (.sl (encS g.names) g.names.length false none), .d (.sl (encI g.weights) g.weights.length false none)]) := by rw [f2 _ (by simp) (by simp) (by simp) (by simp), f1 _ (by simp) (by simp) (by simp) (by simp), hHa]; simp
 have q2 : H1 (2, 0) = some (.cells [.d (.int .i64 v2), .d (.str fn2), .d (.sl (encL args2) args2.length false none)]) := by rw [f1 _ (by simp) (by simp) (by simp) (by simp), hHa]; simp
 have hX : LaySt H2 (5, 0) (5, 1) (5, 2) s := ⟨(f2 _ (by simp; omega) (by simp) (by simp) (by simp)).trans r1.o, (f2 _ (by simp; omega) (by simp) (by simp) (by simp)).trans r1.ol, (f2 _ (by simp; omega) (by simp) (by simp) (by simp)).trans r1.oo⟩
 have hB : GrB g s r H2 := ⟨hG0, hX, r2⟩
 have hnl := (List.getElem?_eq_some_iff.1 hsn).1
 have hml := (List.getElem?_eq_some_iff.1 hrm).1
 obtain ⟨Hb, hHb⟩ : ∃ Hb, Hb = Am.upd H2 (N2 + 5, 0) (.cells (tabC [] r.1.length s.1.length)) := ⟨_, rfl⟩
 have hGb : GrS H2 (N2 + 5) r.1.length s.1.length [] [] Hb (N2 + 8) :=
  ⟨fun p hp => by rw [hHb, upd_old hp], by rw [hHb]; exact upd_same _ _ _, rfl, by simp, fun a c o h => by simp at h, fun o h => by simp at h, fun a o l h => by simp at h⟩
 obtain ⟨e, t, hrun, os, rows, H3, N3, rfl, rfl, hos, hG3, hT3⟩ := gre_outer g hg s r hs hr hs0 hr0 (by omega) (by omega) ho1 ho2 H2 (N2 + 5) (by omega) hB n m Hb (N2 + 8) (by omega) hGb
 have hoi : os[n]? = some (os[n]'(by omega)) := List.getElem?_eq_getElem (by omega)
 generalize os[n]'(by omega) = oi at hoi
 have hri : rows[n]? = some (rows[n]'(by have := hG3.len; omega)) := List.getElem?_eq_getElem (by have := hG3.len; omega)
 generalize rows[n]'(by have := hG3.len; omega) = li at hri
 obtain ⟨hoc, hll⟩ := hG3.row n oi li hoi hri
 have hbool := hT3 n m li _ _ hri hsn hrm (.inl hnl)
 have htl : (tabC os r.1.length s.1.length).length = s.1.length := tabC_len hG3.le
 have hti : (tabC os r.1.length s.1.length)[n]? = some (.osl oi 0 r.1.length 1 r.1.length) := by
  unfold tabC
  rw [List.getElem?_append_left (by simp; omega), List.getElem?_map, hoi]; rfl
 have hte : ∀ h : n < (tabC os r.1.length s.1.length).length, (tabC os r.1.length s.1.length)[n]'h = .osl oi 0 r.1.length 1 r.1.length := fun h => (List.getElem?_eq_some_iff.1 hti).2
 have htab := hG3.tab
 have hli : (m : Int) < (r.1.length : Int) := by omega
 have hni : (n : Int) < (s.1.length : Int) := by omega
 have hbe : ∀ h : m < li.length, li[m]'h = .bool (lpoB g (.mk v fn args) (.mk v2 fn2 args2)) := fun h => (List.getElem?_eq_some_iff.1 hbool).2
 have hx5 := hX.o
 simp only [rowA, rowOA, if_neg hs0] at hx5
 have hsb : (s.1.length : Int) ≤ 1099511627776 := by omega
 rw [hHb] at hrun
 simp [greO, tabC] at hrun
 simp [Term.enc] at c1 c2
 refine pcl_body code94 ?_
 rw [hHa] at c1
 simp [plc_raw, Nat.add_assoc, Term.enc, Sg.enc, c1, c2, q2, hx5, hsb, hrun, htab, htl, hti, hte, hoc, hll, hli, hni, hnl, hml, hbool, hbe]
end Go.Proofs.YtajilkmepjhkdaaGreat.Am

/-
 The laws of the path order: both programs compare alike. No condition.
-/
namespace Go.Proofs.YtajilkmepjhkdaaGreat.Am
open Go Go.Proofs
set_option maxHeartbeats 4000000
set_option maxRecDepth 20000
set_option linter.unusedSimpArgs false
set_option linter.unusedVariables false
theorem rlCompare_ok (g : Sg) (hg : g.ok) (t : Term) (ht : t.ok) (hts : t.size ≤ 1048576) (u : Term) (hu : u.ok) (hus : u.size ≤ 1048576) : pcl Cp 92 [.agg g.enc, .agg t.enc, .agg u.enc] = some (.int .i64 (g.lCmp t u)) := by
 have h1 := grright_ok g hg
 have h2 := rright_ok t ht
 have h3 := rright_ok u hu
 have h4 := rsame_ok t ht u hu
 have h5 := rgreat_ok g hg t ht hts u hu hus
 have h6 := rgreat_ok g hg u hu hus t ht hts
 refine pcl_body code92 ?_
 rw [lCmp_bool]
 generalize t.sameB u = b1 at *
 generalize lpoB g t u = b2 at *
 generalize lpoB g u t = b3 at *
 generalize t.rightE = z at *
 generalize u.rightE = z2 at *
 generalize g.right = gr at *
 obtain ⟨v, fn, args⟩ := t
 obtain ⟨v2, fn2, args2⟩ := u
 simp [Term.enc, Sg.enc] at h1 h2 h3 h4 h5 h6 ⊢
 cases gr
 ·simp [plc_raw, h1]
 by_cases hz : z = 0
 ·by_cases hz2 : z2 = 0
  ·cases b1
   ·cases b2
    ·cases b3 <;> simp [plc_raw, h1, h2, h3, h4, h5, h6, hz, hz2]
    ·simp [plc_raw, h1, h2, h3, h4, h5, h6, hz, hz2]
   ·simp [plc_raw, h1, h2, h3, h4, h5, h6, hz, hz2]
  ·simp [plc_raw, h1, h2, h3, hz, hz2]
 ·simp [plc_raw, h1, h2, h3, hz]
end Go.Proofs.YtajilkmepjhkdaaGreat.Am

/-
 Literals and clauses as data of the abstract machine; which are right, their order. No condition.
-/
namespace Go.Proofs.YtajilkmepjhkdaaGreat.Am
open Go Go.Proofs
set_option linter.unusedSimpArgs false
set_option linter.unusedVariables false
structure Lt where
 neg : Bool
 l : Term
 r : Term
def Lt.enc (x : Lt) : List D := .bool x.neg :: (x.l.enc ++ x.r.enc)
def Lt.ok (x : Lt) : Prop := x.l.ok ∧ x.r.ok
def encC : List Lt → List D
 | [] => []
 | x :: r => x.enc ++ encC r
theorem Lt.enc_len (x : Lt) : x.enc.length = 7 := by simp [Lt.enc, Term.enc_len]
theorem encC_len : ∀ (c : List Lt), (encC c).length = c.length * 7
 | [] => rfl
 | x :: r => by simp [encC, Lt.enc_len, encC_len r]; omega
theorem encC_at : ∀ (c : List Lt) (i : Nat) (x : Lt), c[i]? = some x → ((encC c).drop (i * 7)).take 7 = x.enc
 | [], i, x, h => by simp at h
 | y :: r, 0, x, h => by
  simp at h; subst h
  have := y.enc_len
  simp [encC, this]
 | y :: r, i + 1, x, h => by
  have := y.enc_len
  have e := encC_at r i x (by simpa using h)
  simp only [encC]
  rw [show (i + 1) * 7 = y.enc.length + i * 7 by omega, List.drop_append, List.drop_of_length_le (by omega), List.nil_append, show y.enc.length + i * 7 - y.enc.length = i * 7 by omega]
  exact e
theorem encC_append : ∀ (a b : List Lt), encC (a ++ b) = encC a ++ encC b
 | [], _ => rfl
 | x :: r, b => by simp [encC, encC_append r b]
def okC (c : List Lt) : Prop := c.length ≤ 9223372036854775807 ∧ ∀ x ∈ c, x.ok
structure AtC (c : List Lt) (i : Nat) (n : Bool) (v : Int) (fn : ByteArray) (args : List Term) (v2 : Int) (fn2 : ByteArray) (args2 : List Term) : Prop where
 lt : i < c.length
 mem : Lt.mk n (.mk v fn args) (.mk v2 fn2 args2) ∈ c
 sz : (encC c).length = c.length * 7
 cells : ((encC c).drop (i * 7)).take 7 = [.bool n, .int .i64 v, .str fn, .sl (encL args) args.length false none, .int .i64 v2, .str fn2, .sl (encL args2) args2.length false none]
 lti : (i : Int) < (c.length : Int)
 ltm : i * 7 < c.length * 7
 le7 : 7 ≤ c.length * 7 - i * 7
 dr : c.drop i = .mk n (.mk v fn args) (.mk v2 fn2 args2) :: c.drop (i + 1)
 w : IntKind.i64.wrap ((i : Int) + 1) = (i : Int) + 1
 get : c[i] = .mk n (.mk v fn args) (.mk v2 fn2 args2)
theorem atC_ok {c : List Lt} (h : c.length ≤ 9223372036854775807) {i : Nat} (hil : i < c.length) : ∃ n v fn args v2 fn2 args2, AtC c i n v fn args v2 fn2 args2 := by
 obtain ⟨t, ht⟩ : ∃ t, c[i]? = some t := ⟨c[i], by simp [hil]⟩
 obtain ⟨n, ⟨v, fn, args⟩, ⟨v2, fn2, args2⟩⟩ := t
 refine ⟨n, v, fn, args, v2, fn2, args2, hil, List.mem_of_getElem? ht, encC_len c, encC_at c i _ ht, by omega, by omega, by omega, ?_, wrap_i64 (by omega) (by omega), by rw [List.getElem?_eq_getElem hil] at ht; exact Option.some.inj ht⟩
 rw [List.drop_eq_getElem_cons hil]
 congr 1
 rw [List.getElem?_eq_getElem hil] at ht
 exact Option.some.inj ht
def Lt.sizeW (x : Lt) (acc : Int) : Int := IntKind.i64.wrap (IntKind.i64.wrap (acc + x.l.sizeW) + x.r.sizeW)
def csizeW (acc : Int) : List Lt → Int
 | [] => acc
 | x :: r => csizeW (x.sizeW acc) r
def firstE : List Lt → Int
 | [] => 0
 | x :: r => if x.l.rightE ≠ 0 then x.l.rightE else if x.r.rightE ≠ 0 then x.r.rightE else firstE r
def clE (c : List Lt) : Int := if c.length > 60 then 3 else if firstE c ≠ 0 then firstE c else if csizeW 0 c > 4000 then 3 else 0
theorem firstE_mem : ∀ {c : List Lt}, firstE c = 0 → ∀ x ∈ c, x.l.rightE = 0 ∧ x.r.rightE = 0
 | [], _, x, hx => by simp at hx
 | y :: r, h, x, hx => by
  simp only [firstE] at h
  by_cases h1 : y.l.rightE ≠ 0
  ·rw [if_pos h1] at h; exact absurd h h1
  ·rw [if_neg h1] at h
   by_cases h2 : y.r.rightE ≠ 0
   ·rw [if_pos h2] at h; exact absurd h h2
   ·rw [if_neg h2] at h
    rcases List.mem_cons.1 hx with rfl | hx
    ·exact ⟨Classical.not_not.1 h1, Classical.not_not.1 h2⟩
    ·exact firstE_mem h x hx
theorem clE_mem {c : List Lt} (h : clE c = 0) : ∀ x ∈ c, x.l.rightE = 0 ∧ x.r.rightE = 0 := by
 unfold clE at h
 by_cases h0 : c.length > 60
 ·rw [if_pos h0] at h; cases h
 ·rw [if_neg h0] at h
  by_cases h1 : firstE c ≠ 0
  ·rw [if_pos h1] at h; exact absurd h h1
  ·exact firstE_mem (Classical.not_not.1 h1)
def Lt.same (a b : Lt) : Bool := (a.neg == b.neg) && ((a.l.sameB b.l && a.r.sameB b.r) || (a.l.sameB b.r && a.r.sameB b.l))
end Go.Proofs.YtajilkmepjhkdaaGreat.Am


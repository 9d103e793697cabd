/-
  The laws of the order of Knuth and Bendix: each function returns true. No condition.
-/
import Derived.Test.YtfcedichoigbbaaAmKr
import Derived.Test.YtfcedichoigbbaaAmWc
namespace Go.Proofs.Ytfcedichoigbbaa.Am
open Go Go.Proofs
set_option maxHeartbeats 4000000
set_option linter.unusedSimpArgs false
set_option linter.unusedVariables false

abbrev tX : Term := .mk 0 (ByteArray.mk #[]) []
abbrev tA : Term := .mk 0 (ByteArray.mk #[97]) []
abbrev tB : Term := .mk 0 (ByteArray.mk #[98]) []
abbrev tF (t : Term) : Term := .mk 0 (ByteArray.mk #[102]) [t]
theorem ex1 : (⟨[], []⟩ : Sg).kCmp (tF tX) tX = 1 := by decide +kernel
theorem ex2 : (⟨[], []⟩ : Sg).kCmp tA tX = 2 := by decide +kernel
theorem ex3 : (⟨[], []⟩ : Sg).kCmp (tF tA) (tF tB) = -1 := by decide +kernel
theorem ex4 : (if (tF tA).rightE = 0 then ((tF tA).loadW ⟨[], []⟩ 1 []).1 else 0) = 2 := by decide +kernel
theorem pcl_eval {f : FuncId} {ds : List D} {x : D} {n : Nat} (h : pcl (oracles Try.prog plc n).1 f ds = some x) : pcl Cp f ds = some x :=
  pcl_mono (fun f vs H nx r h => (acall_some Try.prog plc).2 ⟨n, h⟩) h
theorem fterm_ok (s : ByteArray) : pcl Cp 50 [.agg [.int .i64 0, .str s, .sl [] 0 false (some true)]] = some (.agg [.int .i64 0, .str (ByteArray.mk #[102]), .sl [.int .i64 0, .str s, .sl [] 0 false (some true)] 1 false (some false)]) := by
  refine pcl_body code50 ?_
  simp [plc_raw]
theorem above_ex : pcl Cp 31 [.agg [.sl [] 0 false (some true), .sl [] 0 false (some true)], .str (ByteArray.mk #[98]), .str (ByteArray.mk #[97])] = some (.bool true) := pcl_eval (n := 60) (by kernel_rfl)
theorem alive07_ok : pcl Cp 33 [] = some (.bool true) := by
  have hg : (⟨[], []⟩ : Sg).ok := by simp [Sg.ok]
  have h0 : tX.ok := by simp [Term.ok, okL]
  have hA : tA.ok := by simp [Term.ok, okL]
  have hB : tB.ok := by simp [Term.ok, okL]
  have hf : ∀ t : Term, t.ok → (tF t).ok := fun t h => by simp [Term.ok, okL, h]
  have c1 := kCompare_ok ⟨[], []⟩ hg (tF tX) (hf _ h0) tX h0
  have c2 := kCompare_ok ⟨[], []⟩ hg tA hA tX h0
  have c3 := kCompare_ok ⟨[], []⟩ hg (tF tA) (hf _ hA) (tF tB) (hf _ hB)
  have c4 := kWeight_ok ⟨[], []⟩ hg (tF tA) (hf _ hA)
  rw [ex1] at c1
  rw [ex2] at c2
  rw [ex3] at c3
  rw [ex4] at c4
  simp [Term.enc, Sg.enc, encL, encS, encI] at c1 c2 c3 c4
  refine pcl_body code33 ?_
  simp [plc_raw, fterm_ok, above_ex, c1, c2, c3, c4]

/-! ### The laws -/
theorem kboNames_ok (g : Sg) (hg : g.ok) (a b : ByteArray) : pcl Cp 9 [.agg g.enc, .str a, .str b] = some (.bool true) := by
  have h1 := above_ok g hg a b
  have h2 := above_ok g hg b a
  have h3 := rabove_ok g hg a b
  have h4 := own_ok g
  have h5 := alive07_ok
  rw [aboveR_eq] at h3
  have hab := above_one g a b
  generalize g.above a b = p at *
  generalize g.above b a = q at *
  simp [Sg.enc] at h1 h2 h3 h4
  refine pcl_body code9 ?_
  cases p
  · cases q
    · simp at hab
      simp [Sg.enc, plc_raw, h1, h2, h3, h4, h5, hab]
    · simp [Sg.enc, plc_raw, h1, h2, h3, h4, h5]
  · simp [Sg.enc, plc_raw, h1, h2, h3, h4, h5]
theorem kCmp_range (g : Sg) (t u : Term) (ht : t.size ≤ 1048576) (hu : u.size ≤ 1048576) : -1 ≤ g.kCmp t u ∧ g.kCmp t u ≤ 2 := by
  rw [kCmp_spec g t u ht hu]
  split
  · split
    · omega
    · split
      · omega
      · split <;> omega
  · omega
theorem kboThrough_ok (g : Sg) (hg : g.ok) (a : Term) (ha : a.ok) (has : a.size ≤ 1048576) (b : Term) (hb : b.ok) (hbs : b.size ≤ 1048576) (c : Term) (hc : c.ok) (hcs : c.size ≤ 1048576) :
    pcl Cp 10 [.agg g.enc, .agg a.enc, .agg b.enc, .agg c.enc] = some (.bool true) := by
  have h1 := kCompare_ok g hg a ha b hb
  have h2 := kCompare_ok g hg b hb c hc
  have h3 := kCompare_ok g hg a ha c hc
  have h6 := kCompare_ok g hg b hb a ha
  have h4 := own_ok g
  have h5 := alive07_ok
  have ht := kCmp_turn g a b has hbs
  have htr := kCmp_trans g a b c has hbs hcs
  have hrg := kCmp_range g a b has hbs
  generalize g.kCmp a b = x at *
  generalize g.kCmp b c = y at *
  generalize g.kCmp a c = z at *
  generalize g.kCmp b a = w at *
  obtain ⟨v, fn, args⟩ := a
  obtain ⟨v2, fn2, args2⟩ := b
  obtain ⟨v3, fn3, args3⟩ := c
  simp [Sg.enc, Term.enc] at h1 h2 h3 h4 h6
  refine pcl_body code10 ?_
  rcases ht with ⟨rfl, rfl⟩ | ⟨hx, rfl⟩
  · simp [Sg.enc, Term.enc, plc_raw, h1, h2, h3, h4, h5, h6]
  · have hwr : IntKind.i64.wrap (-x) = -x := wrap_small (by omega) (by omega)
    by_cases hx1 : x = 1
    · subst hx1
      by_cases hy : y = 1
      · have := htr rfl hy
        subst this
        subst hy
        simp [Sg.enc, Term.enc, plc_raw, h1, h2, h3, h4, h5, h6, hwr]
      · simp [Sg.enc, Term.enc, plc_raw, h1, h2, h3, h4, h5, h6, hy, hwr]
    · simp [Sg.enc, Term.enc, plc_raw, h1, h2, h3, h4, h5, h6, hx, hx1, hwr]
theorem kboCompares_ok (g : Sg) (hg : g.ok) (a : Term) (ha : a.ok) (has : a.size ≤ 1048576) (b : Term) (hb : b.ok) (hbs : b.size ≤ 1048576) :
    pcl Cp 8 [.agg g.enc, .agg a.enc, .agg b.enc] = some (.bool true) := by
  have h1 := kCompare_ok g hg a ha b hb
  have h2 := rCompare_ok g hg a ha has b hb hbs
  have h3 := kWeight_ok g hg a ha
  have h6 := rWeight_ok g hg a ha has
  have h4 := own_ok g
  have h5 := alive07_ok
  have h7 := gright_ok g hg
  have h8 := grright_ok g hg
  rw [kCmp_rCmp g a b has hbs] at h1
  rw [loadW_wt g a has] at h3
  obtain ⟨v, fn, args⟩ := a
  obtain ⟨v2, fn2, args2⟩ := b
  have h9 := above_ok g hg fn fn2
  have h10 := rabove_ok g hg fn fn2
  rw [aboveR_eq] at h10
  generalize g.above fn fn2 = p at *
  generalize g.rCmp _ _ = x at *
  generalize (if (Term.mk v fn args).rightE = 0 then (Term.mk v fn args).wt g else 0) = y at *
  generalize g.right = r at *
  simp [Sg.enc, Term.enc] at h1 h2 h3 h4 h6 h7 h8 h9 h10
  refine pcl_body code8 ?_
  cases r <;> simp at h7 <;> simp [Sg.enc, Term.enc, plc_raw, h1, h2, h3, h4, h5, h6, h7, h8, h9, h10]
end Go.Proofs.Ytfcedichoigbbaa.Am

/-
  The law of substitutions applied: its function returns true. No condition.
-/
import Derived.Test.YtiafeijkifpfaaaAmSg
namespace Go.Proofs.Ytiafeijkifpfaaa.Am
open Go Go.Proofs
set_option maxHeartbeats 4000000
set_option linter.unusedSimpArgs false
set_option linter.unusedVariables false

theorem alive04_ok : pcl Cp 29 [] = some (.bool true) := by
  have h : acall Try.prog plc 29 [] (fun _ => none) 0 = some (.d (.bool true), fun _ => none, 0) := by
    refine acall_of Try.prog plc ?_
    unfold callF
    have : plc.ext 29 = some aliveX := rfl
    rw [this]
    rfl
  unfold pcl
  simp [h, reify]
def LightEnd (bs : List Bd) (v : Int) (fn : ByteArray) (args : List Term) (e : Ex) (t : St) : Prop :=
  AtRet 4 (.d (.bool false)) e t ∨ ∃ m : Int, AtExit 0 [.d (.sl (encB bs) bs.length false none), .junk, .junk, .ptr (0, 0) 0 3, .d (.bool false), .d (.int .i64 m), .d (.int .i64 bs.length), .junk, .junk, .junk, .junk, .junk, .junk, .junk, .junk, .junk, .junk, .junk, .junk, .junk, .junk, .junk, .junk, .junk, .junk, .junk, .junk, .junk, .junk, .junk, .junk, .junk, .junk, .junk, .junk] (upd (fun _ => none) (0, 0) (.cells [.d (.int .i64 v), .d (.str fn), .d (.sl (encL args) args.length false none)])) e t
theorem light_ok (bs : List Bd) (hb : okB bs) (t : Term) (ht : t.ok) : ∃ b, pcl Cp 28 [.sl (encB bs) bs.length false none, .agg t.enc] = some (.bool b) := by
  have hs := rsize_ok t ht
  obtain ⟨v, fn, args⟩ := t
  have hloop := loop_rule (P := Try.prog) (pol := plc) (c := b28_0) (m := ⟨[true, false, false, true, true, true, true, false, false, false, false, false, false, false, false, false, false, false, false, false, false, false, false, false, false, true, true, true, true, true, true, true, true, true, true], some 4⟩)
    (b := 4) (tm := fun (s : Nat × Int) => [.d (.sl (encB bs) bs.length false none), .junk, .junk, .ptr (0, 0) 0 3, .d (.bool false), .d (.int .i64 s.2), .d (.int .i64 s.1), .junk, .junk, .junk, .junk, .junk, .junk, .junk, .junk, .junk, .junk, .junk, .junk, .junk, .junk, .junk, .junk, .junk, .junk, .junk, .junk, .junk, .junk, .junk, .junk, .junk, .junk, .junk, .junk]) (Hf := fun _ => upd (fun x => none) (0, 0) (.cells [.d (.int .i64 v), .d (.str fn), .d (.sl (encL args) args.length false none)]))
    (I := fun s => s.1 ≤ bs.length) (μ := fun s => bs.length - s.1) (res := fun s => ()) (R := fun _ e t => LightEnd bs v fn args e t)
    (fun s nx hi => by
      obtain ⟨i, m⟩ := s
      simp only at hi ⊢
      rcases Nat.lt_or_ge i bs.length with hl | hl
      · obtain ⟨x, v', fn', args', a⟩ := atB_ok hb.1 hl
        have hc := rsize_ok _ (hb.2 _ a.mem)
        generalize (Term.mk v' fn' args').sizeW = z at hc
        simp [Term.enc] at hc
        conv => arg 9; arg 4; unfold b28_0
        by_cases hz : (3000 : Int) < z
        · simp [a.lti, a.sz, a.ltm, a.c1, a.e10, a.e11, a.c10, a.c11, a.le1, a.le4, a.le3, a.le2, a.le11, plc_raw, a.w, hc, hz]
          exact .fin _ _ (.inl ⟨rfl, rfl⟩)
        · simp [a.lti, a.sz, a.ltm, a.c1, a.e10, a.e11, a.c10, a.c11, a.le1, a.le4, a.le3, a.le2, a.le11, plc_raw, a.w, hc, hz]
          exact .next (i + 1, if m < z then z else m) (by omega) (by simp) rfl hl (by simp; omega) rfl
      · obtain rfl : i = bs.length := Nat.le_antisymm hi hl
        simp [b28_0]
        exact .fin _ _ (.inr ⟨m, .mk⟩)) (0, 1) (Nat.zero_le _)
  obtain ⟨e, st, hrun, hR⟩ := hloop
  simp at hrun
  generalize (Term.mk v fn args).sizeW = z at hs
  simp [Term.enc] at hs
  rcases hR with ⟨rfl, hv⟩ | ⟨m, rfl, nx, rfl⟩
  · exact ⟨false, pcl_body code28 (by simp [plc_raw, Term.enc, hrun, hv])⟩
  · by_cases hz : z ≤ 5000
    · exact ⟨decide (IntKind.i64.wrap (m * z) ≤ 1000000), pcl_body code28 (by simp [plc_raw, Term.enc, hrun, hs, hz])⟩
    · exact ⟨false, pcl_body code28 (by simp [plc_raw, Term.enc, hrun, hs, hz])⟩
theorem sameB_refl (t : Term) : t.sameB t = true := (sameB_eq t t).2 rfl
theorem applyS_ok (bs : List Bd) (hb : okB bs) (t : Term) (ht : t.ok) : (applyS bs t).1.ok := by
  unfold applyS
  split
  · split
    · exact putS_ok bs hb t ht
    · simp [Term.ok, okL]
  · simp [Term.ok, okL]
theorem substApplies_ok (bs : List Bd) (hb : okB bs) (hbs : ∀ b ∈ bs, b.t.size ≤ 1048576) (hn : bs.length ≤ 1048576) (t : Term) (ht : t.ok) (hts : t.size ≤ 1048576) :
    pcl Cp 7 [.sl (encB bs) bs.length false none, .agg t.enc] = some (.bool true) := by
  obtain ⟨b, h1⟩ := light_ok bs hb t ht
  have hal := alive04_ok
  obtain ⟨r1, h2, h3⟩ := subst_apply_ok bs hb hn hbs t ht hts
  obtain ⟨r2, h4, h5⟩ := apply_ok bs hb t ht hts
  have h6 := sright_ok bs hb
  have h7 := ris_ok bs hb
  have h8 := rsame_ok _ (applyS_ok bs hb t ht) _ (applyS_ok bs hb t ht)
  rw [sameB_refl] at h8
  generalize applyS bs t = x at *
  generalize isB bs = q at *
  obtain ⟨v, fn, args⟩ := t
  obtain ⟨⟨v2, fn2, args2⟩, e⟩ := x
  simp [Term.enc] at h1 h2 h3 h4 h5 h8
  refine pcl_body code7 ?_
  cases b
  · simp [plc_raw, Term.enc, h1, hal]
  · cases q <;> simp at h6 <;> simp [plc_raw, Term.enc, h1, h2, h3, h4, h5, h6, h7, h8, hal]
end Go.Proofs.Ytiafeijkifpfaaa.Am

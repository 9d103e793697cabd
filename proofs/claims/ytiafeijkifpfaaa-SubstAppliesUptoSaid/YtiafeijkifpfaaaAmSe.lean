/-
  Substitutions: what the program's functions make of a term. No condition.
-/
import Derived.Test.YtiafeijkifpfaaaAmSd
import Derived.Test.YtiafeijkifpfaaaAmWk
namespace Go.Proofs.Ytiafeijkifpfaaa.Am
open Go Go.Proofs
set_option maxHeartbeats 4000000
set_option linter.unusedSimpArgs false
set_option linter.unusedVariables false

/-! ### What is told of what stands for a variable -/
def encT2 (bs : List Bd) : List D := bs.flatMap fun b => [.int .i64 b.t.depthW, .int .i64 b.t.sizeW]
theorem encT2_len : ∀ (bs : List Bd), (encT2 bs).length = bs.length * 2
  | [] => rfl
  | b :: r => by have := encT2_len r; simp [encT2] at this ⊢; omega
theorem encT2_at : ∀ (bs : List Bd) (i : Nat) (b : Bd), bs[i]? = some b → (encT2 bs)[i * 2]? = some (.int .i64 b.t.depthW) ∧ (encT2 bs)[i * 2 + 1]? = some (.int .i64 b.t.sizeW)
  | [], i, b, h => by simp at h
  | c :: r, 0, b, h => by simp at h; subst h; simp [encT2]
  | c :: r, i + 1, b, h => by
    have := encT2_at r i b (by simpa using h)
    simp only [encT2, List.flatMap_cons] at this ⊢
    rw [show (i + 1) * 2 = [D.int .i64 c.t.depthW, D.int .i64 c.t.sizeW].length + i * 2 by simp; omega, show [D.int .i64 c.t.depthW, D.int .i64 c.t.sizeW].length + i * 2 + 1 = [D.int .i64 c.t.depthW, D.int .i64 c.t.sizeW].length + (i * 2 + 1) by omega]
    rw [List.getElem?_append_right (by omega), List.getElem?_append_right (by omega), Nat.add_sub_cancel_left, Nat.add_sub_cancel_left]
    exact this
theorem var_one (x : Int) : (1 : Int) = (Term.mk x (ByteArray.mk #[]) []).depthW ∧ (1 : Int) = (Term.mk x (ByteArray.mk #[]) []).sizeW := by
  constructor
  · simp only [Term.depthW, depthWL]; rw [wrap_small (by omega) (by omega)]; rfl
  · simp only [Term.sizeW, sizeWL]
theorem ofM_ok (bs : List Bd) (hb : okB bs) (hn : bs.length ≤ 1048576) (hp : bs.Pairwise (fun a b => a.v < b.v)) (nl : Option Bool) (x : Int) :
    pcl Cp 80 [.int .i64 x, .dptr [.sl (encB bs) bs.length false none], .dptr [.sl (encT2 bs) bs.length false nl]] = some (.tup [.int .i64 (ofS bs x).depthW, .int .i64 (ofS bs x).sizeW]) := by
  have hf := find_ok bs hb hn hp x
  rw [ofS_low hp x]
  refine pcl_body code80 ?_
  cases hl : bs[lowB bs x]? with
  | none =>
    have : foundB bs x = false := by simp only [foundB, hl]
    rw [this] at hf
    simp [plc_raw, hf]
    exact var_one x
  | some b =>
    by_cases hv : b.v = x
    · have : foundB bs x = true := by simp only [foundB, hl]; simp [hv]
      rw [this] at hf
      obtain ⟨e1, e2⟩ := encT2_at bs _ b hl
      have hlt := (List.getElem?_eq_some_iff.1 hl).1
      have hlen := encT2_len bs
      have h1 : lowB bs x * 2 < bs.length * 2 := by omega
      have h2 : lowB bs x * 2 + 1 < bs.length * 2 := by omega
      have h3 : 1 ≤ bs.length * 2 - lowB bs x * 2 := by omega
      have h4 : 2 ≤ bs.length * 2 - lowB bs x * 2 := by omega
      have h5 : (lowB bs x : Int) < bs.length := by omega
      have g1 : ∀ h, (encT2 bs)[lowB bs x * 2]'h = .int .i64 b.t.depthW := fun h => by rw [List.getElem?_eq_getElem h] at e1; exact Option.some.inj e1
      have g2 : ∀ h, (encT2 bs)[lowB bs x * 2 + 1]'h = .int .i64 b.t.sizeW := fun h => by rw [List.getElem?_eq_getElem h] at e2; exact Option.some.inj e2
      simp [plc_raw, hf, hv, hlen, h1, h2, h3, h4, h5, hlt, g1, g2]
    · have : foundB bs x = false := by simp only [foundB, hl]; simp [hv]
      rw [this] at hf
      simp [plc_raw, hf, hv]
      exact var_one x
theorem ofT_ok (bs : List Bd) (hb : okB bs) (hn : bs.length ≤ 1048576) (hp : bs.Pairwise (fun a b => a.v < b.v)) (x : Int) :
    ∃ r, pcl Cp 81 [.int .i64 x, .dptr [.sl (encB bs) bs.length false none]] = some r ∧ wk r = .agg (ofS bs x).enc := by
  have hf := find_ok bs hb hn hp x
  rw [ofS_low hp x]
  cases hl : bs[lowB bs x]? with
  | none =>
    have : foundB bs x = false := by simp only [foundB, hl]
    rw [this] at hf
    refine ⟨.agg [.int .i64 x, .str (ByteArray.mk #[]), .sl [] 0 false (some true)], pcl_body code81 ?_, by simp [Term.enc, encL]⟩
    simp [plc_raw, hf]
  | some b =>
    by_cases hv : b.v = x
    · have : foundB bs x = true := by simp only [foundB, hl]; simp [hv]
      rw [this] at hf
      have hlt := (List.getElem?_eq_some_iff.1 hl).1
      obtain ⟨y, v, fn, args, a⟩ := atB_ok hb.1 hlt
      have hbk : b = ⟨y, .mk v fn args⟩ := by
        have := a.dr
        rw [List.drop_eq_getElem_cons hlt] at this
        rw [List.getElem?_eq_getElem hlt] at hl
        exact (Option.some.inj hl).symm.trans (List.cons.inj this).1
      subst hbk
      have k1 := a.lti
      have k2 := a.ltm
      have k3 := a.c1
      have k4 := a.le4
      have k5 := a.le3
      have k6 := a.sz
      have k7 := a.le1
      clear a
      generalize lowB bs x = h at *
      refine ⟨.agg (Term.mk v fn args).enc, pcl_body code81 ?_, ?_⟩
      · simp [plc_raw, hf, k1, k2, k3, k4, k5, k6, k7, hlt, Term.enc]
      · simp only at hv
        simp [hv, Term.enc]
    · have : foundB bs x = false := by simp only [foundB, hl]; simp [hv]
      rw [this] at hf
      refine ⟨.agg [.int .i64 x, .str (ByteArray.mk #[]), .sl [] 0 false (some true)], pcl_body code81 ?_, by simp [Term.enc, encL, hv]⟩
      simp [plc_raw, hf]

/-! ### How great a term becomes -/
theorem depthW_le (t : Term) (h : (t.size : Int) ≤ 4611686018427387904) : t.depthW = t.depth := depthW_eq t h
abbrev measT (v : Int) (fn : ByteArray) (args : List Term) : Hp := upd (fun _ => none) (0, 0) (.cells [.d (.int .i64 v), .d (.str fn), .d (.sl (encL args) args.length false none)])
theorem putSL_depth (bs : List Bd) : ∀ (a : List Term), depthL (putSL bs a) ≤ sizeL (putSL bs a)
  | [] => by simp [putSL, depthL, sizeL]
  | x :: r => by
    have h1 := depth_size (x.putS bs)
    have h2 := putSL_depth bs r
    simp only [putSL, depthL, sizeL]; omega
theorem measure_ok (bs : List Bd) (f : D) (hf : ∀ x, ∃ g cs, f = .fn g cs ∧ pcl Cp g (.int .i64 x :: cs) = some (.tup [.int .i64 (ofS bs x).depth, .int .i64 (ofS bs x).size])) (hw : ∀ g cs, f = .fn g cs → plc.weak g = false) (t : Term) :
    t.ok → ((t.putS bs).size : Int) ≤ 4611686018427387904 → pcl Cp 79 [.agg t.enc, f] = some (.tup [.int .i64 (t.putS bs).depth, .int .i64 (t.putS bs).size]) := by
  refine Term.ind (p := fun t => t.ok → ((t.putS bs).size : Int) ≤ 4611686018427387904 → pcl Cp 79 [.agg t.enc, f] = some (.tup [.int .i64 (t.putS bs).depth, .int .i64 (t.putS bs).size])) (fun v fn args ih h hsz => ?_) t
  have hn := h.1
  by_cases hv : fn.toList = []
  · obtain ⟨g, cs, rfl, hg⟩ := hf v
    have hwg := hw g cs rfl
    simp only [Term.putS, if_pos hv]
    refine pcl_body code79 ?_
    have hmd := fun H => mapD_encT H 6 cs
    simp [plc_raw, Term.enc, hv, hwg, -plc_weak, hg, hmd]
  · have hsz2 : ((1 + sizeL (putSL bs args) : Nat) : Int) ≤ 4611686018427387904 := by simpa only [Term.putS, if_neg hv, Term.size] using hsz
    have hloop := loop_rule (P := Try.prog) (pol := plc) (c := b79_0) (m := ⟨[false, true, false, false, true, true, false, false, false, false, false, false, false, false, false, false, false, false, false, false, true, true, true, false, false, false, false, false, false, false, false, false, false, false, false, false, false, false, false, true, true, true, true], some 10⟩)
      (b := 10) (tm := fun (s : Nat × Nat × Nat) => [.junk, .d f, .junk, .junk, .d (.int .i64 s.2.1), .d (.int .i64 s.2.2), .junk, .junk, .junk, .junk, .junk, .junk, .junk, .junk, .junk, .junk, .junk, .junk, .junk, .junk, .d (.sl (encL args) args.length false none), .d (.int .i64 args.length), .d (.int .i64 s.1), .junk, .junk, .junk, .junk, .junk, .junk, .junk, .junk, .junk, .junk, .junk, .junk, .junk, .junk, .junk, .junk, .junk, .junk, .junk, .junk]) (Hf := fun _ => measT v fn args)
      (I := fun s => s.1 ≤ args.length ∧ s.2.1 ≤ s.2.2 ∧ ((s.2.2 + sizeL (putSL bs (args.drop s.1)) : Nat) : Int) < 4611686018427387904) (μ := fun s => args.length - s.1) (res := fun s => (max s.2.1 (depthL (putSL bs (args.drop s.1))), s.2.2 + sizeL (putSL bs (args.drop s.1))))
      (R := fun r e t => AtExit 0 [.junk, .d f, .junk, .junk, .d (.int .i64 r.1), .d (.int .i64 r.2), .junk, .junk, .junk, .junk, .junk, .junk, .junk, .junk, .junk, .junk, .junk, .junk, .junk, .junk, .d (.sl (encL args) args.length false none), .d (.int .i64 args.length), .d (.int .i64 args.length), .junk, .junk, .junk, .junk, .junk, .junk, .junk, .junk, .junk, .junk, .junk, .junk, .junk, .junk, .junk, .junk, .junk, .junk, .junk, .junk] (measT v fn args) e t)
      (fun s nx hi => by
        obtain ⟨i, d, z⟩ := s
        obtain ⟨hi, hdz, hs⟩ := hi
        simp only at hi hdz hs ⊢
        rcases Nat.lt_or_ge i args.length with hl | hl
        · obtain ⟨v', fn', args', a⟩ := at_ok hn hl
          have hdr : putSL bs (args.drop i) = (Term.mk v' fn' args').putS bs :: putSL bs (args.drop (i + 1)) := by rw [a.dr]; rfl
          rw [hdr] at hs
          simp only [sizeL] at hs
          have hc := ih _ a.mem (okL_mem h.2 _ a.mem) (by omega)
          have hds := depth_size ((Term.mk v' fn' args').putS bs)
          generalize (Term.mk v' fn' args').putS bs = u at *
          have hw2 : IntKind.i64.wrap ((z : Int) + (u.size : Int)) = ((z + u.size : Nat) : Int) := by rw [wrap_small (by omega) (by omega)]; omega
          simp only [Int.natCast_add] at hw2
          simp [Term.enc] at hc
          conv => arg 9; arg 4; unfold b79_0
          have hmx : (if d < u.depth then (u.depth : Int) else (d : Int)) = ((max d u.depth : Nat) : Int) := by split <;> omega
          simp [a.lti, a.sz, a.ltm, a.cells, a.le3, plc_raw, a.w, hc, hw2, hmx]
          exact .next (i + 1, max d u.depth, z + u.size) (by omega) (by simp) rfl ⟨hl, by simp only; omega, by simp only; omega⟩ (by simp; omega) (by simp only [hdr, depthL, sizeL, Nat.max_assoc, Nat.add_assoc])
        · obtain rfl : i = args.length := Nat.le_antisymm hi hl
          simp [b79_0]
          exact .fin _ _ (by simp only [List.drop_length, putSL, depthL, sizeL, Nat.max_zero, Nat.add_zero]; exact .mk)) (0, 0, 0) ⟨Nat.zero_le _, Nat.le_refl _, by simp; omega⟩
    obtain ⟨e, t, hrun, rfl, nx, rfl⟩ := hloop
    simp at hrun
    have hdp := putSL_depth bs args
    have hw1 : IntKind.i64.wrap ((depthL (putSL bs args) : Int) + 1) = (depthL (putSL bs args) : Int) + 1 := wrap_small (by omega) (by omega)
    have hw2 : IntKind.i64.wrap ((sizeL (putSL bs args) : Int) + 1) = (sizeL (putSL bs args) : Int) + 1 := wrap_small (by omega) (by omega)
    refine pcl_body code79 ?_
    simp only [Term.putS, if_neg hv, Term.depth, Term.size]
    simp [plc_raw, Term.enc, hv, hrun, hw1, hw2]
    omega
end Go.Proofs.Ytiafeijkifpfaaa.Am

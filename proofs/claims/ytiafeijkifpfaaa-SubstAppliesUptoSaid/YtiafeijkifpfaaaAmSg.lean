/-
  Substitutions: what the program's function answers. No condition.
-/
import Derived.Test.YtiafeijkifpfaaaAmSf
import Derived.Test.YtiafeijkifpfaaaAmWc
namespace Go.Proofs.Ytiafeijkifpfaaa.Am
open Go Go.Proofs
set_option maxHeartbeats 4000000
set_option linter.unusedSimpArgs false
set_option linter.unusedVariables false

def rowW (l : List Bd) : Am.Obj := if l = [] then .vnil else .grow ((encT2 l).map .d)
def rowWA (o : Oid) (l : List Bd) : AV := if l = [] then .osl o 0 0 1 0 else .osl o 0 l.length 2 (l.length * 2)
theorem encT2_append (a : List Bd) (b : Bd) : encT2 (a ++ [b]) = encT2 a ++ [.int .i64 b.t.depthW, .int .i64 b.t.sizeW] := by simp [encT2]
theorem append_rowW {H : Hp} {id : Nat} {o o2 : Oid} {l : List Bd} {b : Bd} (h : H o = some (rowW l)) (h2 : H o2 = some (.cells [.d (.int .i64 b.t.depthW), .d (.int .i64 b.t.sizeW)])) (hl : l.length ≤ 1048576) :
    appendO Try.prog H id 108 108 (rowWA o l) (.osl o2 0 1 2 2) = some (rowWA o (l ++ [b]), upd H o (rowW (l ++ [b]))) := by
  have h3 : l.length * 2 ≤ 68719476736 := by omega
  cases l with
  | nil =>
    simp only [rowW, if_true] at h
    simp [appendO, srcCells, srcRaw, h, h2, rowWA, rowW, growO, encT2, kill]
  | cons y r =>
    simp [rowW] at h
    have hel2 : (encT2 (y :: r)).length = (r.length + 1) * 2 := by simpa using encT2_len (y :: r)
    have hle : ¬ ((r.length + 1) * 2 + 2 ≤ (r.length + 1) * 2) := by omega
    have h4 : (r.length + 1) * 2 ≤ 68719476736 := by simpa using h3
    have he : encT2 (y :: (r ++ [b])) = encT2 (y :: r) ++ [.int .i64 b.t.depthW, .int .i64 b.t.sizeW] := encT2_append (y :: r) b
    simp [appendO, srcCells, srcRaw, h, h2, rowWA, rowW, growO, kill, hel2, hle, h4, he]
    refine ⟨by omega, ?_⟩
    exact by rw [List.take_of_length_le (by simp [hel2])]
abbrev applyB (bs : List Bd) (v : Int) (fn : ByteArray) (args : List Term) : Hp :=
  upd (upd (upd (upd (fun _ => none) (0, 0) (.cells [.d (.sl (encB bs) bs.length false none)])) (1, 0) (.cells [.d (.int .i64 v), .d (.str fn), .d (.sl (encL args) args.length false none)])) (2, 3) .vnil) (2, 0) (.cells [.d (.int .i64 0), .d (.str (ByteArray.mk #[])), .osl (2, 3) 0 0 1 0])
abbrev applyH (bs : List Bd) (v : Int) (fn : ByteArray) (args : List Term) (done : List Bd) : Hp := upd (upd (applyB bs v fn args) (4, 1) (rowW done)) (4, 0) (.cells [rowWA (4, 1) done])
def ApplyEnd (bs : List Bd) (v : Int) (fn : ByteArray) (args : List Term) (r : List Bd) (e : Ex) (t : St) : Prop :=
  AtExit 0 [.junk, .junk, .ptr (0, 0) 0 1, .ptr (1, 0) 0 3, .ptr (2, 0) 0 3, .d (.int .i64 0), .ptr (4, 0) 0 1, .junk, .junk, .junk, .junk, .d (.sl (encB bs) bs.length false none), .d (.int .i64 bs.length), .d (.int .i64 bs.length), .junk, .junk, .junk, .junk, .junk, .junk, .junk, .junk, .junk, .junk, .junk, .junk, .junk, .junk, .junk, .junk, .junk, .junk, .junk, .junk, .junk, .junk, .junk, .junk, .junk, .junk, .junk, .junk, .junk, .junk, .junk] (applyH bs v fn args r) e t
theorem apply_loop (bs : List Bd) (hb : okB bs) (hn : bs.length ≤ 1048576) (v : Int) (fn : ByteArray) (args : List Term) :
    ∃ e t, aloop Try.prog plc b61_0 ⟨[false, false, true, true, true, true, true, false, false, true, true, true, true, true, false, false, false, false, false, false, false, false, false, false, false, false, false, false, true, true, true, true, true, true, true, true, true, true, true, true, true, true, true, true, true], some 8⟩ ⟨[.junk, .junk, .ptr (0, 0) 0 1, .ptr (1, 0) 0 3, .ptr (2, 0) 0 3, .d (.int .i64 0), .ptr (4, 0) 0 1, .junk, .junk, .junk, .junk, .d (.sl (encB bs) bs.length false none), .d (.int .i64 bs.length), .d (.int .i64 0), .junk, .junk, .junk, .junk, .junk, .junk, .junk, .junk, .junk, .junk, .junk, .junk, .junk, .junk, .junk, .junk, .junk, .junk, .junk, .junk, .junk, .junk, .junk, .junk, .junk, .junk, .junk, .junk, .junk, .junk, .junk], applyH bs v fn args [], 8⟩ = some (e, t) ∧
      ApplyEnd bs v fn args bs e t := by
  have key := loop_rule (P := Try.prog) (pol := plc) (c := b61_0) (m := ⟨[false, false, true, true, true, true, true, false, false, true, true, true, true, true, false, false, false, false, false, false, false, false, false, false, false, false, false, false, true, true, true, true, true, true, true, true, true, true, true, true, true, true, true, true, true], some 8⟩)
    (b := 8) (tm := fun (s : Nat × List Bd) => [.junk, .junk, .ptr (0, 0) 0 1, .ptr (1, 0) 0 3, .ptr (2, 0) 0 3, .d (.int .i64 0), .ptr (4, 0) 0 1, .junk, .junk, .junk, .junk, .d (.sl (encB bs) bs.length false none), .d (.int .i64 bs.length), .d (.int .i64 s.1), .junk, .junk, .junk, .junk, .junk, .junk, .junk, .junk, .junk, .junk, .junk, .junk, .junk, .junk, .junk, .junk, .junk, .junk, .junk, .junk, .junk, .junk, .junk, .junk, .junk, .junk, .junk, .junk, .junk, .junk, .junk]) (Hf := fun s => applyH bs v fn args s.2)
    (I := fun s => s.1 ≤ bs.length ∧ s.2.length = s.1) (μ := fun s => bs.length - s.1) (res := fun s => s.2 ++ bs.drop s.1) (R := ApplyEnd bs v fn args)
    (fun s nx hi => by
      obtain ⟨i, done⟩ := s
      obtain ⟨hi, hd⟩ := hi
      simp only at hi hd ⊢
      rcases Nat.lt_or_ge i bs.length with hl | hl
      · obtain ⟨x, v', fn', args', a⟩ := atB_ok hb.1 hl
        have h1 := depth_ok _ (hb.2 _ a.mem)
        have h2 := size_ok _ (hb.2 _ a.mem)
        have happ := fun (H : Hp) (id : Nat) (o2 : Oid) (h1 : H (4, 1) = some (rowW done)) (h2 : H o2 = some (.cells [.d (.int .i64 (Term.mk v' fn' args').depthW), .d (.int .i64 (Term.mk v' fn' args').sizeW)])) => append_rowW (b := ⟨x, .mk v' fn' args'⟩) (id := id) h1 h2 (by omega)
        have hres : done ++ bs.drop i = (done ++ [⟨x, .mk v' fn' args'⟩]) ++ bs.drop (i + 1) := by rw [a.dr]; simp
        simp [Term.enc] at h1 h2
        conv => arg 9; arg 4; unfold b61_0
        cases done with
        | nil =>
          simp [rowWA] at happ
          simp [a.lti, a.sz, a.ltm, a.cells, a.le4, plc_raw, a.w, h1, h2, happ, rowWA]
          refine .next (i + 1, [⟨x, .mk v' fn' args'⟩]) (by omega) (by simp) ?_ ⟨hl, by simp at hd ⊢; omega⟩ (by simp; omega) (by simp only [hres]; simp)
          exact upd4 (by simp)
        | cons y q =>
          simp [rowWA] at happ
          simp [a.lti, a.sz, a.ltm, a.cells, a.le4, plc_raw, a.w, h1, h2, happ, rowWA]
          refine .next (i + 1, y :: q ++ [⟨x, .mk v' fn' args'⟩]) (by omega) (by simp) ?_ ⟨hl, by simp at hd ⊢; omega⟩ (by simp; omega) (by simp only [hres] <;> first | done | simp)
          simp [applyH, rowWA]
          exact upd4 (by simp)
      · obtain rfl : i = bs.length := Nat.le_antisymm hi hl
        simp [b61_0]
        refine .fin _ _ ?_
        simp only [List.drop_length, List.append_nil]
        exact .mk) (0, []) ⟨Nat.zero_le _, rfl⟩
  simpa using key
/-- What is answered. -/
def sapplyR (bs : List Bd) (t : Term) : Term × Int := if (60 : Int) < ((t.putS bs).depth : Int) then (zeroT, 22) else if (4000 : Int) < ((t.putS bs).size : Int) then (zeroT, 3) else (t.putS bs, 0)
theorem sapply_ok (bs : List Bd) (hb : okB bs) (hn : bs.length ≤ 1048576) (hp : bs.Pairwise (fun a b => a.v < b.v)) (hbs : ∀ b ∈ bs, b.t.size ≤ 1048576) (t : Term) (ht : t.ok) (hts : t.size ≤ 1048576) :
    ∃ r, pcl Cp 61 [.sl (encB bs) bs.length false none, .agg t.enc] = some r ∧ wk r = .tup [.agg (sapplyR bs t).1.enc, .int .i64 (sapplyR bs t).2] := by
  have hsz := putS_size bs 1048576 (by omega) hbs t
  have hsz2 : t.size * 1048576 ≤ 1048576 * 1048576 := Nat.mul_le_mul_right _ hts
  have hof : ∀ x, (ofS bs x).size ≤ 1048576 := fun x => by
    unfold ofS
    cases hf : bs.find? (fun b => decide (b.v = x)) with
    | none => simp [Term.size, sizeL]
    | some b => exact hbs b (List.mem_of_find?_eq_some hf)
  have hmeas := fun nl => measure_ok bs (.fn 80 [.dptr [.sl (encB bs) bs.length false none], .dptr [.sl (encT2 bs) bs.length false nl]]) (fun x => ⟨_, _, rfl, by
    have h := ofM_ok bs hb hn hp nl x
    rw [depthW_eq _ (by have := hof x; omega), sizeW_eq _ (by have := hof x; omega)] at h
    exact h⟩) (fun g cs h => by cases h; rfl) t ht (by omega)
  obtain ⟨r, hr, hw⟩ := turned_ok bs hb hn hp hof t ht hts
  unfold sapplyR
  generalize t.putS bs = u at *
  obtain ⟨v, fn, args⟩ := t
  obtain ⟨e, st, hrun, rfl, nx, rfl⟩ := apply_loop bs hb hn v fn args
  obtain ⟨uv, ufn, uargs⟩ := u
  simp [Term.enc] at hmeas hr hw
  generalize (Term.mk uv ufn uargs).depth = dd at *
  generalize (Term.mk uv ufn uargs).size = zz at *
  have hel := encT2_len bs
  have htk : List.take (bs.length * 2) (List.map AV.d (encT2 bs)) = List.map AV.d (encT2 bs) := List.take_of_length_le (by simp [hel])
  have hmd := fun H n => mapD_encT H n (encT2 bs)
  by_cases hd : (60 : Int) < (dd : Int)
  · have hd2 : 60 < dd := by omega
    rw [if_pos hd]
    refine ⟨.tup [.agg [.int .i64 0, .str (ByteArray.mk #[]), .sl [] 0 false (some true)], .int .i64 22], pcl_body code61 ?_, by simp [Term.enc, encL]⟩
    cases bs with
    | nil =>
      have hm0 := hmeas (some true)
      simp [encT2] at hm0
      simp at hr
      simp [applyH, applyB, rowWA, rowW] at hrun
      simp [plc_raw, Term.enc, hrun, hm0, hr, hw, hd, hd2]
    | cons y q =>
      simp only [List.length_cons] at htk hel hmeas
      simp at hr
      simp [applyH, applyB, rowWA, rowW] at hrun
      simp [plc_raw, Term.enc, hrun, hmeas, hr, hw, hd, hd2, htk, hmd, hel]
  by_cases hz : (4000 : Int) < (zz : Int)
  · have hd2 : ¬ 60 < dd := by omega
    have hz2 : 4000 < zz := by omega
    rw [if_neg hd, if_pos hz]
    refine ⟨.tup [.agg [.int .i64 0, .str (ByteArray.mk #[]), .sl [] 0 false (some true)], .int .i64 3], pcl_body code61 ?_, by simp [Term.enc, encL]⟩
    cases bs with
    | nil =>
      have hm0 := hmeas (some true)
      simp [encT2] at hm0
      simp at hr
      simp [applyH, applyB, rowWA, rowW] at hrun
      simp [plc_raw, Term.enc, hrun, hm0, hr, hw, hd, hd2, hz, hz2]
    | cons y q =>
      simp only [List.length_cons] at htk hel hmeas
      simp at hr
      simp [applyH, applyB, rowWA, rowW] at hrun
      simp [plc_raw, Term.enc, hrun, hmeas, hr, hw, hd, hd2, hz, hz2, htk, hmd, hel]
  · have hd2 : ¬ 60 < dd := by omega
    have hz2 : ¬ 4000 < zz := by omega
    rw [if_neg hd, if_neg hz]
    refine ⟨.tup [.agg (Term.mk uv ufn uargs).enc, .int .i64 0], pcl_body code61 ?_, by simp [Term.enc]⟩
    cases bs with
    | nil =>
      have hm0 := hmeas (some true)
      simp [encT2] at hm0
      simp at hr
      simp [applyH, applyB, rowWA, rowW] at hrun
      simp [plc_raw, Term.enc, hrun, hm0, hr, hw, hd, hd2, hz, hz2, kill]
    | cons y q =>
      simp only [List.length_cons] at htk hel hmeas
      simp at hr
      simp [applyH, applyB, rowWA, rowW] at hrun
      simp [plc_raw, Term.enc, hrun, hmeas, hr, hw, hd, hd2, hz, hz2, kill, htk, hmd, hel]
/-- The program's function answers as the document's. -/
theorem subst_apply_ok (bs : List Bd) (hb : okB bs) (hn : bs.length ≤ 1048576) (hbs : ∀ b ∈ bs, b.t.size ≤ 1048576) (t : Term) (ht : t.ok) (hts : t.size ≤ 1048576) :
    ∃ r, pcl Cp 30 [.sl (encB bs) bs.length false none, .agg t.enc] = some r ∧ wk r = .tup [.agg (applyS bs t).1.enc, .int .i64 (applyS bs t).2] := by
  have h1 := sright_ok bs hb
  have h2 := tright_ok t ht
  cases hB : isB bs
  · have ha : applyS bs t = (zeroT, 1) := by simp [applyS, hB]
    rw [ha]
    rw [hB] at h1
    obtain ⟨v, fn, args⟩ := t
    refine ⟨.tup [.agg [.int .i64 0, .str (ByteArray.mk #[]), .sl [] 0 false (some true)], .int .i64 1], pcl_body code30 ?_, by simp [Term.enc, encL]⟩
    simp [plc_raw, Term.enc, h1]
  · rw [hB] at h1
    by_cases hz : t.rightE = 0
    · have hB2 := hB
      simp only [isB, Bool.and_eq_true] at hB2
      obtain ⟨_, hp, hall⟩ := isOk_sorted bs none hB2.2
      obtain ⟨r, h3, h4⟩ := sapply_ok bs hb hn hp hbs t ht hts
      have hsz := putS_size bs 1048576 (by omega) hbs t
      have hsz2 : t.size * 1048576 ≤ 1048576 * 1048576 := Nat.mul_le_mul_right _ hts
      have hre := rightE_put hall hz (by omega)
      have ha : applyS bs t = sapplyR bs t := by
        unfold applyS sapplyR
        rw [if_pos ⟨hB, hz⟩, hre]
        by_cases c1 : ((t.putS bs).depth : Int) > 60
        · rw [if_pos c1, if_neg (by decide), if_pos c1]
        · rw [if_neg c1]
          by_cases c2 : ((t.putS bs).size : Int) > 4000
          · rw [if_pos c2, if_neg (by decide), if_neg c1, if_pos c2]
          · rw [if_neg c2, if_pos rfl, if_neg c1, if_neg c2]
      rw [ha]
      generalize sapplyR bs t = x at h4 ⊢
      generalize t.rightE = z at h2 hz
      obtain ⟨v, fn, args⟩ := t
      obtain ⟨⟨v2, fn2, args2⟩, e⟩ := x
      simp [Term.enc] at h2 h3 h4
      refine ⟨.tup [.agg (Term.mk v2 fn2 args2).enc, .int .i64 e], pcl_body code30 ?_, by simp [Term.enc]⟩
      simp [plc_raw, Term.enc, h1, h2, h3, h4, hz]
    · have ha : applyS bs t = (zeroT, 1) := by simp [applyS, hB, hz]
      rw [ha]
      generalize t.rightE = z at h2 hz
      obtain ⟨v, fn, args⟩ := t
      simp [Term.enc] at h2
      refine ⟨.tup [.agg [.int .i64 0, .str (ByteArray.mk #[]), .sl [] 0 false (some true)], .int .i64 1], pcl_body code30 ?_, by simp [Term.enc, encL]⟩
      simp [plc_raw, Term.enc, h1, h2, hz]
end Go.Proofs.Ytiafeijkifpfaaa.Am

/-
  Substitutions: the term that the program's function makes. No condition.
-/
import Derived.Test.YtiafeijkifpfaaaAmSe
import Derived.Test.YtiafeijkifpfaaaAmWb
namespace Go.Proofs.Ytiafeijkifpfaaa.Am
open Go Go.Proofs
set_option maxHeartbeats 4000000
set_option linter.unusedSimpArgs false
set_option linter.unusedVariables false

theorem copy_ok (t : Term) (hz : t.size ≤ 1048576) : pcl Cp 66 [.agg t.enc] = some (.agg t.enc) := by
  have h : acall Try.prog plc 66 [.d (.agg t.enc)] (fun _ => none) 0 = some (.d (.agg t.enc), fun _ => none, 0) := by
    refine acall_of Try.prog plc ?_
    unfold callF
    have : plc.ext 66 = some copyX := rfl
    rw [this]
    simp only [copyX]
    rw [if_pos ⟨t, hz, rfl⟩]
    rfl
  unfold pcl
  simp [h, reify]
abbrev turnH (v : Int) (fn : ByteArray) (args done : List Term) : Hp := upd (upd (putB v fn args) (9, 3) (rowT done)) (8, 0) (.cells [.d (.int .i64 0), .d (.str fn), rowA (9, 3) done])
def TurnEnd (bs : List Bd) (v : Int) (fn : ByteArray) (args : List Term) (r : List Term) (e : Ex) (t : St) : Prop :=
  AtExit 0 [.junk, .d (.fn 81 [.dptr [.sl (encB bs) bs.length false none]]), .junk, .junk, .ptr (1, 0) 0 3, .ptr (8, 0) 0 3, .junk, .junk, .junk, .junk, .junk, .junk, .junk, .junk, .junk, .junk, .junk, .junk, .junk, .junk, .d (.sl (encL args) args.length false none), .d (.int .i64 args.length), .d (.int .i64 args.length), .junk, .junk, .junk, .junk, .junk, .junk, .junk, .junk, .junk, .junk, .junk, .junk, .junk] (turnH v fn args r) e t
theorem turned_ok (bs : List Bd) (hb : okB bs) (hn : bs.length ≤ 1048576) (hp : bs.Pairwise (fun a b => a.v < b.v)) (hof : ∀ x, (ofS bs x).size ≤ 1048576) (t : Term) : t.ok → t.size ≤ 1048576 →
    ∃ r, pcl Cp 73 [.agg t.enc, .fn 81 [.dptr [.sl (encB bs) bs.length false none]]] = some r ∧ wk r = .agg (t.putS bs).enc := by
  refine Term.ind (p := fun t => t.ok → t.size ≤ 1048576 → ∃ r, pcl Cp 73 [.agg t.enc, .fn 81 [.dptr [.sl (encB bs) bs.length false none]]] = some r ∧ wk r = .agg (t.putS bs).enc) (fun v fn args ih h hsz => ?_) t
  have hn2 := h.1
  simp only [Term.size] at hsz
  by_cases hv : fn.toList = []
  · obtain ⟨r, hr, hw⟩ := ofT_ok bs hb hn hp v
    simp only [Term.putS, if_pos hv]
    have hc := copy_ok (ofS bs v) (hof v)
    generalize ofS bs v = u at hw hc ⊢
    obtain ⟨v', fn', args'⟩ := u
    simp [Term.enc] at hw hc
    refine ⟨.agg (Term.mk v' fn' args').enc, pcl_body code73 ?_, by simp [Term.enc]⟩
    simp [Term.enc, plc_raw, hv, hr, hw, hc]
  · have hlen : ∀ x ∈ args, x.size ≤ sizeL args := fun x hx => sizeL_mem hx
    have hall : args.length ≤ sizeL args := by
      clear ih h hn2 hsz hlen
      induction args with
      | nil => simp
      | cons x r ih => have := x.size_pos; simp only [List.length_cons, sizeL]; omega
    have hloop := loop_rule (P := Try.prog) (pol := plc) (c := b73_0) (m := ⟨[false, true, false, false, true, true, false, false, false, false, false, false, false, false, false, false, false, false, false, false, true, true, true, false, false, false, false, false, false, false, false, false, false, false, false, true], some 14⟩)
      (b := 14) (tm := fun (s : Nat × List Term) => [.junk, .d (.fn 81 [.dptr [.sl (encB bs) bs.length false none]]), .junk, .junk, .ptr (1, 0) 0 3, .ptr (8, 0) 0 3, .junk, .junk, .junk, .junk, .junk, .junk, .junk, .junk, .junk, .junk, .junk, .junk, .junk, .junk, .d (.sl (encL args) args.length false none), .d (.int .i64 args.length), .d (.int .i64 s.1), .junk, .junk, .junk, .junk, .junk, .junk, .junk, .junk, .junk, .junk, .junk, .junk, .junk])
      (Hf := fun s => turnH v fn args s.2)
      (I := fun s => s.1 ≤ args.length ∧ s.2.length = s.1) (μ := fun s => args.length - s.1) (res := fun s => s.2 ++ putSL bs (args.drop s.1))
      (R := TurnEnd bs v fn args)
      (fun s nx hi => by
        obtain ⟨i, done⟩ := s
        obtain ⟨hi, hd⟩ := hi
        simp only at hi hd ⊢
        rcases Nat.lt_or_ge i args.length with hl | hl
        · obtain ⟨v', fn', args', a⟩ := at_ok hn2 hl
          obtain ⟨r, hr, hw⟩ := ih _ a.mem (okL_mem h.2 _ a.mem) (by have := hlen _ a.mem; omega)
          generalize hu : (Term.mk v' fn' args').putS bs = u at hw
          have hres : putSL bs (args.drop i) = u :: putSL bs (args.drop (i + 1)) := by rw [a.dr]; simp only [putSL, hu]
          simp [Term.enc] at hr
          have happ := fun (H : Hp) (id : Nat) (o2 : Oid) (h1 : H (9, 3) = some (rowT done)) (h2 : H o2 = some (.cells (u.enc.map .d))) => append_rowT (id := id) h1 h2 (by omega)
          obtain ⟨uv, ufn, uargs⟩ := u
          simp only [Term.enc, List.map_cons, List.map_nil] at hw happ
          conv => arg 9; arg 4; unfold b73_0
          cases done with
          | nil =>
            simp [rowA] at happ
            simp [a.lti, a.sz, a.ltm, a.cells, a.le3, plc_raw, a.w, hr, hw, happ, rowA]
            refine .next (i + 1, [.mk uv ufn uargs]) (by omega) (by simp) ?_ ⟨hl, by simp at hd ⊢; omega⟩ (by simp; omega) (by simp only [hres]; simp)
            exact upd4 (by simp)
          | cons y q =>
            simp [rowA] at happ
            simp [a.lti, a.sz, a.ltm, a.cells, a.le3, plc_raw, a.w, hr, hw, happ, rowA]
            refine .next (i + 1, y :: q ++ [.mk uv ufn uargs]) (by omega) (by simp) ?_ ⟨hl, by simp at hd ⊢; omega⟩ (by simp; omega) (by simp only [hres]; simp)
            simp [turnH, rowA]
            exact upd4 (by simp)
        · obtain rfl : i = args.length := Nat.le_antisymm hi hl
          simp [b73_0]
          refine .fin _ _ ?_
          simp only [List.drop_length, putSL, List.append_nil]
          exact .mk) (0, []) ⟨Nat.zero_le _, rfl⟩
    obtain ⟨e, t, hrun, rfl, nx, rfl⟩ := hloop
    simp only [Term.putS, if_neg hv]
    have hpl := putSL_len bs args
    simp at hrun
    generalize putSL bs args = done at hrun hpl
    refine ⟨.agg [.int .i64 0, .str fn, .sl (encL done) done.length false (some (decide (done = [])))], pcl_body code73 ?_, by simp [Term.enc]⟩
    have hmd := fun H l => mapD_encT H 4 l
    cases done with
    | nil =>
      simp [turnH, putB, rowA, rowT] at hrun
      simp [plc_raw, Term.enc, hv, hrun]
      rfl
    | cons y q =>
      simp [turnH, putB, rowA, rowT] at hrun
      have hel : (encL (y :: q)).length = (q.length + 1) * 3 := by simpa using encL_len (y :: q)
      have htk : List.take ((q.length + 1) * 3) (List.map AV.d (encL (y :: q))) = List.map AV.d (encL (y :: q)) := List.take_of_length_le (by simp [hel])
      simp [plc_raw, Term.enc, hv, hrun, hel, htk, hmd]
end Go.Proofs.Ytiafeijkifpfaaa.Am

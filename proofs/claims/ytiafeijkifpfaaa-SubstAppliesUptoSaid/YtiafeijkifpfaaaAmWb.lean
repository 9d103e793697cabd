/-
  Substitutions: what the document's functions make of a term. No condition.
-/
import Derived.Test.YtiafeijkifpfaaaAmW
import Derived.Test.YtiafeijkifpfaaaAmWk
namespace Go.Proofs.Ytiafeijkifpfaaa.Am
open Go Go.Proofs
set_option maxHeartbeats 4000000
set_option linter.unusedSimpArgs false
set_option linter.unusedVariables false

/-! ### What stands for a variable -/
def OfEnd (bs : List Bd) (v : Int) (o : Option Bd) (e : Ex) (t : St) : Prop :=
  match o with
  | some b => e = .ret ∧ t.tm[4]? = some (.ptr (0, 0) 0 3) ∧ t.hp (0, 0) = some (.cells (b.t.enc.map .d))
  | none => AtExit 0 [.d (.sl (encB bs) bs.length false none), .d (.int .i64 v), .junk, .junk, .ptr (0, 0) 0 3, .d (.int .i64 bs.length), .junk, .junk, .junk, .junk, .junk, .junk, .junk, .junk, .junk, .junk, .junk, .junk, .junk, .junk, .junk, .junk, .junk, .junk, .junk, .junk] (upd (upd (fun _ => none) (0, 3) .vnil) (0, 0) (.cells [.d (.int .i64 0), .d (.str (ByteArray.mk #[])), .osl (0, 3) 0 0 1 0])) e t
theorem of_bind_ok (bs : List Bd) (hb : okB bs) (v : Int) : ∃ r, pcl Cp 82 [.sl (encB bs) bs.length false none, .int .i64 v] = some r ∧ wk r = .agg (ofS bs v).enc := by
  have hloop := loop_rule (P := Try.prog) (pol := plc) (c := b82_0) (m := ⟨[true, true, false, false, true, true, false, false, false, false, false, false, false, false, false, false, false, false, false, false, false, false, false, false, true, true], some 2⟩)
    (b := 2) (tm := fun (i : Nat) => [.d (.sl (encB bs) bs.length false none), .d (.int .i64 v), .junk, .junk, .ptr (0, 0) 0 3, .d (.int .i64 i), .junk, .junk, .junk, .junk, .junk, .junk, .junk, .junk, .junk, .junk, .junk, .junk, .junk, .junk, .junk, .junk, .junk, .junk, .junk, .junk])
    (Hf := fun _ => upd (upd (fun x => none) (0, 3) .vnil) (0, 0) (.cells [.d (.int .i64 0), .d (.str (ByteArray.mk #[])), .osl (0, 3) 0 0 1 0]))
    (I := fun i => i ≤ bs.length) (μ := fun i => bs.length - i) (res := fun i => (bs.drop i).find? (fun b => decide (b.v = v)))
    (R := OfEnd bs v)
    (fun i nx hi => by
      rcases Nat.lt_or_ge i bs.length with hl | hl
      · obtain ⟨x, v', fn, args, a⟩ := atB_ok hb.1 (i := i) hl
        conv => arg 9; arg 4; unfold b82_0
        by_cases hx : x = v
        · simp [a.lti, a.sz, a.ltm, a.e0, a.c1, a.e10, a.e11, a.c0, a.c10, a.c11, a.le1, a.le4, a.le3, a.le2, a.le11, plc_raw, a.w, hx]
          exact .fin _ _ (by simp only [a.dr]; simp [List.find?, hx, OfEnd, Term.enc])
        · simp [a.lti, a.sz, a.ltm, a.e0, a.c1, a.e10, a.e11, a.c0, a.c10, a.c11, a.le1, a.le4, a.le3, a.le2, a.le11, plc_raw, a.w, hx]
          exact .next (i + 1) (by omega) (by simp) rfl hl (by omega) (by simp only [a.dr]; simp [List.find?, hx])
      · obtain rfl : i = bs.length := Nat.le_antisymm hi hl
        simp [b82_0]
        exact .fin _ _ (by simp only [List.drop_length, List.find?, OfEnd]; exact .mk)) 0 (Nat.zero_le _)
  obtain ⟨e, t, hrun, hR⟩ := hloop
  simp at hrun hR
  unfold ofS
  cases hq : bs.find? (fun b => decide (b.v = v)) with
  | none =>
    rw [hq] at hR
    obtain ⟨rfl, nx, rfl⟩ := hR
    refine ⟨.agg [.int .i64 v, .str (ByteArray.mk #[]), .sl [] 0 false (some true)], pcl_body code82 ?_, by simp [Term.enc, encL]⟩
    simp [hrun, plc_raw]
  | some b =>
    rw [hq] at hR
    obtain ⟨rfl, h1, h2⟩ := hR
    obtain ⟨x, v', fn, args⟩ := b
    refine ⟨.agg (Term.mk v' fn args).enc, pcl_body code82 ?_, by simp [Term.enc]⟩
    simp [Term.enc] at h2
    simp [hrun, plc_raw, h1, h2, Term.enc]
/-! ### A term with all in their places -/
theorem encL_append : ∀ (a b : List Term), encL (a ++ b) = encL a ++ encL b
  | [], _ => rfl
  | t :: r, b => by simp [encL, encL_append r b]
/-- A row of terms that grows; what leads to it. -/
def rowT (l : List Term) : Am.Obj := if l = [] then .vnil else .grow ((encL l).map .d)
def rowA (o : Oid) (l : List Term) : AV := if l = [] then .osl o 0 0 1 0 else .osl o 0 l.length 3 (l.length * 3)
theorem append_rowT {H : Hp} {id : Nat} {o o2 : Oid} {l : List Term} {x : Term} (h : H o = some (rowT l)) (h2 : H o2 = some (.cells (x.enc.map .d))) (hl : l.length ≤ 1048576) :
    appendO Try.prog H id 30 30 (rowA o l) (.osl o2 0 1 3 3) = some (rowA o (l ++ [x]), upd H o (rowT (l ++ [x]))) := by
  have h3 : l.length * 3 ≤ 68719476736 := by omega
  have hx := x.enc_len
  have ha : ∀ l : List D, allD (l.map .d) = some l := fun l => by
    induction l with
    | nil => rfl
    | cons x r ih => simp [allD, ih]
  obtain ⟨v, fn, args⟩ := x
  simp only [Term.enc, List.map_cons, List.map_nil] at h2
  cases l with
  | nil =>
    simp only [rowT, if_true] at h
    simp [appendO, srcCells, srcRaw, h, h2, rowA, rowT, growO, encL, Term.enc, kill]
  | cons y r =>
    simp [rowT] at h
    have hel := encL_len (y :: r)
    have hel2 : (encL (y :: r)).length = (r.length + 1) * 3 := by simpa using hel
    have hle : ¬ ((r.length + 1) * 3 + 3 ≤ (r.length + 1) * 3) := by omega
    have h4 : (r.length + 1) * 3 ≤ 68719476736 := by simpa using h3
    simp [appendO, srcCells, srcRaw, h, h2, rowA, rowT, growO, Term.enc, kill, hel2, hle, h4, encL_append]
    refine ⟨by omega, ?_⟩
    rw [List.take_of_length_le (by simp [hel2])]
    have : encL (y :: (r ++ [Term.mk v fn args])) = encL (y :: r) ++ [.int .i64 v, .str fn, .sl (encL args) args.length false none] := by
      rw [show y :: (r ++ [Term.mk v fn args]) = (y :: r) ++ [Term.mk v fn args] from rfl, encL_append]
      simp [encL, Term.enc]
    rw [this]
    simp
theorem upd4 {H : Hp} {a b : Oid} {x x' y y' : Am.Obj} (h : a ≠ b) : upd (upd (upd (upd H a x) b y) a x') b y' = upd (upd H a x') b y' := by
  funext p
  simp only [upd]
  by_cases h1 : p = b
  · simp [h1]
  · by_cases h2 : p = a
    · simp [h2, h]
    · simp [h1, h2]
abbrev putB (v : Int) (fn : ByteArray) (args : List Term) : Hp :=
  upd (upd (upd (upd (upd (fun _ => none) (0, 0) (.cells [.d (.int .i64 v), .d (.str fn), .d (.sl (encL args) args.length false none)])) (1, 3) .vnil) (1, 0) (.cells [.d (.int .i64 0), .d (.str (ByteArray.mk #[])), .osl (1, 3) 0 0 1 0])) (8, 3) .vnil) (8, 0) (.cells [.d (.int .i64 0), .d (.str (ByteArray.mk #[])), .osl (8, 3) 0 0 1 0])
abbrev putH (v : Int) (fn : ByteArray) (args done : List Term) : Hp := upd (upd (putB v fn args) (9, 3) (rowT done)) (8, 0) (.cells [.d (.int .i64 0), .d (.str fn), rowA (9, 3) done])
def PutEnd (bs : List Bd) (v : Int) (fn : ByteArray) (args : List Term) (r : List Term) (e : Ex) (t : St) : Prop :=
  AtExit 0 [.d (.sl (encB bs) bs.length false none), .junk, .junk, .ptr (0, 0) 0 3, .ptr (1, 0) 0 3, .ptr (8, 0) 0 3, .d (.int .i64 args.length), .junk, .junk, .junk, .junk, .junk, .junk, .junk, .junk, .junk, .junk, .junk, .junk, .junk, .junk, .junk, .junk, .junk, .junk, .junk, .junk, .junk, .junk, .junk, .junk, .junk, .junk, .junk, .junk, .junk, .junk] (putH v fn args r) e t
theorem put_ok (bs : List Bd) (hb : okB bs) (t : Term) : t.ok → t.size ≤ 1048576 → ∃ r, pcl Cp 62 [.sl (encB bs) bs.length false none, .agg t.enc] = some r ∧ wk r = .agg (t.putS bs).enc := by
  refine Term.ind (p := fun t => t.ok → t.size ≤ 1048576 → ∃ r, pcl Cp 62 [.sl (encB bs) bs.length false none, .agg t.enc] = some r ∧ wk r = .agg (t.putS bs).enc) (fun v fn args ih h hsz => ?_) t
  have hn := h.1
  simp only [Term.size] at hsz
  by_cases hv : fn.toList = []
  · obtain ⟨r, hr, hw⟩ := of_bind_ok bs hb v
    simp only [Term.putS, if_pos hv]
    generalize ofS bs v = u at hw ⊢
    obtain ⟨v', fn', args'⟩ := u
    refine ⟨.agg (Term.mk v' fn' args').enc, pcl_body code62 ?_, by simp [Term.enc]⟩
    simp [Term.enc, plc_raw, hv, hr, hw]
  · have hlen : ∀ x ∈ args, x.size ≤ sizeL args := fun x hx => sizeL_mem hx
    have hall : args.length ≤ sizeL args := by
      clear ih h hn hsz hlen
      induction args with
      | nil => simp
      | cons x r ih => have := x.size_pos; simp only [List.length_cons, sizeL]; omega
    have hloop := loop_rule (P := Try.prog) (pol := plc) (c := b62_0) (m := ⟨[true, false, false, true, true, true, true, false, false, false, false, false, false, false, false, false, false, false, false, false, false, false, false, false, false, false, false, false, false, false, false, false, false, false, false, false, true], some 11⟩)
      (b := 11) (tm := fun (s : Nat × List Term) => [.d (.sl (encB bs) bs.length false none), .junk, .junk, .ptr (0, 0) 0 3, .ptr (1, 0) 0 3, .ptr (8, 0) 0 3, .d (.int .i64 s.1), .junk, .junk, .junk, .junk, .junk, .junk, .junk, .junk, .junk, .junk, .junk, .junk, .junk, .junk, .junk, .junk, .junk, .junk, .junk, .junk, .junk, .junk, .junk, .junk, .junk, .junk, .junk, .junk, .junk, .junk])
      (Hf := fun s => putH v fn args s.2)
      (I := fun s => s.1 ≤ args.length ∧ s.2.length = s.1) (μ := fun s => args.length - s.1) (res := fun s => s.2 ++ putSL bs (args.drop s.1))
      (R := PutEnd bs v fn args)
      (fun s nx hi => by
        obtain ⟨i, done⟩ := s
        obtain ⟨hi, hd⟩ := hi
        simp only at hi hd ⊢
        rcases Nat.lt_or_ge i args.length with hl | hl
        · obtain ⟨v', fn', args', a⟩ := at_ok hn hl
          obtain ⟨r, hr, hw⟩ := ih _ a.mem (okL_mem h.2 _ a.mem) (by have := hlen _ a.mem; omega)
          generalize hu : (Term.mk v' fn' args').putS bs = u at hw
          have hres : putSL bs (args.drop i) = u :: putSL bs (args.drop (i + 1)) := by rw [a.dr]; simp only [putSL, hu]
          simp [Term.enc] at hr
          have happ := fun (H : Hp) (id : Nat) (o2 : Oid) (h1 : H (9, 3) = some (rowT done)) (h2 : H o2 = some (.cells (u.enc.map .d))) => append_rowT (id := id) h1 h2 (by omega)
          obtain ⟨uv, ufn, uargs⟩ := u
          simp only [Term.enc, List.map_cons, List.map_nil] at hw happ
          conv => arg 9; arg 4; unfold b62_0
          have e1 : putH v fn args done = upd (upd (putB v fn args) (9, 3) (rowT done)) (8, 0) (.cells [.d (.int .i64 0), .d (.str fn), rowA (9, 3) done]) := rfl
          cases done with
          | nil =>
            simp [rowA] at happ
            simp [a.lti, a.sz, a.ltm, a.cells, a.le3, plc_raw, a.w, hr, hw, happ, rowA]
            refine .next (i + 1, [.mk uv ufn uargs]) (by omega) (by simp) ?_ ⟨hl, by simp at hd ⊢; omega⟩ (by simp; omega) (by simp only [hres]; simp)
            exact upd4 (by simp)
          | cons y q =>
            simp [rowA] at happ
            simp [a.lti, a.sz, a.ltm, a.cells, a.le3, plc_raw, a.w, hr, hw, happ, rowA]
            refine .next (i + 1, y :: q ++ [.mk uv ufn uargs]) (by omega) (by simp) ?_ ⟨hl, by simp at hd ⊢; omega⟩ (by simp; omega) (by simp only [hres]; simp)
            simp [putH, rowA]
            exact upd4 (by simp)
        · obtain rfl : i = args.length := Nat.le_antisymm hi hl
          simp [b62_0]
          refine .fin _ _ ?_
          simp only [List.drop_length, putSL, List.append_nil]
          exact .mk) (0, []) ⟨Nat.zero_le _, rfl⟩
    obtain ⟨e, t, hrun, rfl, nx, rfl⟩ := hloop
    simp only [Term.putS, if_neg hv]
    have hpl := putSL_len bs args
    simp at hrun
    generalize putSL bs args = done at hrun hpl
    refine ⟨.agg [.int .i64 0, .str fn, .sl (encL done) done.length false (some (decide (done = [])))], pcl_body code62 ?_, by simp [Term.enc]⟩
    have hmd := fun H l => mapD_encT H 4 l
    cases done with
    | nil =>
      simp [putH, putB, rowA, rowT] at hrun
      simp [plc_raw, Term.enc, hv, hrun]
      rfl
    | cons y q =>
      simp [putH, putB, rowA, rowT] at hrun
      have hel : (encL (y :: q)).length = (q.length + 1) * 3 := by simpa using encL_len (y :: q)
      have htk : List.take ((q.length + 1) * 3) (List.map AV.d (encL (y :: q))) = List.map AV.d (encL (y :: q)) := List.take_of_length_le (by simp [hel])
      simp [plc_raw, Term.enc, hv, hrun, hel, htk, hmd]
end Go.Proofs.Ytiafeijkifpfaaa.Am

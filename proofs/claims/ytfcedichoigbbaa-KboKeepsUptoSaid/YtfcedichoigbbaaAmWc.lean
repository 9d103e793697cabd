/-
  Substitutions applied; parts: what the document's functions answer. No condition.
-/
import Derived.Test.YtfcedichoigbbaaAmWb
namespace Go.Proofs.Ytfcedichoigbbaa.Am
open Go Go.Proofs
set_option maxHeartbeats 4000000
set_option linter.unusedSimpArgs false
set_option linter.unusedVariables false

abbrev zeroT : Term := .mk 0 (ByteArray.mk #[]) []
theorem putS_ok (bs : List Bd) (hb : okB bs) (t : Term) : t.ok → (t.putS bs).ok := by
  refine Term.ind (p := fun t => t.ok → (t.putS bs).ok) (fun v fn args ih h => ?_) t
  have hl : ∀ (a : List Term), (∀ x ∈ a, x.ok → (x.putS bs).ok) → okL a → okL (putSL bs a) := by
    intro a
    induction a with
    | nil => intro _ _; trivial
    | cons x r ih2 => intro h1 h2; exact ⟨h1 x (by simp) h2.1, ih2 (fun z hz => h1 z (by simp [hz])) h2.2⟩
  by_cases hv : fn.toList = []
  · simp only [Term.putS, if_pos hv]
    unfold ofS
    cases hf : bs.find? (fun b => decide (b.v = v)) with
    | none => simp [Term.ok, okL]
    | some b => exact hb.2 b (List.mem_of_find?_eq_some hf)
  · simp only [Term.putS, if_neg hv]
    exact ⟨by rw [putSL_len]; exact h.1, hl args ih h.2⟩
/-- A substitution applied: the term, and the error. -/
def applyS (bs : List Bd) (t : Term) : Term × Int :=
  if isB bs = true ∧ t.rightE = 0 then (if (t.putS bs).rightE = 0 then (t.putS bs, 0) else (zeroT, (t.putS bs).rightE)) else (zeroT, 1)
theorem apply_ok (bs : List Bd) (hb : okB bs) (t : Term) (ht : t.ok) (hs : t.size ≤ 1048576) :
    ∃ r, pcl Cp 19 [.sl (encB bs) bs.length false none, .agg t.enc] = some r ∧ wk r = .tup [.agg (applyS bs t).1.enc, .int .i64 (applyS bs t).2] := by
  have h1 := ris_ok bs hb
  have h2 := rright_ok t ht
  obtain ⟨r, h3, h4⟩ := put_ok bs hb t ht hs
  have h5 := rright_ok _ (putS_ok bs hb t ht)
  unfold applyS
  generalize t.putS bs = u at *
  generalize t.rightE = z at *
  generalize u.rightE = y at *
  generalize isB bs = b at *
  obtain ⟨v, fn, args⟩ := t
  obtain ⟨v2, fn2, args2⟩ := u
  simp [Term.enc] at h2 h3 h4 h5 ⊢
  cases b
  · refine ⟨.tup [.agg [.int .i64 0, .str (ByteArray.mk #[]), .sl [] 0 false (some true)], .int .i64 1], pcl_body code19 ?_, by simp [encL, Term.enc]⟩
    simp [plc_raw, h1]
  by_cases hz : z = 0
  · by_cases hy : y = 0
    · refine ⟨.tup [.agg [.int .i64 v2, .str fn2, .sl (encL args2) args2.length false none], .int .i64 0], pcl_body code19 ?_, by simp [hz, hy, Term.enc]⟩
      simp [plc_raw, h1, h2, h3, h4, h5, hz, hy]
    · refine ⟨.tup [.agg [.int .i64 0, .str (ByteArray.mk #[]), .sl [] 0 false (some true)], .int .i64 y], pcl_body code19 ?_, by simp [hz, hy, encL, Term.enc]⟩
      simp [plc_raw, h1, h2, h3, h4, h5, hz, hy]
  · refine ⟨.tup [.agg [.int .i64 0, .str (ByteArray.mk #[]), .sl [] 0 false (some true)], .int .i64 1], pcl_body code19 ?_, by simp [hz, encL, Term.enc]⟩
    simp [plc_raw, h1, h2, hz]
/-- A part: the term, and whether it is one. -/
def atR (t : Term) (p : List Int) : Term × Bool := match t.at p with | some x => (x, true) | none => (zeroT, false)
theorem rat_part_ok : ∀ (p : List Int) (hp : p.length ≤ 9223372036854775807) (t : Term), t.ok → ∃ r, pcl Cp 21 [.agg t.enc, .sl (encI p) p.length false none] = some r ∧ wk r = .tup [.agg (atR t p).1.enc, .bool (atR t p).2]
  | [], hp, t, ht => by
    obtain ⟨v, fn, args⟩ := t
    refine ⟨.tup [.agg [.int .i64 v, .str fn, .sl (encL args) args.length false none], .bool true], pcl_body code21 ?_, by simp [atR, Term.at, Term.enc]⟩
    simp [plc_raw, Term.enc]
  | k :: p, hp, t, ht => by
    obtain ⟨v, fn, args⟩ := t
    have hpl : p.length ≤ 9223372036854775807 := by simp at hp; omega
    have hne : ¬ ((p.length : Int) + 1 = 0) := by omega
    have htk : List.take p.length (List.map (D.int .i64) p) = List.map (D.int .i64) p := List.take_of_length_le (by simp)
    have hwk : wkL (List.map (D.int .i64) p) = List.map (D.int .i64) p := wkL_encI p
    have hn := ht.1
    by_cases hk : k < 0
    · refine ⟨.tup [.agg [.int .i64 0, .str (ByteArray.mk #[]), .sl [] 0 false (some true)], .bool false], pcl_body code21 ?_, by simp [atR, Term.at, Term.enc, hk, encL]⟩
      simp [plc_raw, Term.enc, encI, hk, hne]
    · obtain ⟨i, rfl⟩ : ∃ i : Nat, k = i := ⟨k.toNat, by omega⟩
      by_cases hi : i < args.length
      · obtain ⟨v', fn', args', a⟩ := at_ok hn hi
        obtain ⟨r, h1, h2⟩ := rat_part_ok p hpl (.mk v' fn' args') (okL_mem ht.2 _ a.mem)
        have hat : atR (.mk v fn args) ((i : Int) :: p) = atR (.mk v' fn' args') p := by
          simp only [atR, Term.at]
          rw [if_neg hk]
          simp only [Int.toNat_natCast, List.getElem?_eq_getElem hi, a.get]
        rw [hat]
        have hle : ¬ (args.length : Int) ≤ (i : Int) := by omega
        have hle2 : ¬ args.length ≤ i := by omega
        generalize atR (.mk v' fn' args') p = x at h2 ⊢
        obtain ⟨⟨v2, fn2, args2⟩, b⟩ := x
        simp [Term.enc, encI] at h1 h2
        refine ⟨.tup [.agg (Term.mk v2 fn2 args2).enc, .bool b], pcl_body code21 ?_, by simp [Term.enc]⟩
        simp [plc_raw, Term.enc, encI, hk, hne, hle, hle2, a.lti, a.sz, a.ltm, a.cells, a.le3, h1, h2, htk, hwk]
      · have hle : (args.length : Int) ≤ (i : Int) := by omega
        have hle2 : args.length ≤ i := by omega
        have hat : atR (.mk v fn args) ((i : Int) :: p) = (zeroT, false) := by
          simp only [atR, Term.at]
          rw [if_neg hk]
          simp only [Int.toNat_natCast, List.getElem?_eq_none hle2]
        rw [hat]
        refine ⟨.tup [.agg [.int .i64 0, .str (ByteArray.mk #[]), .sl [] 0 false (some true)], .bool false], pcl_body code21 ?_, by simp [Term.enc, encL]⟩
        simp [plc_raw, Term.enc, encI, hk, hne, hle, hle2]

theorem len_sizeL : ∀ (a : List Term), a.length ≤ sizeL a
  | [] => by simp
  | x :: r => by have h1 := x.size_pos; have h2 := len_sizeL r; simp only [List.length_cons, sizeL]; omega
/-! ### A part replaced -/
abbrev pputB (v : Int) (fn : ByteArray) (args : List Term) (s u : Term) : Hp :=
  upd (upd (upd (upd (upd (upd (upd (upd (fun _ => none) (0, 0) (.cells [.d (.int .i64 v), .d (.str fn), .d (.sl (encL args) args.length false none)])) (1, 0) (.cells (s.enc.map .d))) (2, 3) .vnil) (2, 0) (.cells [.d (.int .i64 0), .d (.str (ByteArray.mk #[])), .osl (2, 3) 0 0 1 0])) (34, 3) .vnil)
    (34, 0) (.cells (u.enc.map .d))) (42, 3) .vnil) (42, 0) (.cells [.d (.int .i64 0), .d (.str (ByteArray.mk #[])), .osl (42, 3) 0 0 1 0])
abbrev pputH (v : Int) (fn : ByteArray) (args : List Term) (s u : Term) (done : List Term) : Hp := upd (upd (pputB v fn args s u) (43, 3) (rowT done)) (42, 0) (.cells [.d (.int .i64 0), .d (.str fn), rowA (43, 3) done])
def PputEnd (i : Nat) (p : List Int) (v : Int) (fn : ByteArray) (args : List Term) (s u : Term) (r : List Term) (e : Ex) (t : St) : Prop :=
  AtExit 0 [.junk, .d (.sl (.int .i64 i :: List.map (D.int .i64) p) (p.length + 1) false none), .junk, .ptr (0, 0) 0 3, .junk, .junk, .ptr (2, 0) 0 3, .d (.bool false), .ptr (34, 0) 0 3, .junk, .ptr (42, 0) 0 3, .d (.int .i64 args.length), .junk, .junk, .junk, .junk, .junk, .junk, .junk, .junk, .junk, .junk, .junk, .junk, .junk, .junk, .junk, .junk, .junk, .junk, .junk, .junk, .junk, .junk, .junk, .junk, .junk, .junk, .junk, .junk, .junk, .junk, .junk, .junk, .junk, .junk, .junk, .junk, .junk, .junk, .junk, .junk, .junk, .junk, .junk, .junk, .junk, .junk, .junk, .junk, .junk, .junk, .junk, .junk, .junk, .junk, .junk, .junk, .junk, .junk, .junk, .junk, .junk, .junk, .junk, .junk, .junk, .junk, .junk] (pputH v fn args s u r) e t
theorem pput_loop (i : Nat) (p : List Int) (v : Int) (fn : ByteArray) (args : List Term) (s u : Term) (hn : args.length ≤ 1048576) (hi : i < args.length) :
    ∃ e t, aloop Try.prog plc b24_0 ⟨[false, true, false, true, false, false, true, true, true, false, true, true, false, false, false, false, false, false, false, false, false, false, false, false, false, false, false, false, false, false, false, false, false, false, false, false, false, false, false, false, false, false, false, false, false, false, false, false, false, false, false, false, false, false, false, false, false, false, false, false, false, false, false, false, false, false, false, false, false, false, false, false, false, false, false, false, false, false, true], some 45⟩ ⟨[.junk, .d (.sl (.int .i64 i :: List.map (D.int .i64) p) (p.length + 1) false none), .junk, .ptr (0, 0) 0 3, .junk, .junk, .ptr (2, 0) 0 3, .d (.bool false), .ptr (34, 0) 0 3, .junk, .ptr (42, 0) 0 3, .d (.int .i64 0), .junk, .junk, .junk, .junk, .junk, .junk, .junk, .junk, .junk, .junk, .junk, .junk, .junk, .junk, .junk, .junk, .junk, .junk, .junk, .junk, .junk, .junk, .junk, .junk, .junk, .junk, .junk, .junk, .junk, .junk, .junk, .junk, .junk, .junk, .junk, .junk, .junk, .junk, .junk, .junk, .junk, .junk, .junk, .junk, .junk, .junk, .junk, .junk, .junk, .junk, .junk, .junk, .junk, .junk, .junk, .junk, .junk, .junk, .junk, .junk, .junk, .junk, .junk, .junk, .junk, .junk, .junk],
      pputH v fn args s u [], 45⟩ = some (e, t) ∧ PputEnd i p v fn args s u (args.set i u) e t := by
  have hloop := loop_rule (P := Try.prog) (pol := plc) (c := b24_0) (m := ⟨[false, true, false, true, false, false, true, true, true, false, true, true, false, false, false, false, false, false, false, false, false, false, false, false, false, false, false, false, false, false, false, false, false, false, false, false, false, false, false, false, false, false, false, false, false, false, false, false, false, false, false, false, false, false, false, false, false, false, false, false, false, false, false, false, false, false, false, false, false, false, false, false, false, false, false, false, false, false, true], some 45⟩)
    (b := 45) (tm := fun (x : Nat × List Term) => [.junk, .d (.sl (.int .i64 i :: List.map (D.int .i64) p) (p.length + 1) false none), .junk, .ptr (0, 0) 0 3, .junk, .junk, .ptr (2, 0) 0 3, .d (.bool false), .ptr (34, 0) 0 3, .junk, .ptr (42, 0) 0 3, .d (.int .i64 x.1), .junk, .junk, .junk, .junk, .junk, .junk, .junk, .junk, .junk, .junk, .junk, .junk, .junk, .junk, .junk, .junk, .junk, .junk, .junk, .junk, .junk, .junk, .junk, .junk, .junk, .junk, .junk, .junk, .junk, .junk, .junk, .junk, .junk, .junk, .junk, .junk, .junk, .junk, .junk, .junk, .junk, .junk, .junk, .junk, .junk, .junk, .junk, .junk, .junk, .junk, .junk, .junk, .junk, .junk, .junk, .junk, .junk, .junk, .junk, .junk, .junk, .junk, .junk, .junk, .junk, .junk, .junk])
    (Hf := fun x => pputH v fn args s u x.2)
    (I := fun x => x.1 ≤ args.length ∧ x.2.length = x.1) (μ := fun x => args.length - x.1) (res := fun x => x.2 ++ (args.set i u).drop x.1)
    (R := PputEnd i p v fn args s u)
    (fun x nx hI => by
      obtain ⟨j, done⟩ := x
      obtain ⟨hj, hd⟩ := hI
      simp only at hj hd ⊢
      obtain ⟨uv, ufn, uargs⟩ := u
      obtain ⟨sv, sfn, sargs⟩ := s
      rcases Nat.lt_or_ge j args.length with hl | hl
      · obtain ⟨v', fn', args', a⟩ := at_ok (ts := args) (by omega) hl
        have hdr : (args.set i (.mk uv ufn uargs)).drop j = (args.set i (.mk uv ufn uargs))[j]'(by simpa using hl) :: (args.set i (.mk uv ufn uargs)).drop (j + 1) := List.drop_eq_getElem_cons (by simpa using hl)
        rw [List.getElem_set] at hdr
        have h0 : (0 : Int) < (p.length : Int) + 1 := by omega
        by_cases hji : j = i
        · subst hji
          simp only [if_true] at hdr
          have happ := fun (H : Hp) (id : Nat) (o2 : Oid) (h1 : H (43, 3) = some (rowT done)) (h2 : H o2 = some (.cells ((Term.mk uv ufn uargs).enc.map .d))) => append_rowT (id := id) h1 h2 (by omega)
          simp only [Term.enc, List.map_cons, List.map_nil] at happ
          conv => arg 9; arg 4; unfold b24_0
          cases done with
          | nil =>
            simp [rowA] at happ
            simp [a.lti, a.sz, a.ltm, a.cells, a.le3, plc_raw, a.w, happ, rowA, Term.enc, h0]
            refine .next (j + 1, [.mk uv ufn uargs]) (by omega) (by simp) ?_ ⟨hl, by simp at hd ⊢; omega⟩ (by simp; omega) (by simp only [hdr]; simp)
            simp [Term.enc]
            exact upd4 (by simp)
          | cons y q =>
            simp [rowA] at happ
            simp [a.lti, a.sz, a.ltm, a.cells, a.le3, plc_raw, a.w, happ, rowA, Term.enc, h0]
            refine .next (j + 1, y :: q ++ [.mk uv ufn uargs]) (by omega) (by simp) ?_ ⟨hl, by simp at hd ⊢; omega⟩ (by simp; omega) (by simp only [hdr]; simp)
            simp [pputH, rowA, Term.enc]
            exact upd4 (by simp)
        · have hij : ¬ i = j := fun e => hji e.symm
          have hji2 : ¬ (j : Int) = (i : Int) := by omega
          simp only [hij, if_false, a.get] at hdr
          have happ := fun (H : Hp) (id : Nat) (o2 : Oid) (h1 : H (43, 3) = some (rowT done)) (h2 : H o2 = some (.cells ((Term.mk v' fn' args').enc.map .d))) => append_rowT (id := id) h1 h2 (by omega)
          simp only [Term.enc, List.map_cons, List.map_nil] at happ
          conv => arg 9; arg 4; unfold b24_0
          cases done with
          | nil =>
            simp [rowA] at happ
            simp [a.lti, a.sz, a.ltm, a.cells, a.le3, plc_raw, a.w, happ, rowA, Term.enc, h0, hji, hji2]
            refine .next (j + 1, [.mk v' fn' args']) (by omega) (by simp) ?_ ⟨hl, by simp at hd ⊢; omega⟩ (by simp; omega) (by simp only [hdr]; simp)
            simp [Term.enc]
            exact upd4 (by simp)
          | cons y q =>
            simp [rowA] at happ
            simp [a.lti, a.sz, a.ltm, a.cells, a.le3, plc_raw, a.w, happ, rowA, Term.enc, h0, hji, hji2]
            refine .next (j + 1, y :: q ++ [.mk v' fn' args']) (by omega) (by simp) ?_ ⟨hl, by simp at hd ⊢; omega⟩ (by simp; omega) (by simp only [hdr]; simp)
            simp [pputH, rowA, Term.enc]
            exact upd4 (by simp)
      · obtain rfl : j = args.length := Nat.le_antisymm hj hl
        simp [b24_0]
        refine .fin _ _ ?_
        have : (args.set i (.mk uv ufn uargs)).drop args.length = [] := List.drop_of_length_le (by simp)
        simp only [this, List.append_nil]
        exact .mk) (0, []) ⟨Nat.zero_le _, rfl⟩
  simpa using hloop
/-- A term with another one for a part: the term, and whether it is one. -/
def putR (t : Term) (p : List Int) (s : Term) : Term × Bool := match t.putAt p s with | some x => (x, true) | none => (zeroT, false)
theorem rput_part_ok (s : Term) (hs : s.ok) : ∀ (p : List Int) (hp : p.length ≤ 9223372036854775807) (t : Term), t.ok → t.size ≤ 1048576 → ∃ r, pcl Cp 24 [.agg t.enc, .sl (encI p) p.length false none, .agg s.enc] = some r ∧ wk r = .tup [.agg (putR t p s).1.enc, .bool (putR t p s).2]
  | [], hp, t, ht, hsz => by
    obtain ⟨v, fn, args⟩ := t
    obtain ⟨v2, fn2, args2⟩ := s
    refine ⟨.tup [.agg [.int .i64 v2, .str fn2, .sl (encL args2) args2.length false none], .bool true], pcl_body code24 ?_, by simp [putR, Term.putAt, Term.enc]⟩
    simp [plc_raw, Term.enc]
  | k :: p, hp, t, ht, hsz => by
    obtain ⟨v, fn, args⟩ := t
    have hpl : p.length ≤ 9223372036854775807 := by simp at hp; omega
    have hne : ¬ ((p.length : Int) + 1 = 0) := by omega
    have htk : List.take p.length (List.map (D.int .i64) p) = List.map (D.int .i64) p := List.take_of_length_le (by simp)
    have hwk : wkL (List.map (D.int .i64) p) = List.map (D.int .i64) p := wkL_encI p
    have hn := ht.1
    simp only [Term.size] at hsz
    by_cases hk : k < 0
    · obtain ⟨sv, sfn, sargs⟩ := s
      refine ⟨.tup [.agg [.int .i64 0, .str (ByteArray.mk #[]), .sl [] 0 false (some true)], .bool false], pcl_body code24 ?_, by simp [putR, Term.putAt, Term.enc, hk, encL]⟩
      simp [plc_raw, Term.enc, encI, hk, hne]
    · obtain ⟨i, rfl⟩ : ∃ i : Nat, k = i := ⟨k.toNat, by omega⟩
      by_cases hi : i < args.length
      · obtain ⟨v', fn', args', a⟩ := at_ok hn hi
        obtain ⟨r, h1, h2⟩ := rput_part_ok s hs p hpl (.mk v' fn' args') (okL_mem ht.2 _ a.mem) (by have := sizeL_mem a.mem; omega)
        have hle : ¬ (args.length : Int) ≤ (i : Int) := by omega
        have hle2 : ¬ args.length ≤ i := by omega
        cases hq : (Term.mk v' fn' args').putAt p s with
        | none =>
          have hat : putR (.mk v fn args) ((i : Int) :: p) s = (zeroT, false) := by
            simp only [putR, Term.putAt]
            rw [if_neg hk]
            simp only [Int.toNat_natCast, List.getElem?_eq_getElem hi, a.get, hq, Option.map_none]
          rw [hat]
          simp only [putR, hq] at h2
          obtain ⟨sv, sfn, sargs⟩ := s
          simp [Term.enc, encI] at h1 h2
          refine ⟨.tup [.agg [.int .i64 0, .str (ByteArray.mk #[]), .sl [] 0 false (some true)], .bool false], pcl_body code24 ?_, by simp [Term.enc, encL]⟩
          simp [plc_raw, Term.enc, encI, hk, hne, hle, hle2, a.lti, a.sz, a.ltm, a.cells, a.le3, h1, h2, htk, hwk]
        | some u =>
          have hat : putR (.mk v fn args) ((i : Int) :: p) s = (.mk 0 fn (args.set i u), true) := by
            simp only [putR, Term.putAt]
            rw [if_neg hk]
            simp only [Int.toNat_natCast, List.getElem?_eq_getElem hi, a.get, hq, Option.map_some]
          rw [hat]
          simp only [putR, hq] at h2
          obtain ⟨sv, sfn, sargs⟩ := s
          obtain ⟨uv, ufn, uargs⟩ := u
          simp [Term.enc, encI] at h1 h2
          obtain ⟨e, t, hrun, rfl, nx, rfl⟩ := pput_loop i p v fn args (.mk sv sfn sargs) (.mk uv ufn uargs) (by have := len_sizeL args; omega) hi
          refine ⟨.tup [.agg [.int .i64 0, .str fn, .sl (encL (args.set i (.mk uv ufn uargs))) (args.set i (.mk uv ufn uargs)).length false (some false)], .bool true], pcl_body code24 ?_, by simp [Term.enc]⟩
          have hpl : (args.set i (.mk uv ufn uargs)).length = args.length := by simp
          have hmd := fun H l => mapD_encT H 3 l
          generalize args.set i (.mk uv ufn uargs) = done at hrun hpl ⊢
          cases done with
          | nil => simp at hpl; omega
          | cons y q =>
            have hel : (encL (y :: q)).length = (q.length + 1) * 3 := by simpa using encL_len (y :: q)
            have htk2 : List.take ((q.length + 1) * 3) (List.map AV.d (encL (y :: q))) = List.map AV.d (encL (y :: q)) := List.take_of_length_le (by simp [hel])
            simp [pputH, pputB, rowA, rowT, Term.enc] at hrun
            simp [plc_raw, Term.enc, encI, hk, hne, hle, hle2, a.lti, a.sz, a.ltm, a.cells, a.le3, h1, h2, htk, hwk, hrun, hel, htk2, hmd]
      · have hle : (args.length : Int) ≤ (i : Int) := by omega
        have hle2 : args.length ≤ i := by omega
        have hat : putR (.mk v fn args) ((i : Int) :: p) s = (zeroT, false) := by
          simp only [putR, Term.putAt]
          rw [if_neg hk]
          simp only [Int.toNat_natCast, List.getElem?_eq_none hle2]
        rw [hat]
        obtain ⟨sv, sfn, sargs⟩ := s
        refine ⟨.tup [.agg [.int .i64 0, .str (ByteArray.mk #[]), .sl [] 0 false (some true)], .bool false], pcl_body code24 ?_, by simp [Term.enc, encL]⟩
        simp [plc_raw, Term.enc, encI, hk, hne, hle, hle2]
end Go.Proofs.Ytfcedichoigbbaa.Am

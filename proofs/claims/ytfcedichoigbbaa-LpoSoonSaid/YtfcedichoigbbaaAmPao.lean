/-
  Joined texts: AmLu, AmKr, AmWc, AmWd, AmSm, AmKt, AmKs, AmLv, AmLd. No condition.
-/
import Derived.Test.YtfcedichoigbbaaAmPan
/-
  The program's path order: it is the order. No condition.
-/
namespace Go.Proofs.Ytfcedichoigbbaa.Am
open Go Go.Proofs
set_option maxHeartbeats 4000000
set_option maxRecDepth 20000
set_option linter.unusedSimpArgs false
set_option linter.unusedVariables false
theorem lay_ok_mem (t : Term) : t.ok → ∀ s : Laid, (∀ x ∈ s.1, x.ok) → ∀ x ∈ (t.lay s).1.1, x.ok := by
  refine Term.ind (p := fun t => t.ok → ∀ s : Laid, (∀ x ∈ s.1, x.ok) → ∀ x ∈ (t.lay s).1.1, x.ok) (fun v fn args ih h s hs => ?_) t
  have hl : ∀ (a : List Term), (∀ x ∈ a, x ∈ args) → ∀ (s : Laid) own, (∀ x ∈ s.1, x.ok) → ∀ x ∈ (layL a s own).1.1, x.ok := by
    intro a
    induction a with
    | nil => intro _ s own hs; simpa [layL] using hs
    | cons y r ih2 =>
      intro hm s own hs
      simp only [layL]
      exact ih2 (fun z hz => hm z (by simp [hz])) _ _ (ih y (hm y (by simp)) (okL_mem h.2 _ (hm y (by simp))) s hs)
  intro x hx
  simp only [Term.lay, List.mem_append, List.mem_singleton] at hx
  rcases hx with hx | rfl
  · exact hl args (fun _ h => h) s [] hs x hx
  · exact h
theorem pgreater_ok (g : Sg) (hg : g.ok) (t : Term) (ht : t.ok) (hts : t.size ≤ 1048576) (u : Term) (hu : u.ok) (hus : u.size ≤ 1048576) :
    pcl Cp 36 [.agg g.enc, .agg t.enc, .agg u.enc] = some (.bool (lpoB g t u)) := by
  obtain ⟨s, hsd⟩ : ∃ s, s = (t.lay ([], [])).1 := ⟨_, rfl⟩
  obtain ⟨r, hrd⟩ : ∃ r, r = (u.lay ([], [])).1 := ⟨_, rfl⟩
  obtain ⟨hs, _, n, hn, hsn⟩ := lay_lok t ([], []) lok_nil
  obtain ⟨hr, _, m, hm, hrm⟩ := lay_lok u ([], []) lok_nil
  have hsl := lay_size t ([], [])
  have hrl := lay_size u ([], [])
  have ho1 := lay_ok_mem t ht ([], []) (by simp)
  have ho2 := lay_ok_mem u hu ([], []) (by simp)
  have L1 := laid_ok t ht ([], []) none rfl (by simpa using hts)
  have L2 := laid_ok u hu ([], []) none rfl (by simpa using hus)
  obtain ⟨v, fn, args⟩ := t
  obtain ⟨v2, fn2, args2⟩ := u
  unfold DoesP at L1 L2
  rw [← hsd] at hs hsn hsl ho1 L1
  rw [← hrd] at hr hrm hrl ho2 L2
  rw [hn] at L1
  rw [hm] at L2
  obtain ⟨Ha, hHa⟩ : ∃ Ha : Hp, Ha = upd (upd (upd (fun _ => none) (0, 0) (.cells [.d (.sl (encS g.names) g.names.length false none), .d (.sl (encI g.weights) g.weights.length false none)])) (1, 0) (.cells [.d (.int .i64 v), .d (.str fn), .d (.sl (encL args) args.length false none)])) (2, 0) (.cells [.d (.int .i64 v2), .d (.str fn2), .d (.sl (encL args2) args2.length false none)]) := ⟨_, rfl⟩
  obtain ⟨⟨H1, N1, o1⟩, c1, n1, r1, l1, _, g1, f1⟩ := L1 Ha 12 (by simp) rfl
  simp only at c1 n1 r1 l1 g1 f1
  have g1 := g1 trivial
  obtain ⟨Hb, hHb⟩ : ∃ Hb : Hp, Hb = upd (upd H1 (9, 1) .vnil) (9, 0) (.cells [.osl o1 0 s.1.length 4 (s.1.length * 4)]) := ⟨_, rfl⟩
  obtain ⟨⟨H2, N2, o2⟩, c2, n2, r2, l2, _, g2, f2⟩ := L2 Hb (N1 + 8) (by simp) rfl
  simp only at c2 n2 r2 l2 g2 f2
  have g2 := g2 trivial
  have q1 : H1 (1, 0) = some (.cells [.d (.int .i64 v), .d (.str fn), .d (.sl (encL args) args.length false none)]) := by rw [f1 _ (by simp) (by simp), hHa]; simp
  have q2 : H1 (2, 0) = some (.cells [.d (.int .i64 v2), .d (.str fn2), .d (.sl (encL args2) args2.length false none)]) := by rw [f1 _ (by simp) (by simp), hHa]; simp
  have q0 : H1 (0, 0) = some (.cells [.d (.sl (encS g.names) g.names.length false none), .d (.sl (encI g.weights) g.weights.length false none)]) := by rw [f1 _ (by simp) (by simp), hHa]; simp
  simp [rowV, Term.enc] at c1 c2
  obtain ⟨Hc, hHc⟩ : ∃ Hc : Hp, Hc = upd (upd (upd (upd (upd (upd (upd H2 (N1 + 5, 1) .vnil) (N1 + 5, 0) (.cells [.osl o2 0 r.1.length 4 (r.1.length * 4)])) (N2, 0) (.mp (true, [.int .i64, .int .i64]) [] 0)) (N2 + 1, 0) (.cells [.map (N2, 0)])) (N2 + 3, 0) (.cells [.d .nilfn]))
    (N2 + 5, 0) (.cells [.fn 56 [.ptr (9, 0) 0 1, .ptr (N1 + 5, 0) 0 1, .ptr (N2 + 3, 0) 0 1, .ptr (0, 0) 0 2]])) (N2 + 3, 0) (.cells [.fn 61 [.ptr (N2 + 1, 0) 0 1, .ptr (N2 + 5, 0) 0 1]]) := ⟨_, rfl⟩
  have hne1 : s.1 ≠ [] := r1.1
  have hne2 : r.1 ≠ [] := r2.1
  have hb : ∀ p : Oid, p.1 < N1 + 8 → H2 p = Hb p := fun p hp => f2 p hp (by simp)
  have hc5 : ∀ p : Oid, p ≠ (N1 + 5, 0) → p ≠ (N1 + 5, 1) → p.1 < N2 → Hc p = H2 p := fun p a c d => by
    rw [hHc, upd_old (by omega), upd_old (by omega), upd_old (by omega), upd_old (by omega), upd_old (by omega), upd_ne a, upd_ne c]
  have hb9 : ∀ p : Oid, p.1 ≠ 9 → Hb p = H1 p := fun p a => by
    rw [hHb, upd_ne (fun e => a (by rw [e])), upd_ne (fun e => a (by rw [e]))]
  let E : LE := ⟨g, s, r, (9, 0), (N1 + 5, 0), (N2 + 1, 0), (N2 + 3, 0), (N2 + 5, 0), (0, 0), o1, o2, (N2, 0)⟩
  have hE : E.Ne := ⟨fun e => by have := congrArg Prod.fst e; simp only [E] at this; omega, fun e => by have := congrArg Prod.fst e; simp only [E] at this; omega, fun e => by have := congrArg Prod.fst e; simp only [E] at this; omega, fun e => by have := congrArg Prod.fst e; simp only [E] at this; omega, fun e => by have := congrArg Prod.fst e; simp only [E] at this; omega, fun e => by have := congrArg Prod.fst e; simp only [E] at this; omega, fun e => by have := congrArg Prod.fst e; simp only [E] at this; omega, fun e => by have := congrArg Prod.fst e; simp only [E] at this; omega⟩
  have hlt : E.Lt (N2 + 14) := ⟨by simp only [E]; omega, by simp only [E]; omega, by simp only [E]; omega, by simp only [E]; omega, by simp only [E]; omega, by simp only [E]; omega, by simp only [E]; omega, by simp only [E]; omega, by simp only [E]; omega⟩
  have nlt : ∀ {p q : Oid}, p.1 ≠ q.1 → p ≠ q := fun h e => h (by rw [e])
  have hin : E.In Hc := by
    refine ⟨?_, ?_, ?_, ?_, ?_, ?_, ?_, ?_⟩
    · simp only [E]
      rw [hc5 _ (nlt (by simp only; omega)) (nlt (by simp only; omega)) (by simp only; omega), hb _ (by simp only; omega), hHb]; simp
    · simp only [E]
      rw [hc5 _ (nlt (by simp only; omega)) (nlt (by simp only; omega)) (by omega), hb _ (by omega), hb9 _ (by omega)]; exact r1.2
    · simp only [E]
      rw [hHc, upd_old (by simp only; omega), upd_old (by simp only; omega), upd_old (by simp only; omega), upd_old (by simp only; omega), upd_old (by simp only; omega)]; simp
    · simp only [E]
      rw [hc5 _ (nlt (by simp only; omega)) (nlt (by simp only; omega)) (by omega)]; exact r2.2
    · simp only [E]; rw [hHc]; simp
    · simp only [E]; rw [hHc]; simp
    · simp only [E]; rw [hHc]; simp
    · simp only [E]
      rw [hc5 _ (nlt (by simp only; omega)) (nlt (by simp only; omega)) (by simp only; omega), hb _ (by simp only; omega), hb9 _ (by simp)]; exact q0
  have hM : Hc E.oM = some (mkM []) := by simp only [E]; rw [hHc]; simp [mkM, encMp]
  have hnl := (List.getElem?_eq_some_iff.1 hsn).1
  have hml := (List.getElem?_eq_some_iff.1 hrm).1
  simp only [List.length_nil, Nat.zero_add] at hsl hrl
  obtain ⟨⟨H3, N3⟩, c3, _, _, _⟩ := ask_all E hg hs hr (by simp only [E]; omega) (by simp only [E]; omega) hE ho1 ho2 (n + m + 1) n m (by omega) hnl hml Hc (N2 + 14) [] hlt hin hM (fun a c h => .inl rfl)
  rw [lp_at (E := E) hsn hrm] at c3
  simp only [E, LE.askC] at c3
  rw [hHc] at c3
  rw [hHb] at c2
  refine pcl_body code36 ?_
  rw [hHa] at c1
  simp [plc_raw, Nat.add_assoc, Term.enc, Sg.enc, c1, q1, q2, c2, c3]
end Go.Proofs.Ytfcedichoigbbaa.Am

/-
  The document's exported functions of the order of Knuth and Bendix, and the chapter's examples. No condition.
-/
namespace Go.Proofs.Ytfcedichoigbbaa.Am
open Go Go.Proofs
set_option maxHeartbeats 4000000
set_option linter.unusedSimpArgs false
set_option linter.unusedVariables false

theorem rWeight_ok (g : Sg) (hg : g.ok) (t : Term) (ht : t.ok) (hs : t.size ≤ 1048576) : pcl Cp 30 [.agg g.enc, .agg t.enc] = some (.int .i64 (if t.rightE = 0 then t.wt g else 0)) := by
  have h2 := rright_ok t ht
  have h1 := rweight_ok g hg t ht hs
  refine pcl_body code30 ?_
  generalize t.rightE = z at *
  generalize t.wt g = W at *
  obtain ⟨v, fn, args⟩ := t
  simp [Term.enc, Sg.enc] at h1 h2 ⊢
  by_cases hz : z = 0
  · simp [plc_raw, h1, h2, hz]
  · simp [plc_raw, h1, h2, hz]
theorem rCompare_ok (g : Sg) (hg : g.ok) (t : Term) (ht : t.ok) (hts : t.size ≤ 1048576) (u : Term) (hu : u.ok) (hus : u.size ≤ 1048576) : pcl Cp 28 [.agg g.enc, .agg t.enc, .agg u.enc] = some (.int .i64 (g.rCmp t u)) := by
  have h1 := grright_ok g hg
  have h2 := rright_ok t ht
  have h3 := rright_ok u hu
  have h4 := rsame_ok t ht u hu
  have h5 := rgreater_ok g hg t ht hts u hu hus
  have h6 := rgreater_ok g hg u hu hus t ht hts
  refine pcl_body code28 ?_
  unfold Sg.rCmp
  generalize t.rightE = z at *
  generalize u.rightE = z2 at *
  generalize t.sameB u = b at *
  generalize t.rgt g u = r1 at *
  generalize u.rgt g t = r2 at *
  generalize g.right = gr at *
  obtain ⟨v, fn, args⟩ := t
  obtain ⟨v2, fn2, args2⟩ := u
  simp [Term.enc, Sg.enc] at h1 h2 h3 h4 h5 h6 ⊢
  cases gr
  · simp [plc_raw, h1]
  by_cases hz : z = 0
  · by_cases hz2 : z2 = 0
    · cases b
      · cases r1
        · cases r2 <;> simp [plc_raw, h1, h2, h3, h4, h5, h6, hz, hz2]
        · simp [plc_raw, h1, h2, h3, h4, h5, h6, hz, hz2]
      · simp [plc_raw, h1, h2, h3, h4, h5, h6, hz, hz2]
    · simp [plc_raw, h1, h2, h3, hz, hz2]
  · simp [plc_raw, h1, h2, h3, hz]
end Go.Proofs.Ytfcedichoigbbaa.Am

/-
  Substitutions applied: what the document's functions answer. No condition.
-/
namespace Go.Proofs.Ytfcedichoigbbaa.Am
open Go Go.Proofs
set_option maxHeartbeats 4000000
set_option linter.unusedSimpArgs false
set_option linter.unusedVariables false

abbrev zeroT : Term := .mk 0 (ByteArray.mk #[]) []
theorem putS_ok (bs : List Bd) (hb : okB bs) (t : Term) : t.ok → (t.putS bs).ok := by
  refine Term.ind (p := fun t => t.ok → (t.putS bs).ok) (fun v fn args ih h => ?_) t
  have hl : ∀ (a : List Term), (∀ x ∈ a, x.ok → (x.putS bs).ok) → okL a → okL (putSL bs a) := by
    intro a
    induction a with
    | nil => intro _ _; trivial
    | cons x r ih2 => intro h1 h2; exact ⟨h1 x (by simp) h2.1, ih2 (fun z hz => h1 z (by simp [hz])) h2.2⟩
  by_cases hv : fn.toList = []
  · simp only [Term.putS, if_pos hv]
    unfold ofS
    cases hf : bs.find? (fun b => decide (b.v = v)) with
    | none => simp [Term.ok, okL]
    | some b => exact hb.2 b (List.mem_of_find?_eq_some hf)
  · simp only [Term.putS, if_neg hv]
    exact ⟨by rw [putSL_len]; exact h.1, hl args ih h.2⟩
/-- A substitution applied: the term, and the error. -/
def applyS (bs : List Bd) (t : Term) : Term × Int :=
  if isB bs = true ∧ t.rightE = 0 then (if (t.putS bs).rightE = 0 then (t.putS bs, 0) else (zeroT, (t.putS bs).rightE)) else (zeroT, 1)
theorem apply_ok (bs : List Bd) (hb : okB bs) (t : Term) (ht : t.ok) (hs : t.size ≤ 1048576) :
    ∃ r, pcl Cp 19 [.sl (encB bs) bs.length false none, .agg t.enc] = some r ∧ wk r = .tup [.agg (applyS bs t).1.enc, .int .i64 (applyS bs t).2] := by
  have h1 := ris_ok bs hb
  have h2 := rright_ok t ht
  obtain ⟨r, h3, h4⟩ := put_ok bs hb t ht hs
  have h5 := rright_ok _ (putS_ok bs hb t ht)
  unfold applyS
  generalize t.putS bs = u at *
  generalize t.rightE = z at *
  generalize u.rightE = y at *
  generalize isB bs = b at *
  obtain ⟨v, fn, args⟩ := t
  obtain ⟨v2, fn2, args2⟩ := u
  simp [Term.enc] at h2 h3 h4 h5 ⊢
  cases b
  · refine ⟨.tup [.agg [.int .i64 0, .str (ByteArray.mk #[]), .sl [] 0 false (some true)], .int .i64 1], pcl_body code19 ?_, by simp [encL, Term.enc]⟩
    simp [plc_raw, h1]
  by_cases hz : z = 0
  · by_cases hy : y = 0
    · refine ⟨.tup [.agg [.int .i64 v2, .str fn2, .sl (encL args2) args2.length false none], .int .i64 0], pcl_body code19 ?_, by simp [hz, hy, Term.enc]⟩
      simp [plc_raw, h1, h2, h3, h4, h5, hz, hy]
    · refine ⟨.tup [.agg [.int .i64 0, .str (ByteArray.mk #[]), .sl [] 0 false (some true)], .int .i64 y], pcl_body code19 ?_, by simp [hz, hy, encL, Term.enc]⟩
      simp [plc_raw, h1, h2, h3, h4, h5, hz, hy]
  · refine ⟨.tup [.agg [.int .i64 0, .str (ByteArray.mk #[]), .sl [] 0 false (some true)], .int .i64 1], pcl_body code19 ?_, by simp [hz, encL, Term.enc]⟩
    simp [plc_raw, h1, h2, hz]
end Go.Proofs.Ytfcedichoigbbaa.Am

/-
  Parts: what the document's functions answer. No condition.
-/
namespace Go.Proofs.Ytfcedichoigbbaa.Am
open Go Go.Proofs
set_option maxHeartbeats 4000000
set_option linter.unusedSimpArgs false
set_option linter.unusedVariables false

/-- A part: the term, and whether it is one. -/
def atR (t : Term) (p : List Int) : Term × Bool := match t.at p with | some x => (x, true) | none => (zeroT, false)
theorem rat_part_ok : ∀ (p : List Int) (hp : p.length ≤ 9223372036854775807) (t : Term), t.ok → ∃ r, pcl Cp 21 [.agg t.enc, .sl (encI p) p.length false none] = some r ∧ wk r = .tup [.agg (atR t p).1.enc, .bool (atR t p).2]
  | [], hp, t, ht => by
    obtain ⟨v, fn, args⟩ := t
    refine ⟨.tup [.agg [.int .i64 v, .str fn, .sl (encL args) args.length false none], .bool true], pcl_body code21 ?_, by simp [atR, Term.at, Term.enc]⟩
    simp [plc_raw, Term.enc]
  | k :: p, hp, t, ht => by
    obtain ⟨v, fn, args⟩ := t
    have hpl : p.length ≤ 9223372036854775807 := by simp at hp; omega
    have hne : ¬ ((p.length : Int) + 1 = 0) := by omega
    have htk : List.take p.length (List.map (D.int .i64) p) = List.map (D.int .i64) p := List.take_of_length_le (by simp)
    have hwk : wkL (List.map (D.int .i64) p) = List.map (D.int .i64) p := wkL_encI p
    have hn := ht.1
    by_cases hk : k < 0
    · refine ⟨.tup [.agg [.int .i64 0, .str (ByteArray.mk #[]), .sl [] 0 false (some true)], .bool false], pcl_body code21 ?_, by simp [atR, Term.at, Term.enc, hk, encL]⟩
      simp [plc_raw, Term.enc, encI, hk, hne]
    · obtain ⟨i, rfl⟩ : ∃ i : Nat, k = i := ⟨k.toNat, by omega⟩
      by_cases hi : i < args.length
      · obtain ⟨v', fn', args', a⟩ := at_ok hn hi
        obtain ⟨r, h1, h2⟩ := rat_part_ok p hpl (.mk v' fn' args') (okL_mem ht.2 _ a.mem)
        have hat : atR (.mk v fn args) ((i : Int) :: p) = atR (.mk v' fn' args') p := by
          simp only [atR, Term.at]
          rw [if_neg hk]
          simp only [Int.toNat_natCast, List.getElem?_eq_getElem hi, a.get]
        rw [hat]
        have hle : ¬ (args.length : Int) ≤ (i : Int) := by omega
        have hle2 : ¬ args.length ≤ i := by omega
        generalize atR (.mk v' fn' args') p = x at h2 ⊢
        obtain ⟨⟨v2, fn2, args2⟩, b⟩ := x
        simp [Term.enc, encI] at h1 h2
        refine ⟨.tup [.agg (Term.mk v2 fn2 args2).enc, .bool b], pcl_body code21 ?_, by simp [Term.enc]⟩
        simp [plc_raw, Term.enc, encI, hk, hne, hle, hle2, a.lti, a.sz, a.ltm, a.cells, a.le3, h1, h2, htk, hwk]
      · have hle : (args.length : Int) ≤ (i : Int) := by omega
        have hle2 : args.length ≤ i := by omega
        have hat : atR (.mk v fn args) ((i : Int) :: p) = (zeroT, false) := by
          simp only [atR, Term.at]
          rw [if_neg hk]
          simp only [Int.toNat_natCast, List.getElem?_eq_none hle2]
        rw [hat]
        refine ⟨.tup [.agg [.int .i64 0, .str (ByteArray.mk #[]), .sl [] 0 false (some true)], .bool false], pcl_body code21 ?_, by simp [Term.enc, encL]⟩
        simp [plc_raw, Term.enc, encI, hk, hne, hle, hle2]

theorem len_sizeL : ∀ (a : List Term), a.length ≤ sizeL a
  | [] => by simp
  | x :: r => by have h1 := x.size_pos; have h2 := len_sizeL r; simp only [List.length_cons, sizeL]; omega
/-! ### A part replaced -/
abbrev pputB (v : Int) (fn : ByteArray) (args : List Term) (s u : Term) : Hp :=
  upd (upd (upd (upd (upd (upd (upd (upd (fun _ => none) (0, 0) (.cells [.d (.int .i64 v), .d (.str fn), .d (.sl (encL args) args.length false none)])) (1, 0) (.cells (s.enc.map .d))) (2, 3) .vnil) (2, 0) (.cells [.d (.int .i64 0), .d (.str (ByteArray.mk #[])), .osl (2, 3) 0 0 1 0])) (34, 3) .vnil)
    (34, 0) (.cells (u.enc.map .d))) (42, 3) .vnil) (42, 0) (.cells [.d (.int .i64 0), .d (.str (ByteArray.mk #[])), .osl (42, 3) 0 0 1 0])
abbrev pputH (v : Int) (fn : ByteArray) (args : List Term) (s u : Term) (done : List Term) : Hp := upd (upd (pputB v fn args s u) (43, 3) (rowT done)) (42, 0) (.cells [.d (.int .i64 0), .d (.str fn), rowA (43, 3) done])
def PputEnd (i : Nat) (p : List Int) (v : Int) (fn : ByteArray) (args : List Term) (s u : Term) (r : List Term) (e : Ex) (t : St) : Prop :=
  AtExit 0 [.junk, .d (.sl (.int .i64 i :: List.map (D.int .i64) p) (p.length + 1) false none), .junk, .ptr (0, 0) 0 3, .junk, .junk, .ptr (2, 0) 0 3, .d (.bool false), .ptr (34, 0) 0 3, .junk, .ptr (42, 0) 0 3, .d (.int .i64 args.length), .junk, .junk, .junk, .junk, .junk, .junk, .junk, .junk, .junk, .junk, .junk, .junk, .junk, .junk, .junk, .junk, .junk, .junk, .junk, .junk, .junk, .junk, .junk, .junk, .junk, .junk, .junk, .junk, .junk, .junk, .junk, .junk, .junk, .junk, .junk, .junk, .junk, .junk, .junk, .junk, .junk, .junk, .junk, .junk, .junk, .junk, .junk, .junk, .junk, .junk, .junk, .junk, .junk, .junk, .junk, .junk, .junk, .junk, .junk, .junk, .junk, .junk, .junk, .junk, .junk, .junk, .junk] (pputH v fn args s u r) e t
theorem pput_loop (i : Nat) (p : List Int) (v : Int) (fn : ByteArray) (args : List Term) (s u : Term) (hn : args.length ≤ 1048576) (hi : i < args.length) :
    ∃ e t, aloop Try.prog plc b24_0 ⟨[false, true, false, true, false, false, true, true, true, false, true, true, false, false, false, false, false, false, false, false, false, false, false, false, false, false, false, false, false, false, false, false, false, false, false, false, false, false, false, false, false, false, false, false, false, false, false, false, false, false, false, false, false, false, false, false, false, false, false, false, false, false, false, false, false, false, false, false, false, false, false, false, false, false, false, false, false, false, true], some 45⟩ ⟨[.junk, .d (.sl (.int .i64 i :: List.map (D.int .i64) p) (p.length + 1) false none), .junk, .ptr (0, 0) 0 3, .junk, .junk, .ptr (2, 0) 0 3, .d (.bool false), .ptr (34, 0) 0 3, .junk, .ptr (42, 0) 0 3, .d (.int .i64 0), .junk, .junk, .junk, .junk, .junk, .junk, .junk, .junk, .junk, .junk, .junk, .junk, .junk, .junk, .junk, .junk, .junk, .junk, .junk, .junk, .junk, .junk, .junk, .junk, .junk, .junk, .junk, .junk, .junk, .junk, .junk, .junk, .junk, .junk, .junk, .junk, .junk, .junk, .junk, .junk, .junk, .junk, .junk, .junk, .junk, .junk, .junk, .junk, .junk, .junk, .junk, .junk, .junk, .junk, .junk, .junk, .junk, .junk, .junk, .junk, .junk, .junk, .junk, .junk, .junk, .junk, .junk],
      pputH v fn args s u [], 45⟩ = some (e, t) ∧ PputEnd i p v fn args s u (args.set i u) e t := by
  have hloop := loop_rule (P := Try.prog) (pol := plc) (c := b24_0) (m := ⟨[false, true, false, true, false, false, true, true, true, false, true, true, false, false, false, false, false, false, false, false, false, false, false, false, false, false, false, false, false, false, false, false, false, false, false, false, false, false, false, false, false, false, false, false, false, false, false, false, false, false, false, false, false, false, false, false, false, false, false, false, false, false, false, false, false, false, false, false, false, false, false, false, false, false, false, false, false, false, true], some 45⟩)
    (b := 45) (tm := fun (x : Nat × List Term) => [.junk, .d (.sl (.int .i64 i :: List.map (D.int .i64) p) (p.length + 1) false none), .junk, .ptr (0, 0) 0 3, .junk, .junk, .ptr (2, 0) 0 3, .d (.bool false), .ptr (34, 0) 0 3, .junk, .ptr (42, 0) 0 3, .d (.int .i64 x.1), .junk, .junk, .junk, .junk, .junk, .junk, .junk, .junk, .junk, .junk, .junk, .junk, .junk, .junk, .junk, .junk, .junk, .junk, .junk, .junk, .junk, .junk, .junk, .junk, .junk, .junk, .junk, .junk, .junk, .junk, .junk, .junk, .junk, .junk, .junk, .junk, .junk, .junk, .junk, .junk, .junk, .junk, .junk, .junk, .junk, .junk, .junk, .junk, .junk, .junk, .junk, .junk, .junk, .junk, .junk, .junk, .junk, .junk, .junk, .junk, .junk, .junk, .junk, .junk, .junk, .junk, .junk])
    (Hf := fun x => pputH v fn args s u x.2)
    (I := fun x => x.1 ≤ args.length ∧ x.2.length = x.1) (μ := fun x => args.length - x.1) (res := fun x => x.2 ++ (args.set i u).drop x.1)
    (R := PputEnd i p v fn args s u)
    (fun x nx hI => by
      obtain ⟨j, done⟩ := x
      obtain ⟨hj, hd⟩ := hI
      simp only at hj hd ⊢
      obtain ⟨uv, ufn, uargs⟩ := u
      obtain ⟨sv, sfn, sargs⟩ := s
      rcases Nat.lt_or_ge j args.length with hl | hl
      · obtain ⟨v', fn', args', a⟩ := at_ok (ts := args) (by omega) hl
        have hdr : (args.set i (.mk uv ufn uargs)).drop j = (args.set i (.mk uv ufn uargs))[j]'(by simpa using hl) :: (args.set i (.mk uv ufn uargs)).drop (j + 1) := List.drop_eq_getElem_cons (by simpa using hl)
        rw [List.getElem_set] at hdr
        have h0 : (0 : Int) < (p.length : Int) + 1 := by omega
        by_cases hji : j = i
        · subst hji
          simp only [if_true] at hdr
          have happ := fun (H : Hp) (id : Nat) (o2 : Oid) (h1 : H (43, 3) = some (rowT done)) (h2 : H o2 = some (.cells ((Term.mk uv ufn uargs).enc.map .d))) => append_rowT (id := id) h1 h2 (by omega)
          simp only [Term.enc, List.map_cons, List.map_nil] at happ
          conv => arg 9; arg 4; unfold b24_0
          cases done with
          | nil =>
            simp [rowA] at happ
            simp [a.lti, a.sz, a.ltm, a.cells, a.le3, plc_raw, a.w, happ, rowA, Term.enc, h0]
            refine .next (j + 1, [.mk uv ufn uargs]) (by omega) (by simp) ?_ ⟨hl, by simp at hd ⊢; omega⟩ (by simp; omega) (by simp only [hdr]; simp)
            simp [Term.enc]
            exact upd4 (by simp)
          | cons y q =>
            simp [rowA] at happ
            simp [a.lti, a.sz, a.ltm, a.cells, a.le3, plc_raw, a.w, happ, rowA, Term.enc, h0]
            refine .next (j + 1, y :: q ++ [.mk uv ufn uargs]) (by omega) (by simp) ?_ ⟨hl, by simp at hd ⊢; omega⟩ (by simp; omega) (by simp only [hdr]; simp)
            simp [pputH, rowA, Term.enc]
            exact upd4 (by simp)
        · have hij : ¬ i = j := fun e => hji e.symm
          have hji2 : ¬ (j : Int) = (i : Int) := by omega
          simp only [hij, if_false, a.get] at hdr
          have happ := fun (H : Hp) (id : Nat) (o2 : Oid) (h1 : H (43, 3) = some (rowT done)) (h2 : H o2 = some (.cells ((Term.mk v' fn' args').enc.map .d))) => append_rowT (id := id) h1 h2 (by omega)
          simp only [Term.enc, List.map_cons, List.map_nil] at happ
          conv => arg 9; arg 4; unfold b24_0
          cases done with
          | nil =>
            simp [rowA] at happ
            simp [a.lti, a.sz, a.ltm, a.cells, a.le3, plc_raw, a.w, happ, rowA, Term.enc, h0, hji, hji2]
            refine .next (j + 1, [.mk v' fn' args']) (by omega) (by simp) ?_ ⟨hl, by simp at hd ⊢; omega⟩ (by simp; omega) (by simp only [hdr]; simp)
            simp [Term.enc]
            exact upd4 (by simp)
          | cons y q =>
            simp [rowA] at happ
            simp [a.lti, a.sz, a.ltm, a.cells, a.le3, plc_raw, a.w, happ, rowA, Term.enc, h0, hji, hji2]
            refine .next (j + 1, y :: q ++ [.mk v' fn' args']) (by omega) (by simp) ?_ ⟨hl, by simp at hd ⊢; omega⟩ (by simp; omega) (by simp only [hdr]; simp)
            simp [pputH, rowA, Term.enc]
            exact upd4 (by simp)
      · obtain rfl : j = args.length := Nat.le_antisymm hj hl
        simp [b24_0]
        refine .fin _ _ ?_
        have : (args.set i (.mk uv ufn uargs)).drop args.length = [] := List.drop_of_length_le (by simp)
        simp only [this, List.append_nil]
        exact .mk) (0, []) ⟨Nat.zero_le _, rfl⟩
  simpa using hloop
/-- A term with another one for a part: the term, and whether it is one. -/
def putR (t : Term) (p : List Int) (s : Term) : Term × Bool := match t.putAt p s with | some x => (x, true) | none => (zeroT, false)
theorem rput_part_ok (s : Term) (hs : s.ok) : ∀ (p : List Int) (hp : p.length ≤ 9223372036854775807) (t : Term), t.ok → t.size ≤ 1048576 → ∃ r, pcl Cp 24 [.agg t.enc, .sl (encI p) p.length false none, .agg s.enc] = some r ∧ wk r = .tup [.agg (putR t p s).1.enc, .bool (putR t p s).2]
  | [], hp, t, ht, hsz => by
    obtain ⟨v, fn, args⟩ := t
    obtain ⟨v2, fn2, args2⟩ := s
    refine ⟨.tup [.agg [.int .i64 v2, .str fn2, .sl (encL args2) args2.length false none], .bool true], pcl_body code24 ?_, by simp [putR, Term.putAt, Term.enc]⟩
    simp [plc_raw, Term.enc]
  | k :: p, hp, t, ht, hsz => by
    obtain ⟨v, fn, args⟩ := t
    have hpl : p.length ≤ 9223372036854775807 := by simp at hp; omega
    have hne : ¬ ((p.length : Int) + 1 = 0) := by omega
    have htk : List.take p.length (List.map (D.int .i64) p) = List.map (D.int .i64) p := List.take_of_length_le (by simp)
    have hwk : wkL (List.map (D.int .i64) p) = List.map (D.int .i64) p := wkL_encI p
    have hn := ht.1
    simp only [Term.size] at hsz
    by_cases hk : k < 0
    · obtain ⟨sv, sfn, sargs⟩ := s
      refine ⟨.tup [.agg [.int .i64 0, .str (ByteArray.mk #[]), .sl [] 0 false (some true)], .bool false], pcl_body code24 ?_, by simp [putR, Term.putAt, Term.enc, hk, encL]⟩
      simp [plc_raw, Term.enc, encI, hk, hne]
    · obtain ⟨i, rfl⟩ : ∃ i : Nat, k = i := ⟨k.toNat, by omega⟩
      by_cases hi : i < args.length
      · obtain ⟨v', fn', args', a⟩ := at_ok hn hi
        obtain ⟨r, h1, h2⟩ := rput_part_ok s hs p hpl (.mk v' fn' args') (okL_mem ht.2 _ a.mem) (by have := sizeL_mem a.mem; omega)
        have hle : ¬ (args.length : Int) ≤ (i : Int) := by omega
        have hle2 : ¬ args.length ≤ i := by omega
        cases hq : (Term.mk v' fn' args').putAt p s with
        | none =>
          have hat : putR (.mk v fn args) ((i : Int) :: p) s = (zeroT, false) := by
            simp only [putR, Term.putAt]
            rw [if_neg hk]
            simp only [Int.toNat_natCast, List.getElem?_eq_getElem hi, a.get, hq, Option.map_none]
          rw [hat]
          simp only [putR, hq] at h2
          obtain ⟨sv, sfn, sargs⟩ := s
          simp [Term.enc, encI] at h1 h2
          refine ⟨.tup [.agg [.int .i64 0, .str (ByteArray.mk #[]), .sl [] 0 false (some true)], .bool false], pcl_body code24 ?_, by simp [Term.enc, encL]⟩
          simp [plc_raw, Term.enc, encI, hk, hne, hle, hle2, a.lti, a.sz, a.ltm, a.cells, a.le3, h1, h2, htk, hwk]
        | some u =>
          have hat : putR (.mk v fn args) ((i : Int) :: p) s = (.mk 0 fn (args.set i u), true) := by
            simp only [putR, Term.putAt]
            rw [if_neg hk]
            simp only [Int.toNat_natCast, List.getElem?_eq_getElem hi, a.get, hq, Option.map_some]
          rw [hat]
          simp only [putR, hq] at h2
          obtain ⟨sv, sfn, sargs⟩ := s
          obtain ⟨uv, ufn, uargs⟩ := u
          simp [Term.enc, encI] at h1 h2
          obtain ⟨e, t, hrun, rfl, nx, rfl⟩ := pput_loop i p v fn args (.mk sv sfn sargs) (.mk uv ufn uargs) (by have := len_sizeL args; omega) hi
          refine ⟨.tup [.agg [.int .i64 0, .str fn, .sl (encL (args.set i (.mk uv ufn uargs))) (args.set i (.mk uv ufn uargs)).length false (some false)], .bool true], pcl_body code24 ?_, by simp [Term.enc]⟩
          have hpl : (args.set i (.mk uv ufn uargs)).length = args.length := by simp
          have hmd := fun H l => mapD_encT H 3 l
          generalize args.set i (.mk uv ufn uargs) = done at hrun hpl ⊢
          cases done with
          | nil => simp at hpl; omega
          | cons y q =>
            have hel : (encL (y :: q)).length = (q.length + 1) * 3 := by simpa using encL_len (y :: q)
            have htk2 : List.take ((q.length + 1) * 3) (List.map AV.d (encL (y :: q))) = List.map AV.d (encL (y :: q)) := List.take_of_length_le (by simp [hel])
            simp [pputH, pputB, rowA, rowT, Term.enc] at hrun
            simp [plc_raw, Term.enc, encI, hk, hne, hle, hle2, a.lti, a.sz, a.ltm, a.cells, a.le3, h1, h2, htk, hwk, hrun, hel, htk2, hmd]
      · have hle : (args.length : Int) ≤ (i : Int) := by omega
        have hle2 : args.length ≤ i := by omega
        have hat : putR (.mk v fn args) ((i : Int) :: p) s = (zeroT, false) := by
          simp only [putR, Term.putAt]
          rw [if_neg hk]
          simp only [Int.toNat_natCast, List.getElem?_eq_none hle2]
        rw [hat]
        obtain ⟨sv, sfn, sargs⟩ := s
        refine ⟨.tup [.agg [.int .i64 0, .str (ByteArray.mk #[]), .sl [] 0 false (some true)], .bool false], pcl_body code24 ?_, by simp [Term.enc, encL]⟩
        simp [plc_raw, Term.enc, encI, hk, hne, hle, hle2]
end Go.Proofs.Ytfcedichoigbbaa.Am

/-
  May terms be compared often? No condition.
-/
namespace Go.Proofs.Ytfcedichoigbbaa.Am
open Go Go.Proofs
set_option maxHeartbeats 4000000
set_option linter.unusedSimpArgs false
set_option linter.unusedVariables false

/-! ### May terms be compared often? -/
def smallB (ts : List Term) : Bool := ts.all fun t => decide (t.sizeW ≤ 100)
theorem small_ok (ts : List Term) (hn : ts.length ≤ 9223372036854775807) (hok : okL ts) : pcl Cp 13 [.sl (encL ts) ts.length false none] = some (.bool (smallB ts)) := by
  have hloop := loop_rule (P := Try.prog) (pol := plc) (c := b13_0) (m := ⟨[true, false, true, true, false, false, false, false, false, false, false, false, false, false, false, false], some 2⟩)
    (b := 2) (tm := fun (i : Nat) => [.d (.sl (encL ts) ts.length false none), .junk, .d (.bool false), .d (.int .i64 i), .junk, .junk, .junk, .junk, .junk, .junk, .junk, .junk, .junk, .junk, .junk, .junk]) (Hf := fun _ => fun _ => none)
    (I := fun i => i ≤ ts.length) (μ := fun i => ts.length - i) (res := fun i => smallB (ts.drop i))
    (R := fun r e t => if r then AtExit 0 [.d (.sl (encL ts) ts.length false none), .junk, .d (.bool false), .d (.int .i64 ts.length), .junk, .junk, .junk, .junk, .junk, .junk, .junk, .junk, .junk, .junk, .junk, .junk] (fun _ => none) e t else AtRet 2 (.d (.bool false)) e t)
    (fun i nx hi => by
      rcases Nat.lt_or_ge i ts.length with hl | hl
      · obtain ⟨v, fn, args, a⟩ := at_ok hn hl
        have hc := rsize_ok _ (okL_mem hok _ a.mem)
        have hres : smallB (ts.drop i) = (decide ((Term.mk v fn args).sizeW ≤ 100) && smallB (ts.drop (i + 1))) := by rw [a.dr]; rfl
        generalize (Term.mk v fn args).sizeW = z at hc hres
        simp [Term.enc] at hc
        conv => arg 9; arg 4; unfold b13_0
        by_cases hz : z ≤ 100
        · have hz2 : ¬ (100 : Int) < z := by omega
          simp [a.lti, a.sz, a.ltm, a.cells, a.le3, plc_raw, a.w, hc, hz2]
          exact .next (i + 1) (by omega) (by simp) rfl hl (by omega) (by simp only [hres]; simp [hz])
        · have hz2 : (100 : Int) < z := by omega
          simp [a.lti, a.sz, a.ltm, a.cells, a.le3, plc_raw, a.w, hc, hz2]
          exact .fin _ _ (by simp only [hres]; simp [hz, AtRet])
      · obtain rfl : i = ts.length := Nat.le_antisymm hi hl
        simp [b13_0]
        exact .fin _ _ (by simp only [List.drop_length, smallB, List.all_nil, if_true]; exact .mk)) 0 (Nat.zero_le _)
  obtain ⟨e, t, hrun, hR⟩ := hloop
  refine pcl_body code13 ?_
  simp at hrun hR
  cases hq : smallB ts
  · simp only [hq] at hR
    obtain ⟨rfl, hv⟩ := hR
    simp [hrun, hv]
  · simp only [hq] at hR
    obtain ⟨rfl, nx, rfl⟩ := hR
    simp [hrun]
end Go.Proofs.Ytfcedichoigbbaa.Am

/-
  The order of Knuth and Bendix: substitutions, parts, replaced parts, terms without variables. No condition.
-/
namespace Go.Proofs.Ytfcedichoigbbaa.Am
open Go Go.Proofs
set_option linter.unusedSimpArgs false
set_option linter.unusedVariables false

/-! ### Sizes and depths that do not wrap -/
/-! ### Substitutions -/
theorem sum_mono (c : Int → Nat) : ∀ (l2 l1 : List Int), (∀ x, l2.count x ≤ l1.count x) → (l2.map c).sum ≤ (l1.map c).sum
  | [], _, _ => by simp
  | x :: r, l1, h => by
    have hx : x ∈ l1 := List.count_pos_iff.1 (by have := h x; simp at this; omega)
    have hp := (List.perm_cons_erase hx).map c
    rw [hp.sum_nat]
    have := sum_mono c r (l1.erase x) (fun y => by
      have := h y
      rw [List.count_erase]
      rw [List.count_cons] at this
      split at this <;> rename_i hb
      · simp at hb; subst hb; simp; omega
      · simp at hb
        have hb2 : (x == y) = false := by simpa using hb
        simp [hb2]; omega)
    simp only [List.map_cons, List.sum_cons]; omega
theorem putS_wt (g : Sg) (s : List Bd) (t : Term) : t.shapeB = true → (t.putS s).wt g = t.wt g + ((t.occ.map fun x => ((ofS s x).wt g - 1).toNat).sum : Nat) := by
  refine Term.ind (p := fun t => t.shapeB = true → (t.putS s).wt g = t.wt g + ((t.occ.map fun x => ((ofS s x).wt g - 1).toNat).sum : Nat)) (fun v fn args ih h => ?_) t
  have hl : ∀ (a : List Term), (∀ x ∈ a, x.shapeB = true → (x.putS s).wt g = x.wt g + ((x.occ.map fun y => ((ofS s y).wt g - 1).toNat).sum : Nat)) → shapeBL a = true → wtL g (putSL s a) = wtL g a + (((occL a).map fun y => ((ofS s y).wt g - 1).toNat).sum : Nat) := by
    intro a
    induction a with
    | nil => intro _ _; simp [wtL, putSL, occL]
    | cons x r ih2 =>
      intro h hs
      simp only [shapeBL, Bool.and_eq_true] at hs
      have h1 := h x (by simp) hs.1
      have h2 := ih2 (fun z hz => h z (by simp [hz])) hs.2
      simp only [wtL, putSL, occL, List.map_append, List.sum_append, h1, h2]; omega
  by_cases hv : fn.toList = []
  · have := shape_var h hv; subst this
    have h1 := wt_range g (ofS s v)
    have h2 := Term.size_pos (ofS s v)
    have h3 : g.of fn = 1 := by simp [Sg.of, hv]
    simp only [Term.putS, if_pos hv, Term.wt, wtL, Term.occ, occL, List.append_nil, List.map_cons, List.map_nil, List.sum_cons, List.sum_nil, h3]
    omega
  · have h1 := hl args ih (by simp only [Term.shapeB, Bool.and_eq_true] at h; exact h.2)
    simp only [Term.putS, if_neg hv, Term.wt, Term.occ, List.nil_append, h1]; omega
theorem putS_occ (s : List Bd) (y : Int) (t : Term) : t.shapeB = true → (t.putS s).occ.count y = (t.occ.map fun x => (ofS s x).occ.count y).sum := by
  refine Term.ind (p := fun t => t.shapeB = true → (t.putS s).occ.count y = (t.occ.map fun x => (ofS s x).occ.count y).sum) (fun v fn args ih h => ?_) t
  have hl : ∀ (a : List Term), (∀ x ∈ a, x.shapeB = true → (x.putS s).occ.count y = (x.occ.map fun z => (ofS s z).occ.count y).sum) → shapeBL a = true → (occL (putSL s a)).count y = ((occL a).map fun z => (ofS s z).occ.count y).sum := by
    intro a
    induction a with
    | nil => intro _ _; simp [putSL, occL]
    | cons x r ih2 =>
      intro h hs
      simp only [shapeBL, Bool.and_eq_true] at hs
      have h1 := h x (by simp) hs.1
      have h2 := ih2 (fun z hz => h z (by simp [hz])) hs.2
      simp only [putSL, occL, List.map_append, List.sum_append, List.count_append, h1, h2]
  by_cases hv : fn.toList = []
  · have := shape_var h hv; subst this
    simp [Term.putS, hv, Term.occ, occL]
  · have h1 := hl args ih (by simp only [Term.shapeB, Bool.and_eq_true] at h; exact h.2)
    simp only [Term.putS, if_neg hv, Term.occ, List.nil_append, h1]
/-- The order holds behind any substitution. -/
theorem kgt_putS (g : Sg) (s : List Bd) (t : Term) : ∀ u, t.shapeB = true → u.shapeB = true → kgt g t u → kgt g (t.putS s) (u.putS s) := by
  refine Term.ind (p := fun t => ∀ u, t.shapeB = true → u.shapeB = true → kgt g t u → kgt g (t.putS s) (u.putS s)) (fun v fn args ih u ht hu h => ?_) t
  have hl : ∀ (a b : List Term), (∀ x ∈ a, ∀ u, x.shapeB = true → u.shapeB = true → kgt g x u → kgt g (x.putS s) (u.putS s)) → shapeBL a = true → shapeBL b = true → kgtL g a b → kgtL g (putSL s a) (putSL s b) := by
    intro a
    induction a with
    | nil => intro b _ _ _ h; simp [kgtL] at h
    | cons x r ih2 =>
      intro b h ha hb hk
      cases b with
      | nil => simp [kgtL] at hk
      | cons y q =>
        simp only [shapeBL, Bool.and_eq_true] at ha hb
        simp only [kgtL, putSL] at hk ⊢
        rcases hk with ⟨rfl, hk⟩ | ⟨hn, hk⟩
        · exact .inl ⟨rfl, ih2 q (fun z hz => h z (by simp [hz])) ha.2 hb.2 hk⟩
        · have := h x (by simp) y ha.1 hb.1 hk
          exact .inr ⟨fun e => kgt_irrefl g _ (by rw [e] at this; exact this), this⟩
  have hw1 := putS_wt g s _ ht
  have hw2 := putS_wt g s _ hu
  have hc : ∀ y, (u.putS s).occ.count y ≤ ((Term.mk v fn args).putS s).occ.count y := fun y => by
    rw [putS_occ s y _ ht, putS_occ s y _ hu]
    obtain ⟨v2, f2, a2⟩ := u
    simp only [kgt] at h
    exact sum_mono _ _ _ h.1
  have hsum : (u.occ.map fun x => ((ofS s x).wt g - 1).toNat).sum ≤ ((Term.mk v fn args).occ.map fun x => ((ofS s x).wt g - 1).toNat).sum := by
    obtain ⟨v2, f2, a2⟩ := u
    simp only [kgt] at h
    exact sum_mono _ _ _ h.1
  have key : ∀ t' u' : Term, (∀ x, u'.occ.count x ≤ t'.occ.count x) → u'.wt g < t'.wt g → kgt g t' u' := fun t' u' h1 h2 => by
    cases t'; cases u'; simp only [kgt]; exact ⟨h1, .inl h2⟩
  obtain ⟨v2, f2, a2⟩ := u
  simp only [kgt] at h
  rcases h.2 with h2 | ⟨hw, n1, n2, h2⟩
  · exact key _ _ hc (by omega)
  · by_cases hlt : ((Term.mk v2 f2 a2).putS s).wt g < ((Term.mk v fn args).putS s).wt g
    · exact key _ _ hc hlt
    · have heq : ((Term.mk v fn args).putS s).wt g = ((Term.mk v2 f2 a2).putS s).wt g := by omega
      simp only [Term.putS, if_neg n1, if_neg n2] at hc heq ⊢
      simp only [kgt]
      refine ⟨hc, .inr ⟨heq, n1, n2, ?_⟩⟩
      rcases h2 with h2 | ⟨hf, h2⟩
      · exact .inl h2
      · refine .inr ⟨hf, ?_⟩
        simp only [putSL_len]
        rcases h2 with h2 | ⟨hlen, h2⟩
        · exact .inl h2
        · simp only [Term.shapeB, Bool.and_eq_true] at ht hu
          exact .inr ⟨hlen, hl args a2 ih ht.2 hu.2 h2⟩
/-! ### Parts -/
theorem wtL_mem (g : Sg) : ∀ {a : List Term} {x : Term}, x ∈ a → x.wt g ≤ wtL g a
  | t :: r, x, h => by
    have h1 := wtL_range g r
    have h2 := wt_range g t
    rcases List.mem_cons.1 h with rfl | h
    · simp only [wtL]; omega
    · have := wtL_mem g h; simp only [wtL]; omega
theorem occL_mem (y : Int) : ∀ {a : List Term} {x : Term}, x ∈ a → x.occ.count y ≤ (occL a).count y
  | t :: r, x, h => by
    rcases List.mem_cons.1 h with rfl | h
    · simp only [occL, List.count_append]; omega
    · have := occL_mem y h; simp only [occL, List.count_append]; omega
theorem at_gt (g : Sg) : ∀ (p : List Int) (t x : Term), t.at p = some x → p ≠ [] → kgt g t x
  | [], _, _, _, h => absurd rfl h
  | k :: p, .mk v fn args, x, h, _ => by
    simp only [Term.at] at h
    split at h
    · cases h
    · cases hg : args[k.toNat]? with
      | none => rw [hg] at h; cases h
      | some y =>
        rw [hg] at h
        have hm := List.mem_of_getElem? hg
        have h1 := wtL_mem g hm
        have h2 := of_range g fn
        have hy : kgt g (.mk v fn args) y := by
          obtain ⟨v2, f2, a2⟩ := y
          simp only [kgt]
          refine ⟨fun z => ?_, .inl ?_⟩
          · have := occL_mem z hm
            simp only [Term.occ, List.count_append] at this ⊢; omega
          · simp only [Term.wt] at h1 ⊢; omega
        by_cases hp : p = []
        · subst hp
          have : y = x := by cases y; simpa [Term.at] using h
          subst this; exact hy
        · exact kgt_trans g _ _ _ hy (at_gt g p y x h hp)
theorem set_gt (g : Sg) : ∀ (a : List Term) (i : Nat) (x y : Term), a[i]? = some x → kgt g x y → (∀ z, (occL (a.set i y)).count z ≤ (occL a).count z) ∧ wtL g (a.set i y) ≤ wtL g a ∧ (wtL g (a.set i y) = wtL g a → x.wt g = y.wt g) ∧ kgtL g a (a.set i y)
  | [], i, x, y, h, _ => by simp at h
  | t :: r, 0, x, y, h, k => by
    simp at h; subst h
    have hk : (∀ z, y.occ.count z ≤ t.occ.count z) ∧ y.wt g ≤ t.wt g := by
      obtain ⟨v1, f1, a1⟩ := t
      obtain ⟨v2, f2, a2⟩ := y
      simp only [kgt] at k
      exact ⟨k.1, by rcases k.2 with h | h <;> omega⟩
    refine ⟨fun z => ?_, ?_, fun h => ?_, ?_⟩
    · have := hk.1 z; simp only [List.set_cons_zero, occL, List.count_append]; omega
    · simp only [List.set_cons_zero, wtL]; omega
    · simp only [List.set_cons_zero, wtL] at h; omega
    · simp only [List.set_cons_zero, kgtL]
      exact .inr ⟨fun e => kgt_irrefl g _ (by rw [← e] at k; exact k), k⟩
  | t :: r, i + 1, x, y, h, k => by
    have := set_gt g r i x y (by simpa using h) k
    refine ⟨fun z => ?_, ?_, fun h => ?_, ?_⟩
    · have := this.1 z; simp only [List.set_cons_succ, occL, List.count_append]; omega
    · have := this.2.1; simp only [List.set_cons_succ, wtL]; omega
    · simp only [List.set_cons_succ, wtL] at h; exact this.2.2.1 (by omega)
    · simp only [List.set_cons_succ, kgtL]
      exact .inl ⟨trivial, this.2.2.2⟩
/-- A term becomes smaller with a part. -/
theorem putAt_gt (g : Sg) (s : Term) : ∀ (p : List Int) (t x u : Term), t.at p = some x → t.putAt p s = some u → t.shapeB = true → kgt g x s → kgt g t u
  | [], t, x, u, h, hu, _, k => by
    have h1 : t = x := by cases t; simpa [Term.at] using h
    have h2 : s = u := by cases t; simpa [Term.putAt] using hu
    subst h1; subst h2; exact k
  | i :: p, .mk v fn args, x, u, h, hu, hs, k => by
    simp only [Term.at] at h
    simp only [Term.putAt] at hu
    split at h
    · cases h
    · rename_i hi
      rw [if_neg hi] at hu
      cases hg : args[i.toNat]? with
      | none => rw [hg] at h; cases h
      | some y =>
        rw [hg] at h hu
        simp only [Option.map_eq_some_iff] at hu
        obtain ⟨w, hw, rfl⟩ := hu
        have hm := List.mem_of_getElem? hg
        have hfn : fn.toList ≠ [] := fun e => by
          have := shape_var hs e; subst this; simp at hg
        have hs2 := hs
        simp only [Term.shapeB, Bool.and_eq_true] at hs2
        have hyw := putAt_gt g s p y x w h hw (shapeBL_mem' hs2.2 y hm) k
        have hset := set_gt g args i.toNat y w hg hyw
        simp only [kgt]
        refine ⟨fun z => ?_, ?_⟩
        · have := hset.1 z
          simp only [Term.occ, if_neg hfn, List.nil_append]; exact this
        · by_cases hlt : wtL g (args.set i.toNat w) < wtL g args
          · left; simp only [Term.wt]; omega
          · right
            have h2 := hset.2.1
            exact ⟨by simp only [Term.wt]; omega, hfn, hfn, .inr ⟨trivial, .inr ⟨by simp, hset.2.2.2⟩⟩⟩
/-! ### Terms without variables -/
theorem ground_total (g : Sg) (t : Term) : ∀ u, t.shapeB = true → u.shapeB = true → t.occ = [] → u.occ = [] → t = u ∨ kgt g t u ∨ kgt g u t := by
  refine Term.ind (p := fun t => ∀ u, t.shapeB = true → u.shapeB = true → t.occ = [] → u.occ = [] → t = u ∨ kgt g t u ∨ kgt g u t) (fun v fn args ih u ht hu ho hou => ?_) t
  obtain ⟨v2, f2, a2⟩ := u
  have hl : ∀ (a b : List Term), (∀ x ∈ a, ∀ u, x.shapeB = true → u.shapeB = true → x.occ = [] → u.occ = [] → x = u ∨ kgt g x u ∨ kgt g u x) → a.length = b.length → shapeBL a = true → shapeBL b = true → occL a = [] → occL b = [] → a = b ∨ kgtL g a b ∨ kgtL g b a := by
    intro a
    induction a with
    | nil => intro b _ h _ _ _ _; cases b with | nil => exact .inl rfl | cons => simp at h
    | cons x r ih2 =>
      intro b h hlen ha hb ho ho2
      cases b with
      | nil => simp at hlen
      | cons y q =>
        simp only [shapeBL, Bool.and_eq_true] at ha hb
        simp only [occL, List.append_eq_nil_iff] at ho ho2
        by_cases hxy : x = y
        · subst hxy
          rcases ih2 q (fun z hz => h z (by simp [hz])) (by simpa using hlen) ha.2 hb.2 ho.2 ho2.2 with e | e | e
          · exact .inl (by rw [e])
          · exact .inr (.inl (by simp only [kgtL]; exact .inl ⟨trivial, e⟩))
          · exact .inr (.inr (by simp only [kgtL]; exact .inl ⟨trivial, e⟩))
        · rcases h x (by simp) y ha.1 hb.1 ho.1 ho2.1 with e | e | e
          · exact absurd e hxy
          · exact .inr (.inl (by simp only [kgtL]; exact .inr ⟨hxy, e⟩))
          · exact .inr (.inr (by simp only [kgtL]; exact .inr ⟨fun e2 => hxy e2.symm, e⟩))
  have hcnt : ∀ x, (Term.mk v fn args).occ.count x = 0 := fun x => by rw [ho]; rfl
  have hcnt2 : ∀ x, (Term.mk v2 f2 a2).occ.count x = 0 := fun x => by rw [hou]; rfl
  have n1 : fn.toList ≠ [] := fun e => by simp [Term.occ, e] at ho
  have n2 : f2.toList ≠ [] := fun e => by simp [Term.occ, e] at hou
  have hv := shapeB_v' ht n1
  have hv2 := shapeB_v' hu n2
  simp only [Term.occ, if_neg n1, List.nil_append] at ho
  simp only [Term.occ, if_neg n2, List.nil_append] at hou
  have hs1 := ht
  have hs2 := hu
  simp only [Term.shapeB, Bool.and_eq_true] at hs1 hs2
  simp only [kgt, hcnt, hcnt2, Nat.le_refl, implies_true, true_and]
  rcases Int.lt_trichotomy ((Term.mk v fn args).wt g) ((Term.mk v2 f2 a2).wt g) with hw | hw | hw
  · exact .inr (.inr (.inl hw))
  · by_cases hf : fn.toList = f2.toList
    · rcases Nat.lt_trichotomy args.length a2.length with hlen | hlen | hlen
      · exact .inr (.inr (.inr ⟨hw.symm, n2, n1, .inr ⟨hf.symm, .inl hlen⟩⟩))
      · rcases hl args a2 ih hlen hs1.2 hs2.2 ho hou with e | e | e
        · exact .inl (by rw [e, hv, hv2, bytes_ext hf])
        · exact .inr (.inl (.inr ⟨hw, n1, n2, .inr ⟨hf, .inr ⟨hlen, e⟩⟩⟩))
        · exact .inr (.inr (.inr ⟨hw.symm, n2, n1, .inr ⟨hf.symm, .inr ⟨hlen.symm, e⟩⟩⟩))
      · exact .inr (.inl (.inr ⟨hw, n1, n2, .inr ⟨hf, .inl hlen⟩⟩))
    · have hab := above_total g hf
      cases hb : g.above f2 fn
      · rw [hb] at hab
        exact .inr (.inl (.inr ⟨hw, n1, n2, .inl ⟨hf, hab⟩⟩))
      · exact .inr (.inr (.inr ⟨hw.symm, n2, n1, .inl ⟨fun e => hf e.symm, rfl⟩⟩))
  · exact .inr (.inl (.inl hw))
end Go.Proofs.Ytfcedichoigbbaa.Am

/-
  The laws of the order of Knuth and Bendix: each function returns true. No condition.
-/
namespace Go.Proofs.Ytfcedichoigbbaa.Am
open Go Go.Proofs
set_option maxHeartbeats 4000000
set_option linter.unusedSimpArgs false
set_option linter.unusedVariables false

abbrev tX : Term := .mk 0 (ByteArray.mk #[]) []
abbrev tA : Term := .mk 0 (ByteArray.mk #[97]) []
abbrev tB : Term := .mk 0 (ByteArray.mk #[98]) []
abbrev tF (t : Term) : Term := .mk 0 (ByteArray.mk #[102]) [t]
theorem ex1 : (⟨[], []⟩ : Sg).kCmp (tF tX) tX = 1 := by decide +kernel
theorem ex2 : (⟨[], []⟩ : Sg).kCmp tA tX = 2 := by decide +kernel
theorem ex3 : (⟨[], []⟩ : Sg).kCmp (tF tA) (tF tB) = -1 := by decide +kernel
theorem ex4 : (if (tF tA).rightE = 0 then ((tF tA).loadW ⟨[], []⟩ 1 []).1 else 0) = 2 := by decide +kernel
theorem pcl_eval {f : FuncId} {ds : List D} {x : D} {n : Nat} (h : pcl (oracles Try.prog plc n).1 f ds = some x) : pcl Cp f ds = some x :=
  pcl_mono (fun f vs H nx r h => (acall_some Try.prog plc).2 ⟨n, h⟩) h
theorem fterm_ok (s : ByteArray) : pcl Cp 50 [.agg [.int .i64 0, .str s, .sl [] 0 false (some true)]] = some (.agg [.int .i64 0, .str (ByteArray.mk #[102]), .sl [.int .i64 0, .str s, .sl [] 0 false (some true)] 1 false (some false)]) := by
  refine pcl_body code50 ?_
  simp [plc_raw]
theorem above_ex : pcl Cp 31 [.agg [.sl [] 0 false (some true), .sl [] 0 false (some true)], .str (ByteArray.mk #[98]), .str (ByteArray.mk #[97])] = some (.bool true) := pcl_eval (n := 60) (by kernel_rfl)
theorem alive07_ok : pcl Cp 33 [] = some (.bool true) := by
  have hg : (⟨[], []⟩ : Sg).ok := by simp [Sg.ok]
  have h0 : tX.ok := by simp [Term.ok, okL]
  have hA : tA.ok := by simp [Term.ok, okL]
  have hB : tB.ok := by simp [Term.ok, okL]
  have hf : ∀ t : Term, t.ok → (tF t).ok := fun t h => by simp [Term.ok, okL, h]
  have c1 := kCompare_ok ⟨[], []⟩ hg (tF tX) (hf _ h0) tX h0
  have c2 := kCompare_ok ⟨[], []⟩ hg tA hA tX h0
  have c3 := kCompare_ok ⟨[], []⟩ hg (tF tA) (hf _ hA) (tF tB) (hf _ hB)
  have c4 := kWeight_ok ⟨[], []⟩ hg (tF tA) (hf _ hA)
  rw [ex1] at c1
  rw [ex2] at c2
  rw [ex3] at c3
  rw [ex4] at c4
  simp [Term.enc, Sg.enc, encL, encS, encI] at c1 c2 c3 c4
  refine pcl_body code33 ?_
  simp [plc_raw, fterm_ok, above_ex, c1, c2, c3, c4]

/-! ### The laws -/
theorem kboNames_ok (g : Sg) (hg : g.ok) (a b : ByteArray) : pcl Cp 9 [.agg g.enc, .str a, .str b] = some (.bool true) := by
  have h1 := above_ok g hg a b
  have h2 := above_ok g hg b a
  have h3 := rabove_ok g hg a b
  have h4 := own_ok g
  have h5 := alive07_ok
  rw [aboveR_eq] at h3
  have hab := above_one g a b
  generalize g.above a b = p at *
  generalize g.above b a = q at *
  simp [Sg.enc] at h1 h2 h3 h4
  refine pcl_body code9 ?_
  cases p
  · cases q
    · simp at hab
      simp [Sg.enc, plc_raw, h1, h2, h3, h4, h5, hab]
    · simp [Sg.enc, plc_raw, h1, h2, h3, h4, h5]
  · simp [Sg.enc, plc_raw, h1, h2, h3, h4, h5]
theorem kCmp_range (g : Sg) (t u : Term) (ht : t.size ≤ 1048576) (hu : u.size ≤ 1048576) : -1 ≤ g.kCmp t u ∧ g.kCmp t u ≤ 2 := by
  rw [kCmp_spec g t u ht hu]
  split
  · split
    · omega
    · split
      · omega
      · split <;> omega
  · omega
theorem kboThrough_ok (g : Sg) (hg : g.ok) (a : Term) (ha : a.ok) (has : a.size ≤ 1048576) (b : Term) (hb : b.ok) (hbs : b.size ≤ 1048576) (c : Term) (hc : c.ok) (hcs : c.size ≤ 1048576) :
    pcl Cp 10 [.agg g.enc, .agg a.enc, .agg b.enc, .agg c.enc] = some (.bool true) := by
  have h1 := kCompare_ok g hg a ha b hb
  have h2 := kCompare_ok g hg b hb c hc
  have h3 := kCompare_ok g hg a ha c hc
  have h6 := kCompare_ok g hg b hb a ha
  have h4 := own_ok g
  have h5 := alive07_ok
  have ht := kCmp_turn g a b has hbs
  have htr := kCmp_trans g a b c has hbs hcs
  have hrg := kCmp_range g a b has hbs
  generalize g.kCmp a b = x at *
  generalize g.kCmp b c = y at *
  generalize g.kCmp a c = z at *
  generalize g.kCmp b a = w at *
  obtain ⟨v, fn, args⟩ := a
  obtain ⟨v2, fn2, args2⟩ := b
  obtain ⟨v3, fn3, args3⟩ := c
  simp [Sg.enc, Term.enc] at h1 h2 h3 h4 h6
  refine pcl_body code10 ?_
  rcases ht with ⟨rfl, rfl⟩ | ⟨hx, rfl⟩
  · simp [Sg.enc, Term.enc, plc_raw, h1, h2, h3, h4, h5, h6]
  · have hwr : IntKind.i64.wrap (-x) = -x := wrap_small (by omega) (by omega)
    by_cases hx1 : x = 1
    · subst hx1
      by_cases hy : y = 1
      · have := htr rfl hy
        subst this
        subst hy
        simp [Sg.enc, Term.enc, plc_raw, h1, h2, h3, h4, h5, h6, hwr]
      · simp [Sg.enc, Term.enc, plc_raw, h1, h2, h3, h4, h5, h6, hy, hwr]
    · simp [Sg.enc, Term.enc, plc_raw, h1, h2, h3, h4, h5, h6, hx, hx1, hwr]
theorem kboCompares_ok (g : Sg) (hg : g.ok) (a : Term) (ha : a.ok) (has : a.size ≤ 1048576) (b : Term) (hb : b.ok) (hbs : b.size ≤ 1048576) :
    pcl Cp 8 [.agg g.enc, .agg a.enc, .agg b.enc] = some (.bool true) := by
  have h1 := kCompare_ok g hg a ha b hb
  have h2 := rCompare_ok g hg a ha has b hb hbs
  have h3 := kWeight_ok g hg a ha
  have h6 := rWeight_ok g hg a ha has
  have h4 := own_ok g
  have h5 := alive07_ok
  have h7 := gright_ok g hg
  have h8 := grright_ok g hg
  rw [kCmp_rCmp g a b has hbs] at h1
  rw [loadW_wt g a has] at h3
  obtain ⟨v, fn, args⟩ := a
  obtain ⟨v2, fn2, args2⟩ := b
  have h9 := above_ok g hg fn fn2
  have h10 := rabove_ok g hg fn fn2
  rw [aboveR_eq] at h10
  generalize g.above fn fn2 = p at *
  generalize g.rCmp _ _ = x at *
  generalize (if (Term.mk v fn args).rightE = 0 then (Term.mk v fn args).wt g else 0) = y at *
  generalize g.right = r at *
  simp [Sg.enc, Term.enc] at h1 h2 h3 h4 h6 h7 h8 h9 h10
  refine pcl_body code8 ?_
  cases r <;> simp at h7 <;> simp [Sg.enc, Term.enc, plc_raw, h1, h2, h3, h4, h5, h6, h7, h8, h9, h10]
end Go.Proofs.Ytfcedichoigbbaa.Am

/-
  The path order: the program's exported function, and the chapter's examples. No condition.
-/
namespace Go.Proofs.Ytfcedichoigbbaa.Am
open Go Go.Proofs
set_option maxHeartbeats 4000000
set_option maxRecDepth 20000
set_option linter.unusedSimpArgs false
set_option linter.unusedVariables false
noncomputable section
open Classical
/-- What comes of a comparison of any terms. -/
def Sg.lCmp (g : Sg) (t u : Term) : Int := if g.right = true ∧ t.rightE = 0 ∧ u.rightE = 0 then (if t = u then 0 else if Lpo g t u then 1 else if Lpo g u t then -1 else 2) else 2
end
theorem lCmp_bool (g : Sg) (t u : Term) : g.lCmp t u = if g.right = true ∧ t.rightE = 0 ∧ u.rightE = 0 then (if t.sameB u = true then 0 else if lpoB g t u = true then 1 else if lpoB g u t = true then -1 else 2) else 2 := by
  unfold Sg.lCmp
  by_cases h : g.right = true ∧ t.rightE = 0 ∧ u.rightE = 0
  · rw [if_pos h, if_pos h]
    by_cases he : t = u
    · rw [if_pos he, if_pos ((sameB_eq t u).2 he)]
    · rw [if_neg he, if_neg (mt (sameB_eq t u).1 he)]
      by_cases h1 : Lpo g t u
      · rw [if_pos h1, if_pos (show lpoB g t u = true by simp [lpoB, h1])]
      · rw [if_neg h1, if_neg (show ¬ lpoB g t u = true by simp [lpoB, h1])]
        by_cases h2 : Lpo g u t
        · rw [if_pos h2, if_pos (show lpoB g u t = true by simp [lpoB, h2])]
        · rw [if_neg h2, if_neg (show ¬ lpoB g u t = true by simp [lpoB, h2])]
  · rw [if_neg h, if_neg h]
theorem lCompare_ok (g : Sg) (hg : g.ok) (t : Term) (ht : t.ok) (hts : t.size ≤ 1048576) (u : Term) (hu : u.ok) (hus : u.size ≤ 1048576) : pcl Cp 15 [.agg g.enc, .agg t.enc, .agg u.enc] = some (.int .i64 (g.lCmp t u)) := by
  have h1 := gright_ok g hg
  have h2 := tright_ok t ht
  have h3 := tright_ok u hu
  have h4 := same_ok t ht u hu
  have h5 := pgreater_ok g hg t ht hts u hu hus
  have h6 := pgreater_ok g hg u hu hus t ht hts
  refine pcl_body code15 ?_
  have hk := lCmp_bool g t u
  rw [hk]
  generalize t.sameB u = b1 at *
  generalize lpoB g t u = b2 at *
  generalize lpoB g u t = b3 at *
  generalize t.rightE = z at *
  generalize u.rightE = z2 at *
  clear hk
  obtain ⟨v, fn, args⟩ := t
  obtain ⟨v2, fn2, args2⟩ := u
  simp [Term.enc, Sg.enc] at h1 h2 h3 h4 h5 h6 ⊢
  by_cases hr : g.right = true
  · simp [hr] at h1
    by_cases hz : z = 0
    · by_cases hz2 : z2 = 0
      · cases b1
        · cases b2
          · cases b3 <;> simp [plc_raw, h1, h2, h3, h4, h5, h6, hz, hz2, hr]
          · simp [plc_raw, h1, h2, h3, h4, h5, h6, hz, hz2, hr]
        · simp [plc_raw, h1, h2, h3, h4, h5, h6, hz, hz2, hr]
      · simp [plc_raw, h1, h2, h3, hz, hz2, hr]
    · simp [plc_raw, h1, h2, h3, hz, hr]
  · simp [hr] at h1
    simp [plc_raw, h1, hr]
theorem lCmp_turn (g : Sg) (t u : Term) : (g.lCmp t u = 2 ∧ g.lCmp u t = 2) ∨ (g.lCmp t u ≠ 2 ∧ g.lCmp u t = - g.lCmp t u) := by
  unfold Sg.lCmp
  by_cases h : g.right = true ∧ t.rightE = 0 ∧ u.rightE = 0
  · have h' : g.right = true ∧ u.rightE = 0 ∧ t.rightE = 0 := ⟨h.1, h.2.2, h.2.1⟩
    rw [if_pos h, if_pos h']
    by_cases he : t = u
    · subst he; simp
    · have he' : ¬ u = t := fun e => he e.symm
      by_cases h1 : Lpo g t u
      · have h2 := h1.asymm
        simp [he, he', h1, h2]
      · by_cases h2 : Lpo g u t <;> simp [he, he', h1, h2]
  · have h' : ¬ (g.right = true ∧ u.rightE = 0 ∧ t.rightE = 0) := fun k => h ⟨k.1, k.2.2, k.2.1⟩
    rw [if_neg h, if_neg h']
    simp
theorem lCmp_gt (g : Sg) (t u : Term) : g.lCmp t u = 1 ↔ g.right = true ∧ t.rightE = 0 ∧ u.rightE = 0 ∧ Lpo g t u := by
  unfold Sg.lCmp
  by_cases h : g.right = true ∧ t.rightE = 0 ∧ u.rightE = 0
  · rw [if_pos h]
    by_cases he : t = u
    · subst he; simp [Lpo.irrefl]
    · by_cases h1 : Lpo g t u
      · simp [he, h1, h]
      · by_cases h2 : Lpo g u t <;> simp [he, h1, h2]
  · rw [if_neg h]
    simp only [show ¬ ((2 : Int) = 1) by decide, false_iff]
    exact fun k => h ⟨k.1, k.2.1, k.2.2.1⟩
theorem lCmp_trans (g : Sg) (t u w : Term) (h1 : g.lCmp t u = 1) (h2 : g.lCmp u w = 1) : g.lCmp t w = 1 := by
  rw [lCmp_gt] at h1 h2 ⊢
  exact ⟨h1.1, h1.2.1, h2.2.2.1, h1.2.2.2.trans h2.2.2.2⟩
theorem lCmp_range (g : Sg) (t u : Term) : -1 ≤ g.lCmp t u ∧ g.lCmp t u ≤ 2 := by
  unfold Sg.lCmp
  split
  · split
    · omega
    · split
      · omega
      · split <;> omega
  · omega
theorem lCmp_of (g : Sg) (t u : Term) (hg : g.right = true) (ht : t.rightE = 0) (hu : u.rightE = 0) : (t = u → g.lCmp t u = 0) ∧ (Lpo g t u → g.lCmp t u = 1) ∧ (Lpo g u t → g.lCmp t u = -1) := by
  have h : g.right = true ∧ t.rightE = 0 ∧ u.rightE = 0 := ⟨hg, ht, hu⟩
  refine ⟨fun e => ?_, fun k => ?_, fun k => ?_⟩
  · unfold Sg.lCmp; rw [if_pos h, if_pos e]
  · exact (lCmp_gt g t u).2 ⟨hg, ht, hu, k⟩
  · rcases lCmp_turn g u t with ⟨h1, _⟩ | ⟨_, h1⟩
    · rw [(lCmp_gt g u t).2 ⟨hg, hu, ht, k⟩] at h1; cases h1
    · rw [h1, (lCmp_gt g u t).2 ⟨hg, hu, ht, k⟩]

/-! ### The chapter's examples -/
abbrev gE : Sg := ⟨[ByteArray.mk #[97], ByteArray.mk #[102], ByteArray.mk #[103]], []⟩
abbrev tY : Term := .mk 1 (ByteArray.mk #[]) []
abbrev tFy : Term := .mk 0 (ByteArray.mk #[102]) [tY]
abbrev tGy : Term := .mk 0 (ByteArray.mk #[103]) [tY]
abbrev tGxy : Term := .mk 0 (ByteArray.mk #[103]) [tX, tY]
theorem lex1 : gE.lCmp tGxy tFy = 1 := by
  have hs : SymGt gE (ByteArray.mk #[103]) (ByteArray.mk #[102]) 2 1 := .inl ⟨by decide +kernel, by decide +kernel⟩
  exact (lCmp_of gE _ _ (by decide +kernel) (by decide +kernel) (by decide +kernel)).2.1 (.sym (by decide +kernel) (by decide +kernel) (fun b hb => by simp at hb; subst hb; exact .part (by decide +kernel) (by simp)) hs)
theorem lex2 : gE.lCmp tFy tGy = -1 := by
  have hs : SymGt gE (ByteArray.mk #[103]) (ByteArray.mk #[102]) 1 1 := .inl ⟨by decide +kernel, by decide +kernel⟩
  exact (lCmp_of gE _ _ (by decide +kernel) (by decide +kernel) (by decide +kernel)).2.2 (.sym (by decide +kernel) (by decide +kernel) (fun b hb => by simp at hb; subst hb; exact .part (by decide +kernel) (by simp)) hs)
theorem lex3 : gE.lCmp tFy tX = 2 := by
  have h1 : ¬ Lpo gE tY tX := fun h => h.fn (by decide +kernel)
  have h2 : ¬ Lpo gE tFy tX := by
    rw [Lpo.iff]
    rintro ⟨_, ⟨a, ha, h⟩ | ⟨h, _⟩⟩
    · simp at ha; subst ha
      rcases h with h | h
      · simp at h
      · exact h1 h
    · exact h (by decide +kernel)
  have h3 : ¬ Lpo gE tX tFy := fun h => h.fn (by decide +kernel)
  unfold Sg.lCmp
  rw [if_pos ⟨by decide +kernel, by decide +kernel, by decide +kernel⟩, if_neg (by simp), if_neg h2, if_neg h3]
theorem alive08_ok : pcl Cp 14 [] = some (.bool true) := by
  have hg : gE.ok := by simp [Sg.ok]
  have c1 := lCompare_ok gE hg tGxy (by simp [Term.ok, okL]) (by decide) tFy (by simp [Term.ok, okL]) (by decide)
  have c2 := lCompare_ok gE hg tFy (by simp [Term.ok, okL]) (by decide) tGy (by simp [Term.ok, okL]) (by decide)
  have c3 := lCompare_ok gE hg tFy (by simp [Term.ok, okL]) (by decide) tX (by simp [Term.ok, okL]) (by decide)
  rw [lex1] at c1
  rw [lex2] at c2
  rw [lex3] at c3
  simp [Term.enc, Sg.enc, encL, encS, encI] at c1 c2 c3
  refine pcl_body code14 ?_
  simp [plc_raw, c1, c2, c3]
theorem lpoThrough_ok (g : Sg) (hg : g.ok) (a : Term) (ha : a.ok) (has : a.size ≤ 1048576) (b : Term) (hb : b.ok) (hbs : b.size ≤ 1048576) (c : Term) (hc : c.ok) (hcs : c.size ≤ 1048576) :
    pcl Cp 4 [.agg g.enc, .agg a.enc, .agg b.enc, .agg c.enc] = some (.bool true) := by
  have h1 := lCompare_ok g hg a ha has b hb hbs
  have h2 := lCompare_ok g hg b hb hbs c hc hcs
  have h3 := lCompare_ok g hg a ha has c hc hcs
  have h6 := lCompare_ok g hg b hb hbs a ha has
  have h4 := own_ok g
  have h5 := alive08_ok
  have h7 := small_ok [a, b, c] (by simp) ⟨ha, hb, hc, trivial⟩
  have ht := lCmp_turn g a b
  have htr := lCmp_trans g a b c
  have hrg := lCmp_range g a b
  generalize smallB [a, b, c] = sm at h7
  generalize g.lCmp a b = x at *
  generalize g.lCmp b c = y at *
  generalize g.lCmp a c = z at *
  generalize g.lCmp b a = w at *
  obtain ⟨v, fn, args⟩ := a
  obtain ⟨v2, fn2, args2⟩ := b
  obtain ⟨v3, fn3, args3⟩ := c
  simp [Sg.enc, Term.enc, encL] at h1 h2 h3 h4 h6 h7
  refine pcl_body code4 ?_
  cases sm
  · simp [Sg.enc, Term.enc, plc_raw, h7, h5]
  rcases ht with ⟨rfl, rfl⟩ | ⟨hx, rfl⟩
  · simp [Sg.enc, Term.enc, plc_raw, h1, h2, h3, h4, h5, h6, h7]
  · have hwr : IntKind.i64.wrap (-x) = -x := wrap_small (by omega) (by omega)
    by_cases hx1 : x = 1
    · subst hx1
      by_cases hy : y = 1
      · have := htr rfl hy
        subst this
        subst hy
        simp [Sg.enc, Term.enc, plc_raw, h1, h2, h3, h4, h5, h6, h7, hwr]
      · simp [Sg.enc, Term.enc, plc_raw, h1, h2, h3, h4, h5, h6, h7, hy, hwr]
    · simp [Sg.enc, Term.enc, plc_raw, h1, h2, h3, h4, h5, h6, h7, hx, hx1, hwr]
end Go.Proofs.Ytfcedichoigbbaa.Am

/-
  Towers of functions: the higher one is the greater, and the law says so. No condition.
-/
namespace Go.Proofs.Ytfcedichoigbbaa.Am
open Go Go.Proofs
set_option maxHeartbeats 4000000
set_option maxRecDepth 20000
set_option linter.unusedSimpArgs false
set_option linter.unusedVariables false

abbrev tf : ByteArray := ByteArray.mk #[102]
def towT : Nat → Term
  | 0 => .mk 0 (ByteArray.mk #[]) []
  | n + 1 => .mk 0 tf [towT n, .mk 1 (ByteArray.mk #[]) []]
theorem towT_ok : ∀ n, (towT n).ok
  | 0 => by simp [towT, Term.ok, okL]
  | n + 1 => by simp [towT, Term.ok, okL, towT_ok n]
theorem towT_size : ∀ n, (towT n).size = 2 * n + 1
  | 0 => by simp [towT, Term.size, sizeL]
  | n + 1 => by simp [towT, Term.size, sizeL, towT_size n]; omega
theorem towT_depth : ∀ n, (towT n).depth = n + 1
  | 0 => by simp [towT, Term.depth, depthL]
  | n + 1 => by simp [towT, Term.depth, depthL, towT_depth n]
theorem towT_shape : ∀ n, (towT n).shapeB = true
  | 0 => by decide +kernel
  | n + 1 => by
    have h : rightB 0 tf 2 = true := by decide +kernel
    have h1 : (Term.mk 1 (ByteArray.mk #[]) []).shapeB = true := by decide +kernel
    have h2 : shapeBL [towT n, .mk 1 (ByteArray.mk #[]) []] = true := by
      show ((towT n).shapeB && ((Term.mk 1 (ByteArray.mk #[]) []).shapeB && true)) = true
      rw [towT_shape n, h1]; rfl
    show (rightB 0 tf 2 && shapeBL [towT n, .mk 1 (ByteArray.mk #[]) []]) = true
    rw [h, h2]; rfl
theorem towT_right (n : Nat) (h : n ≤ 58) : (towT n).rightE = 0 :=
  (rightE_iff _ (by rw [towT_size]; omega)).2 ⟨towT_shape n, by rw [towT_depth]; omega, by rw [towT_size]; omega⟩
theorem tow_lpo (g : Sg) (m : Nat) : ∀ d, Lpo g (towT (m + d + 1)) (towT m)
  | 0 => .part (by decide +kernel) (by simp)
  | d + 1 => .under (towT (m + d + 1)) (by decide +kernel) (by simp [Nat.add_assoc]) (tow_lpo g m d)
theorem tow_cmp (n m : Nat) (hn : n ≤ 58) (hm : m ≤ 58) : (⟨[], []⟩ : Sg).lCmp (towT n) (towT m) = if m < n then 1 else if n < m then -1 else 0 := by
  obtain ⟨h1, h2, h3⟩ := lCmp_of ⟨[], []⟩ (towT n) (towT m) (by decide +kernel) (towT_right n hn) (towT_right m hm)
  rcases Nat.lt_trichotomy n m with h | h | h
  · rw [if_neg (by omega), if_pos h]
    obtain ⟨d, rfl⟩ : ∃ d, m = n + d + 1 := ⟨m - n - 1, by omega⟩
    exact h3 (tow_lpo _ n d)
  · subst h; simpa using h1 rfl
  · rw [if_pos h]
    obtain ⟨d, rfl⟩ : ∃ d, n = m + d + 1 := ⟨n - m - 1, by omega⟩
    exact h2 (tow_lpo _ m d)

/-- A tower's cells on the objects; what they are read as. -/
def dTw : Nat → List D
  | 0 => [.int .i64 0, .str (ByteArray.mk #[]), .sl [] 0 false (some true)]
  | n + 1 => [.int .i64 0, .str tf, .sl (dTw n ++ [.int .i64 1, .str (ByteArray.mk #[]), .sl [] 0 true (some true)]) 2 false (some false)]
theorem wkL_app : ∀ a b : List D, wkL (a ++ b) = wkL a ++ wkL b
  | [], _ => rfl
  | x :: r, b => by simp [wkL, wkL_app r b]
theorem dTw_wk : ∀ n, wkL (dTw n) = (towT n).enc
  | 0 => by simp [dTw, towT, Term.enc, encL]
  | n + 1 => by simp [dTw, towT, Term.enc, encL, wkL_app, dTw_wk n]
def TwC (H : Hp) (N : Nat) : Nat → List AV → Prop
  | 0, cs => ∃ q : Oid, cs = [.d (.int .i64 0), .d (.str (ByteArray.mk #[])), .osl q 0 0 1 0] ∧ H q = some .vnil ∧ q.1 < N
  | n + 1, cs => ∃ (o : Oid) (cs' : List AV), cs = [.d (.int .i64 0), .d (.str tf), .osl o 0 2 3 6] ∧ H o = some (.cells (cs' ++ [.d (.int .i64 1), .d (.str (ByteArray.mk #[])), .d (.sl [] 0 true (some true))])) ∧ o.1 < N ∧ cs'.length = 3 ∧ TwC H N n cs'
theorem TwC.keep {H H' : Hp} {N N' : Nat} (hN : N ≤ N') (P : Oid → Prop) (k : ∀ p : Oid, p.1 < N → P p → H' p = H p) : ∀ (n : Nat) (cs : List AV), TwC H N n cs → (∀ p : Oid, (H p).isSome → P p ∨ ∃ c, H p = some (.cells c) ∧ c.length = 3) → TwC H' N' n cs
  | 0, cs, ⟨q, h1, h2, h3⟩, hP => ⟨q, h1, (k q h3 ((hP q (by rw [h2]; rfl)).elim id fun ⟨c, h, _⟩ => by rw [h2] at h; cases h)).trans h2, by omega⟩
  | n + 1, cs, ⟨o, cs', h1, h2, h3, h4, h5⟩, hP => ⟨o, cs', h1, (k o h3 ((hP o (by rw [h2]; rfl)).elim id fun ⟨c, h, hc⟩ => by rw [h2] at h; cases h; simp [h4] at hc)).trans h2, by omega, h4, TwC.keep hN P k n cs' h5 hP⟩
theorem TwC.form {H : Hp} {N n : Nat} {cs : List AV} (h : TwC H N n cs) : ∃ s o l z v, cs = [.d (.int .i64 0), .d (.str s), .osl o 0 l z v] := by
  cases n with
  | zero => obtain ⟨q, h, _⟩ := h; exact ⟨_, _, _, _, _, h⟩
  | succ n => obtain ⟨o, cs', h, _⟩ := h; exact ⟨_, _, _, _, _, h⟩
theorem mapD_app2 (f : AV → Option (D × List Oid)) : ∀ (a b : List AV) (x y : List D) (i j : List Oid), mapD f a = some (x, i) → mapD f b = some (y, j) → mapD f (a ++ b) = some (x ++ y, i ++ j)
  | [], b, x, y, i, j, h, k => by
    simp only [mapD, Option.some.injEq, Prod.mk.injEq] at h
    obtain ⟨rfl, rfl⟩ := h
    simpa using k
  | v :: r, b, x, y, i, j, h, k => by
    simp only [mapD, Option.bind_eq_bind, Option.bind_eq_some_iff] at h
    obtain ⟨⟨z, is⟩, h1, ⟨xs, is2⟩, h2, h3⟩ := h
    simp only [Option.some.injEq, Prod.mk.injEq] at h3
    obtain ⟨rfl, rfl⟩ := h3
    simp [mapD, h1, mapD_app2 f r b xs y is2 j h2 k]
theorem TwC.reify {H : Hp} {N : Nat} : ∀ (n : Nat) (cs : List AV), TwC H N n cs → ∀ k, ∃ is, mapD (Am.reify H (k + n + 1)) cs = some (dTw n, is)
  | 0, cs, ⟨q, h1, h2, h3⟩, k => ⟨[], by subst h1; simp [mapD, Am.reify, h2, dTw, Obj.isRow, Obj.cs, nlOf]⟩
  | n + 1, cs, ⟨o, cs', h1, h2, h3, h4, h5⟩, k => by
    obtain ⟨is, h6⟩ := TwC.reify n cs' h5 k
    have h7 : mapD (Am.reify H (k + n + 1)) [.d (.int .i64 1), .d (.str (ByteArray.mk #[])), .d (.sl [] 0 true (some true))] = some ([.int .i64 1, .str (ByteArray.mk #[]), .sl [] 0 true (some true)], []) := by simp [mapD, Am.reify]
    have h8 := mapD_app2 _ _ _ _ _ _ _ h6 h7
    have ht : List.take 6 (cs' ++ [.d (.int .i64 1), .d (.str (ByteArray.mk #[])), .d (.sl [] 0 true (some true))]) = cs' ++ [.d (.int .i64 1), .d (.str (ByteArray.mk #[])), .d (.sl [] 0 true (some true))] := List.take_of_length_le (by simp [h4])
    have h9 : Am.reify H (k + (n + 1) + 1) (.osl o 0 2 3 6) = some (.sl (dTw n ++ [.int .i64 1, .str (ByteArray.mk #[]), .sl [] 0 true (some true)]) 2 false (some false), o :: (is ++ [])) := by
      rw [show k + (n + 1) + 1 = (k + n + 1) + 1 by omega]
      simp only [Am.reify, h2]
      simp [Obj.isRow, Obj.cs, h4, nlOf]
      rw [ht, h8]
      simp
    subst h1
    refine ⟨o :: (is ++ []), ?_⟩
    have e0 : ∀ x : D, Am.reify H (k + (n + 1) + 1) (.d x) = some (x, []) := fun x => rfl
    simp only [mapD, e0, h9]
    simp [dTw]
theorem reify_d2 (H : Hp) (n : Nat) (x : D) : Am.reify H n (.d x) = some (x, []) := by cases n <;> rfl
/-! ### The loops that build them -/
structure TwI (n m : Int) (oa ob : Oid) (H : Hp) (N i k : Nat) : Prop where
  a : ∃ cs, H oa = some (.cells cs) ∧ TwC H N i cs
  b : ∃ cs, H ob = some (.cells cs) ∧ TwC H N k cs
  la : oa.1 < N
  lb : ob.1 < N
abbrev soonT (n m : Int) (oa ob : Oid) (i : AV) (k : AV) : List AV := [.d (.int .i64 n), .d (.int .i64 m), .junk, .junk, .d (.bool false), .ptr oa 0 3, .ptr ob 0 3, i, k, .junk, .junk, .junk, .junk, .junk, .junk, .junk, .junk, .junk, .junk, .junk, .junk, .junk, .junk, .junk, .junk, .junk, .junk, .junk, .junk, .junk, .junk, .junk, .junk, .junk, .junk, .junk, .junk, .junk, .junk, .junk, .junk, .junk, .junk, .junk, .junk, .junk, .junk, .junk, .junk, .junk, .junk, .junk, .junk, .junk, .junk, .junk, .junk, .junk, .junk, .junk]
/-- What a round does to a tower's cells. -/
theorem tw_round {H : Hp} {N i : Nat} {oa : Oid} {cs : List AV} (h1 : H oa = some (.cells cs)) (h2 : TwC H N i cs) (hl : oa.1 < N) (k : Nat) :
    ∃ s o l z v, cs = [.d (.int .i64 0), .d (.str s), .osl o 0 l z v] ∧
    TwC (upd (upd H (N + k, 0) (.cells (cs ++ [.d (.int .i64 1), .d (.str (ByteArray.mk #[])), .d (.sl [] 0 true (some true))]))) oa (.cells [.d (.int .i64 0), .d (.str tf), .osl (N + k, 0) 0 2 3 6])) (N + k + 1) (i + 1) [.d (.int .i64 0), .d (.str tf), .osl (N + k, 0) 0 2 3 6] := by
  obtain ⟨s, o, l, z, v, hcs⟩ := h2.form
  refine ⟨s, o, l, z, v, hcs, (N + k, 0), cs, rfl, ?_, by simp, by simp [hcs], ?_⟩
  · rw [upd_ne (fun e => by rw [← e] at hl; simp at hl; omega)]; exact upd_same _ _ _
  · refine TwC.keep (by omega) (fun p => p ≠ oa) (fun p hp hq => ?_) i cs h2 (fun p hp => ?_)
    · rw [upd_ne hq, upd_old (by omega)]
    · by_cases e : p = oa
      · subst e; exact .inr ⟨cs, h1, by simp [hcs]⟩
      · exact .inl e
/-- The other tower stays. -/
theorem tw_other {H : Hp} {N i : Nat} {oa ob : Oid} {cs ca : List AV} (hne : ob ≠ oa) (h1 : H ob = some (.cells cs)) (h2 : TwC H N i cs) (hl : ob.1 < N) (ha : H oa = some (.cells ca)) (hal : ca.length = 3) (k : Nat) (x y : Am.Obj) :
    upd (upd H (N + k, 0) x) oa y ob = some (.cells cs) ∧ TwC (upd (upd H (N + k, 0) x) oa y) (N + k + 1) i cs := by
  refine ⟨by rw [upd_ne hne, upd_old (by omega)]; exact h1, TwC.keep (by omega) (fun p => p ≠ oa) (fun p hp hq => ?_) i cs h2 (fun p hp => ?_)⟩
  · rw [upd_ne hq, upd_old (by omega)]
  · by_cases e : p = oa
    · subst e; exact .inr ⟨ca, ha, hal⟩
    · exact .inl e
def SoonEnd (n m : Int) (oa ob : Oid) (j : Nat) (t7 t8 : AV) (i k : Nat) (u : Unit) (e : Ex) (t : St) : Prop :=
  ∃ H' N', e = .exit j ∧ t = ⟨soonT n m oa ob t7 t8, H', N'⟩ ∧ TwI n m oa ob H' N' i k
theorem soon_a (n m : Nat) (hn : n ≤ 58) (oa ob : Oid) (hne : oa ≠ ob) (H : Hp) (N : Nat) (hI : TwI n m oa ob H N 0 0) :
    ∃ e t, aloop Try.prog plc b7_1 ⟨[true, true, false, false, true, true, true, true, true, true, false, false, false, false, false, false, false, false, false, false, false, false, false, false, false, false, false, false, false, false, false, false, false, false, false, false, true, true, true, true, true, true, true, true, true, true, true, true, true, true, true, true, true, true, true, true, true, true, true, true], none⟩ ⟨soonT n m oa ob (.d (.int .i64 0)) .junk, H, N⟩ = some (e, t) ∧ SoonEnd n m oa ob 0 (.d (.int .i64 n)) .junk n 0 () e t := by
  have key := loop_ruleN (P := Try.prog) (pol := plc) (c := b7_1) (m := ⟨[true, true, false, false, true, true, true, true, true, true, false, false, false, false, false, false, false, false, false, false, false, false, false, false, false, false, false, false, false, false, false, false, false, false, false, false, true, true, true, true, true, true, true, true, true, true, true, true, true, true, true, true, true, true, true, true, true, true, true, true], none⟩)
    (N := fun (x : Nat × Hp × Nat) => x.2.2) (tm := fun x => soonT n m oa ob (.d (.int .i64 x.1)) .junk) (Hf := fun x => x.2.1)
    (I := fun x => x.1 ≤ n ∧ TwI n m oa ob x.2.1 x.2.2 x.1 0) (μ := fun x => n - x.1) (res := fun _ => ()) (R := SoonEnd n m oa ob 0 (.d (.int .i64 n)) .junk n 0)
    (fun x hx => by
      obtain ⟨i, HH, N1⟩ := x
      obtain ⟨hi, ⟨ca, ha, ta⟩, ⟨cb, hb, tb⟩, la, lb⟩ := hx
      simp only at hi ha ta hb tb la lb ⊢
      rcases Nat.lt_or_ge i n with hl | hl
      · have hli : (i : Int) < (n : Int) := by omega
        have hw : IntKind.i64.wrap ((i : Int) + 1) = (i : Int) + 1 := wrap_i64 (by omega) (by omega)
        obtain ⟨s, o, l, z, v, hcs, hr⟩ := tw_round ha ta la 5
        obtain ⟨o1, o2⟩ := tw_other hne.symm hb tb lb ha (by simp [hcs]) 5 (.cells (ca ++ [.d (.int .i64 1), .d (.str (ByteArray.mk #[])), .d (.sl [] 0 true (some true))])) (.cells [.d (.int .i64 0), .d (.str tf), .osl (N1 + 5, 0) 0 2 3 6])
        obtain ⟨H9, hH9⟩ : ∃ H9, H9 = upd (upd HH (N1 + 5, 0) (.cells (ca ++ [.d (.int .i64 1), .d (.str (ByteArray.mk #[])), .d (.sl [] 0 true (some true))]))) oa (.cells [.d (.int .i64 0), .d (.str tf), .osl (N1 + 5, 0) 0 2 3 6]) := ⟨_, rfl⟩
        have h9s : H9 oa = some (.cells [.d (.int .i64 0), .d (.str tf), .osl (N1 + 5, 0) 0 2 3 6]) := by rw [hH9]; exact upd_same _ _ _
        rw [← hH9] at hr o1 o2
        subst hcs
        simp at hH9
        have fa : ∀ k x, upd HH (N1 + k, 0) x oa = HH oa := fun k x => upd_old (by omega) _ _ _
        conv => arg 9; arg 4; unfold b7_1
        simp [plc_raw, Nat.add_assoc, hli, hw, ha, fa, ← hH9]
        refine .next (i + 1, H9, N1 + 11) rfl (by simp) rfl ⟨hl, ⟨⟨_, h9s, TwC.keep (by simp) (fun _ => True) (fun _ _ _ => rfl) _ _ hr (fun _ _ => .inl trivial)⟩, ⟨_, o1, TwC.keep (by simp) (fun _ => True) (fun _ _ _ => rfl) _ _ o2 (fun _ _ => .inl trivial)⟩, by simp only; omega, by simp only; omega⟩⟩ (by simp only; omega) rfl
      · obtain rfl : i = n := Nat.le_antisymm hi hl
        simp [b7_1]
        exact .fin _ _ ⟨HH, N1 + 3, rfl, rfl, ⟨ca, ha, TwC.keep (by omega) (fun _ => True) (fun _ _ _ => rfl) _ _ ta (fun _ _ => .inl trivial)⟩, ⟨cb, hb, TwC.keep (by omega) (fun _ => True) (fun _ _ _ => rfl) _ _ tb (fun _ _ => .inl trivial)⟩, by omega, by omega⟩) (0, H, N) ⟨Nat.zero_le _, hI⟩
  simpa using key
theorem soon_b (n m : Nat) (hm : m ≤ 58) (oa ob : Oid) (hne : oa ≠ ob) (H : Hp) (N : Nat) (hI : TwI n m oa ob H N n 0) :
    ∃ e t, aloop Try.prog plc b7_0 ⟨[true, true, false, false, true, true, true, false, true, true, false, false, false, false, false, false, false, false, false, false, false, false, false, false, false, false, false, false, false, false, false, false, false, false, false, false, false, false, false, false, false, false, false, false, false, true, true, true, true, true, true, true, true, true, true, true, true, true, true, true], none⟩ ⟨soonT n m oa ob .junk (.d (.int .i64 0)), H, N⟩ = some (e, t) ∧ SoonEnd n m oa ob 2 .junk (.d (.int .i64 m)) n m () e t := by
  have key := loop_ruleN (P := Try.prog) (pol := plc) (c := b7_0) (m := ⟨[true, true, false, false, true, true, true, false, true, true, false, false, false, false, false, false, false, false, false, false, false, false, false, false, false, false, false, false, false, false, false, false, false, false, false, false, false, false, false, false, false, false, false, false, false, true, true, true, true, true, true, true, true, true, true, true, true, true, true, true], none⟩)
    (N := fun (x : Nat × Hp × Nat) => x.2.2) (tm := fun x => soonT n m oa ob .junk (.d (.int .i64 x.1))) (Hf := fun x => x.2.1)
    (I := fun x => x.1 ≤ m ∧ TwI n m oa ob x.2.1 x.2.2 n x.1) (μ := fun x => m - x.1) (res := fun _ => ()) (R := SoonEnd n m oa ob 2 .junk (.d (.int .i64 m)) n m)
    (fun x hx => by
      obtain ⟨i, HH, N1⟩ := x
      obtain ⟨hi, ⟨ca, ha, ta⟩, ⟨cb, hb, tb⟩, la, lb⟩ := hx
      simp only at hi ha ta hb tb la lb ⊢
      rcases Nat.lt_or_ge i m with hl | hl
      · have hli : (i : Int) < (m : Int) := by omega
        have hw : IntKind.i64.wrap ((i : Int) + 1) = (i : Int) + 1 := wrap_i64 (by omega) (by omega)
        obtain ⟨s, o, l, z, v, hcs, hr⟩ := tw_round hb tb lb 5
        obtain ⟨o1, o2⟩ := tw_other hne ha ta la hb (by simp [hcs]) 5 (.cells (cb ++ [.d (.int .i64 1), .d (.str (ByteArray.mk #[])), .d (.sl [] 0 true (some true))])) (.cells [.d (.int .i64 0), .d (.str tf), .osl (N1 + 5, 0) 0 2 3 6])
        obtain ⟨H9, hH9⟩ : ∃ H9, H9 = upd (upd HH (N1 + 5, 0) (.cells (cb ++ [.d (.int .i64 1), .d (.str (ByteArray.mk #[])), .d (.sl [] 0 true (some true))]))) ob (.cells [.d (.int .i64 0), .d (.str tf), .osl (N1 + 5, 0) 0 2 3 6]) := ⟨_, rfl⟩
        have h9s : H9 ob = some (.cells [.d (.int .i64 0), .d (.str tf), .osl (N1 + 5, 0) 0 2 3 6]) := by rw [hH9]; exact upd_same _ _ _
        rw [← hH9] at hr o1 o2
        subst hcs
        simp at hH9
        have fa : ∀ k x, upd HH (N1 + k, 0) x ob = HH ob := fun k x => upd_old (by omega) _ _ _
        conv => arg 9; arg 4; unfold b7_0
        simp [plc_raw, Nat.add_assoc, hli, hw, hb, fa, ← hH9]
        refine .next (i + 1, H9, N1 + 11) rfl (by simp) rfl ⟨hl, ⟨⟨_, o1, TwC.keep (by simp) (fun _ => True) (fun _ _ _ => rfl) _ _ o2 (fun _ _ => .inl trivial)⟩, ⟨_, h9s, TwC.keep (by simp) (fun _ => True) (fun _ _ _ => rfl) _ _ hr (fun _ _ => .inl trivial)⟩, by simp only; omega, by simp only; omega⟩⟩ (by simp only; omega) rfl
      · obtain rfl : i = m := Nat.le_antisymm hi hl
        simp [b7_0]
        exact .fin _ _ ⟨HH, N1 + 3, rfl, rfl, ⟨ca, ha, TwC.keep (by omega) (fun _ => True) (fun _ _ _ => rfl) _ _ ta (fun _ _ => .inl trivial)⟩, ⟨cb, hb, TwC.keep (by omega) (fun _ => True) (fun _ _ _ => rfl) _ _ tb (fun _ _ => .inl trivial)⟩, by omega, by omega⟩) (0, H, N) ⟨Nat.zero_le _, hI⟩
  simpa using key
theorem lpoSoon_ok (n m : Int) : pcl Cp 7 [.int .i64 n, .int .i64 m] = some (.bool true) := by
  have hal := alive08_ok
  refine pcl_body code7 ?_
  by_cases h1 : n < 0
  · simp [plc_raw, h1, hal]
  by_cases h2 : 58 < n
  · simp [plc_raw, h1, h2, hal]
  by_cases h3 : m < 0
  · simp [plc_raw, h1, h2, h3, hal]
  by_cases h4 : 58 < m
  · simp [plc_raw, h1, h2, h3, h4, hal]
  obtain ⟨a, rfl⟩ : ∃ a : Nat, n = a := ⟨n.toNat, by omega⟩
  obtain ⟨b, rfl⟩ : ∃ b : Nat, m = b := ⟨m.toNat, by omega⟩
  obtain ⟨Ha, hHa⟩ : ∃ Ha : Hp, Ha = upd (upd (upd (upd (upd (upd (upd (upd (fun x => none) (17, 3) Obj.vnil) (17, 0) (.cells [.d (.int .i64 0), .d (.str (ByteArray.mk #[])), .osl (17, 3) 0 0 1 0])) (18, 3) .vnil) (18, 0) (.cells [.d (.int .i64 0), .d (.str (ByteArray.mk #[])), .osl (18, 3) 0 0 1 0]))
    (19, 3) .vnil) (17, 0) (.cells [.d (.int .i64 0), .d (.str (ByteArray.mk #[])), .osl (19, 3) 0 0 1 0])) (20, 3) .vnil) (18, 0) (.cells [.d (.int .i64 0), .d (.str (ByteArray.mk #[])), .osl (20, 3) 0 0 1 0]) := ⟨_, rfl⟩
  have hI0 : TwI a b (17, 0) (18, 0) Ha 22 0 0 := ⟨⟨_, by rw [hHa]; simp [upd], (19, 3), rfl, by rw [hHa]; simp [upd], by simp⟩, ⟨_, by rw [hHa]; simp [upd], (20, 3), rfl, by rw [hHa]; simp [upd], by simp⟩, by simp, by simp⟩
  obtain ⟨e, t, hrun, H1, N1, rfl, rfl, hI1⟩ := soon_a a b (by omega) (17, 0) (18, 0) (by simp) Ha 22 hI0
  have hI1' : TwI a b (17, 0) (18, 0) H1 (N1 + 1) a 0 := by
    obtain ⟨⟨ca, x1, x2⟩, ⟨cb, y1, y2⟩, l1, l2⟩ := hI1
    exact ⟨⟨ca, x1, TwC.keep (by omega) (fun _ => True) (fun _ _ _ => rfl) _ _ x2 (fun _ _ => .inl trivial)⟩, ⟨cb, y1, TwC.keep (by omega) (fun _ => True) (fun _ _ _ => rfl) _ _ y2 (fun _ _ => .inl trivial)⟩, by omega, by omega⟩
  obtain ⟨e, t, hrun2, H2, N2, rfl, rfl, ⟨ca, ha, ta⟩, ⟨cb, hb, tb⟩, _, _⟩ := soon_b a b (by omega) (17, 0) (18, 0) (by simp) H1 (N1 + 1) hI1'
  rw [hHa] at hrun
  simp [soonT] at hrun hrun2
  obtain ⟨i1, ra⟩ := TwC.reify _ _ ta (69 - a - 1)
  obtain ⟨i2, rb⟩ := TwC.reify _ _ tb (69 - b - 1)
  rw [show 69 - a - 1 + a + 1 = 69 by omega] at ra
  rw [show 69 - b - 1 + b + 1 = 69 by omega] at rb
  obtain ⟨s1, o1, l1, z1, v1, hca⟩ := ta.form
  obtain ⟨s2, o2, l2, z2, v2, hcb⟩ := tb.form
  have ra2 : Am.reify H2 70 (.agg ca) = some (.agg (dTw a), i1) := by
    show ((mapD (Am.reify H2 69) ca).bind fun q => some (D.agg q.1, q.2)) = _
    rw [ra]; rfl
  have rb2 : Am.reify H2 70 (.agg cb) = some (.agg (dTw b), i2) := by
    show ((mapD (Am.reify H2 69) cb).bind fun q => some (D.agg q.1, q.2)) = _
    rw [rb]; rfl
  subst hca; subst hcb
  have hcmp := lCompare_ok ⟨[], []⟩ (by simp [Sg.ok]) (towT a) (towT_ok a) (by rw [towT_size]; omega) (towT b) (towT_ok b) (by rw [towT_size]; omega)
  rw [tow_cmp a b (by omega) (by omega)] at hcmp
  simp [Sg.enc, encS, encI] at hcmp
  rcases Nat.lt_trichotomy a b with h | h | h
  · have c1 : ¬ b < a := by omega
    have c2 : ¬ (b : Int) < a := by omega
    have c3 : (a : Int) < b := by omega
    simp [c1, h] at hcmp
    simp [plc_raw, Nat.add_assoc, h1, h2, h3, h4, hal, hrun, hrun2, ha, hb, ra2, rb2, reify_d2, dTw_wk, hcmp, c2, c3, -reify]
  · subst h
    simp at hcmp
    simp [plc_raw, Nat.add_assoc, h1, h2, h3, h4, hal, hrun, hrun2, ha, hb, ra2, rb2, reify_d2, dTw_wk, hcmp, -reify]
  · have c2 : (b : Int) < a := by omega
    have c3 : ¬ (a : Int) < b := by omega
    simp [h] at hcmp
    simp [plc_raw, Nat.add_assoc, h1, h2, h3, h4, hal, hrun, hrun2, ha, hb, ra2, rb2, reify_d2, dTw_wk, hcmp, c2, c3, -reify]
end Go.Proofs.Ytfcedichoigbbaa.Am


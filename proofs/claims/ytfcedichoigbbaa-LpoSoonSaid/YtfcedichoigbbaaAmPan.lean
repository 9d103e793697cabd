/-
  Joined texts: AmVa, AmVb, AmRk, AmLo, AmRg, AmKd, AmKe, AmKq, AmLm, AmLh, AmLi, AmLj. No condition.
-/
import Derived.Test.YtfcedichoigbbaaAmPam
/-
  The numbers of a term's variables, rising: what the document's functions compute. No condition.
-/
namespace Go.Proofs.Ytfcedichoigbbaa.Am
open Go Go.Proofs
set_option maxHeartbeats 4000000
set_option linter.unusedSimpArgs false

/-- Numbers, rising, and one more. -/
def withGo (n : Int) : Bool → List Int → List Int → List Int
  | inn, out, [] => if inn then out else out ++ [n]
  | inn, out, x :: r =>
    if inn = false ∧ n ≤ x then withGo n true ((out ++ [n]) ++ if x = n then [] else [x]) r else withGo n inn (out ++ if x = n then [] else [x]) r
def WithEnd (l : List Int) (b : Bool) (nl : Option Bool) (n : Int) (r : List Int) (e : Ex) (t : St) : Prop :=
  ∃ inn out, AtExit 0 [.d (.sl (encI l) l.length b nl), .d (.int .i64 n), .junk, .junk, .osl (0, 1) 0 0 1 0, .osl (1, 1) 0 out.length 1 out.length, .d (.bool inn), .d (.int .i64 l.length), .junk, .junk, .junk, .junk, .junk, .junk, .junk, .junk, .junk, .junk, .junk, .junk, .junk, .junk, .junk, .junk, .junk, .junk, .junk, .junk, .junk, .junk, .junk, .junk, .junk, .junk, .junk, .junk, .junk, .junk, .junk, .junk, .junk, .junk, .junk, .junk, .junk, .junk, .junk, .junk] (upd (upd (fun _ => none) (0, 1) .vnil) (1, 1) (rowI out)) e t ∧ out.length ≤ l.length + 1 ∧ r = if inn then out else out ++ [n]
theorem with_ok (l : List Int) (hl : l.length ≤ 68719476000) (b : Bool) (nl : Option Bool) (n : Int) : pcl Cp 65 [.sl (encI l) l.length b nl, .int .i64 n] = some (.sl (encI (withGo n false [] l)) (withGo n false [] l).length false (some (decide (withGo n false [] l = [])))) := by
  have hloop := loop_rule (P := Try.prog) (pol := plc) (c := b65_0) (m := ⟨[true, true, false, false, true, true, true, true, false, false, false, false, false, false, false, false, false, false, false, false, false, false, false, false, false, false, false, false, false, false, false, false, false, false, false, false, false, false, false, false, false, true, true, true, true, true, true, true], some 4⟩)
    (b := 4) (tm := fun (s : Nat × Bool × List Int) => [.d (.sl (encI l) l.length b nl), .d (.int .i64 n), .junk, .junk, .osl (0, 1) 0 0 1 0, .osl (1, 1) 0 s.2.2.length 1 s.2.2.length, .d (.bool s.2.1), .d (.int .i64 s.1), .junk, .junk, .junk, .junk, .junk, .junk, .junk, .junk, .junk, .junk, .junk, .junk, .junk, .junk, .junk, .junk, .junk, .junk, .junk, .junk, .junk, .junk, .junk, .junk, .junk, .junk, .junk, .junk, .junk, .junk, .junk, .junk, .junk, .junk, .junk, .junk, .junk, .junk, .junk, .junk])
    (Hf := fun s => upd (upd (fun _ => none) (0, 1) .vnil) (1, 1) (rowI s.2.2))
    (I := fun s => s.1 ≤ l.length ∧ s.2.2.length ≤ s.1 + if s.2.1 then 1 else 0) (μ := fun s => l.length - s.1) (res := fun s => withGo n s.2.1 s.2.2 (l.drop s.1))
    (R := fun r e t => WithEnd l b nl n r e t)
    (fun s nx hi => by
      obtain ⟨i, inn, out⟩ := s
      obtain ⟨hi, ho⟩ := hi
      simp only at hi ho ⊢
      rcases Nat.lt_or_ge i l.length with hl2 | hl2
      · have hw : IntKind.i64.wrap ((i : Int) + 1) = (i : Int) + 1 := wrap_i64 (by omega) (by omega)
        have hb1 : out.length ≤ 68719476735 := by split at ho <;> omega
        obtain ⟨x, hx⟩ : ∃ x, l[i] = x := ⟨_, rfl⟩
        have hdr := List.drop_eq_getElem_cons hl2
        rw [hx] at hdr
        have ha2 := fun (H : Hp) (id : Nat) (o o2 : Oid) (y : Int) (h : H o = some (rowI (out ++ [n]))) (h2 : H o2 = some (.cells [.d (.int .i64 y)])) (hb : out.length + 1 ≤ 68719476735) => append_rowI (id := id) h h2 (by simpa using hb)
        simp only [List.length_append, List.length_singleton] at ha2
        by_cases hin : inn = false ∧ n ≤ x
        · obtain ⟨rfl, hge⟩ := hin
          have hb2 : out.length + 1 ≤ 68719476735 := by simp at ho; omega
          by_cases he : x = n
          · conv => arg 9; arg 4; unfold b65_0
            simp [hl2, hw, append_rowI, hb1, hx, hge, he]
            refine .next (i + 1, true, out ++ [n]) (by omega) (by simp) rfl ⟨hl2, by simp at ho ⊢; omega⟩ (by simp; omega) ?_
            simp [hdr, withGo, hge, he]
          · conv => arg 9; arg 4; unfold b65_0
            simp [hl2, hw, append_rowI, ha2, hb1, hb2, hx, hge, he]
            refine .next (i + 1, true, out ++ [n] ++ [x]) (by omega) (by simp) (by simp) ⟨hl2, by simp at ho ⊢; omega⟩ (by simp; omega) ?_
            simp [hdr, withGo, hge, he]
        · by_cases he : x = n
          · cases inn
            · simp at hin
              conv => arg 9; arg 4; unfold b65_0
              simp [hl2, hw, append_rowI, ha2, hb1, hx, hin, he]
              omega
            · conv => arg 9; arg 4; unfold b65_0
              simp [hl2, hw, append_rowI, ha2, hb1, hx, he]
              refine .next (i + 1, true, out) (by omega) (by simp) rfl ⟨hl2, by simp at ho ⊢; omega⟩ (by simp; omega) ?_
              simp [hdr, withGo, he]
          · cases inn
            · simp at hin
              have hin2 : ¬ n ≤ x := by omega
              conv => arg 9; arg 4; unfold b65_0
              simp [hl2, hw, append_rowI, ha2, hb1, hx, hin2, he]
              refine .next (i + 1, false, out ++ [x]) (by omega) (by simp) (by simp) ⟨hl2, by simp at ho ⊢; omega⟩ (by simp; omega) ?_
              simp [hdr, withGo, he, hin2]
            · conv => arg 9; arg 4; unfold b65_0
              simp [hl2, hw, append_rowI, ha2, hb1, hx, he]
              refine .next (i + 1, true, out ++ [x]) (by omega) (by simp) (by simp) ⟨hl2, by simp at ho ⊢; omega⟩ (by simp; omega) ?_
              simp [hdr, withGo, he]
      · obtain rfl : i = l.length := Nat.le_antisymm hi hl2
        simp [b65_0]
        refine .fin _ _ ⟨inn, out, .mk, by split at ho <;> omega, by simp [withGo]⟩) (0, false, []) ⟨Nat.zero_le _, Nat.le_refl _⟩
  obtain ⟨e, t, hrun, inn, out, ⟨rfl, nx, rfl⟩, hout, hr⟩ := hloop
  refine pcl_body code65 ?_
  simp [rowI_nil] at hrun hr
  rw [hr]
  have hre := fun (H : Hp) (h : H (1, 1) = some (rowI (out ++ [n]))) => reify_rowI h 5
  have hre2 := fun (H : Hp) (h : H (1, 1) = some (rowI out)) => reify_rowI h 5
  simp only [List.length_append, List.length_singleton] at hre
  have hb1 : out.length ≤ 68719476735 := by omega
  cases inn
  · simp [hrun, append_rowI, hb1, -datK_some]
    rw [datK_some]
    have h := hre (upd (upd (upd (upd (fun x => none) (0, 1) Obj.vnil) (1, 1) (rowI out)) (nx + 2 + 1 + 1, 0) (.cells [.d (.int .i64 n)])) (1, 1) (rowI (out ++ [n]))) (by simp)
    obtain ⟨x, hx, hx2⟩ := Option.map_eq_some_iff.1 h
    simp only [] at hx2 ⊢
    rw [hx]
    simp [hx2]
  · simp [hrun, -datK_some]
    rw [datK_some]
    obtain ⟨x, hx, hx2⟩ := Option.map_eq_some_iff.1 (hre2 (upd (upd (fun x => none) (0, 1) Obj.vnil) (1, 1) (rowI out)) (by simp))
    rw [hx]
    simp [hx2]
end Go.Proofs.Ytfcedichoigbbaa.Am

/-
  The numbers of a term's variables: what the document's functions compute. No condition.
-/
namespace Go.Proofs.Ytfcedichoigbbaa.Am
open Go Go.Proofs
set_option maxHeartbeats 4000000
set_option linter.unusedSimpArgs false
set_option linter.unusedVariables false

mutual
def Term.varsW : Term → List Int → List Int
  | .mk v fn args, l => varsWL (if fn.toList = [] then withGo v false [] l else l) args
def varsWL (l : List Int) : List Term → List Int
  | [] => l
  | t :: r => varsWL (t.varsW l) r
end
theorem withGo_len (n : Int) : ∀ (l : List Int) (inn : Bool) (out : List Int), (withGo n inn out l).length ≤ out.length + l.length + if inn then 0 else 1
  | [], inn, out => by cases inn <;> simp [withGo]
  | x :: r, inn, out => by
    simp only [withGo]
    split
    · rename_i h
      have := withGo_len n r true (out ++ [n] ++ if x = n then [] else [x])
      rw [h.1]
      refine Nat.le_trans this ?_
      split <;> simp <;> omega
    · have := withGo_len n r inn (out ++ if x = n then [] else [x])
      refine Nat.le_trans this ?_
      split <;> simp <;> omega
theorem varsW_len (t : Term) : ∀ l, (t.varsW l).length ≤ l.length + t.size := by
  refine Term.ind (p := fun t => ∀ l, (t.varsW l).length ≤ l.length + t.size) (fun v fn args ih l => ?_) t
  have hl : ∀ (a : List Term), (∀ x ∈ a, ∀ l, (x.varsW l).length ≤ l.length + x.size) → ∀ l, (varsWL l a).length ≤ l.length + sizeL a := by
    intro a
    induction a with
    | nil => intro _ l; simp [varsWL]
    | cons x r ih2 =>
      intro h l
      have h1 := h x (by simp) l
      have h2 := ih2 (fun z hz => h z (by simp [hz])) (x.varsW l)
      simp only [varsWL, sizeL]; omega
  have h1 := hl args ih (if fn.toList = [] then withGo v false [] l else l)
  have h2 := withGo_len v l false []
  simp only [Term.varsW, Term.size]
  split at h1
  · rename_i hv; rw [if_pos hv]; simp at h2; omega
  · rename_i hv; rw [if_neg hv]; omega
theorem encI_nil : encI [] = [] := rfl
/-- How a row of numbers comes: shared, or as nil. -/
def Fl (l : List Int) (b : Bool) (nl : Option Bool) : Prop := b = false ∨ (l = [] ∧ b = true ∧ nl = some true)
def VarsEnd (v : Int) (fn : ByteArray) (args : List Term) (r : List Int) (e : Ex) (t : St) : Prop :=
  ∃ b' nl', Fl r b' nl' ∧ AtExit 0 [.d (.sl (encI r) r.length b' nl'), .junk, .junk, .ptr (0, 0) 0 3, .osl (1, 1) 0 0 1 0, .d (.int .i64 args.length), .junk, .junk, .junk, .junk, .junk, .junk, .junk, .junk, .junk, .junk, .junk, .junk, .junk, .junk, .junk, .junk, .junk, .junk, .junk, .junk, .junk, .junk] (upd (upd (fun _ => none) (0, 0) (.cells [.d (.int .i64 v), .d (.str fn), .d (.sl (encL args) args.length false none)])) (1, 1) .vnil) e t
theorem vars_ok (t : Term) : t.ok → ∀ l b nl, Fl l b nl → l.length + t.size ≤ 68719476000 → ∃ nl', pcl Cp 43 [.sl (encI l) l.length b nl, .agg t.enc] = some (.sl (encI (t.varsW l)) (t.varsW l).length false nl') := by
  refine Term.ind (p := fun t => t.ok → ∀ l b nl, Fl l b nl → l.length + t.size ≤ 68719476000 → ∃ nl', pcl Cp 43 [.sl (encI l) l.length b nl, .agg t.enc] = some (.sl (encI (t.varsW l)) (t.varsW l).length false nl')) (fun v fn args ih h l b nl hfl hsz => ?_) t
  have hn := h.1
  have hloop := fun (k : Nat) (hk : 2 ≤ k) (l : List Int) (b : Bool) (nl : Option Bool) (hfl : Fl l b nl) (hs : l.length + sizeL args ≤ 68719476000) =>
    loop_rule (P := Try.prog) (pol := plc) (c := b43_0) (m := ⟨[true, false, false, true, true, true, false, false, false, false, false, false, false, false, false, false, false, false, false, false, false, false, false, false, false, false, false, true], some k⟩)
      (b := k) (tm := fun (s : Nat × List Int × Bool × Option Bool) => [.d (.sl (encI s.2.1) s.2.1.length s.2.2.1 s.2.2.2), .junk, .junk, .ptr (0, 0) 0 3, .osl (1, 1) 0 0 1 0, .d (.int .i64 s.1), .junk, .junk, .junk, .junk, .junk, .junk, .junk, .junk, .junk, .junk, .junk, .junk, .junk, .junk, .junk, .junk, .junk, .junk, .junk, .junk, .junk, .junk])
      (Hf := fun _ => upd (upd (fun x => none) (0, 0) (.cells [.d (.int .i64 v), .d (.str fn), .d (.sl (encL args) args.length false none)])) (1, 1) .vnil)
      (I := fun s => s.1 ≤ args.length ∧ Fl s.2.1 s.2.2.1 s.2.2.2 ∧ s.2.1.length + sizeL (args.drop s.1) ≤ 68719476000) (μ := fun s => args.length - s.1) (res := fun s => varsWL s.2.1 (args.drop s.1))
      (R := VarsEnd v fn args)
      (fun s nx hi => by
        obtain ⟨i, l, b, nl⟩ := s
        obtain ⟨hi, hfl, hs⟩ := hi
        simp only at hi hfl hs ⊢
        rcases Nat.lt_or_ge i args.length with hl2 | hl2
        · obtain ⟨v', fn', args', a⟩ := at_ok hn hl2
          rw [a.dr] at hs
          simp only [sizeL] at hs
          obtain ⟨nl', hc⟩ := ih _ a.mem (okL_mem h.2 _ a.mem) l b nl hfl (by omega)
          simp [Term.enc] at hc
          have hlen := varsW_len (.mk v' fn' args') l
          conv => arg 9; arg 4; unfold b43_0
          have hk0 : 0 < k := by omega
          have hk1 : 1 < k := by omega
          simp [a.lti, a.sz, a.ltm, a.cells, a.le3, plc_raw, a.w, hc, hk0, hk1]
          refine .next (i + 1, (Term.mk v' fn' args').varsW l, false, nl') (by omega) (by simp) rfl ⟨hl2, .inl rfl, by simp only; omega⟩ (by simp; omega) ?_
          simp only [a.dr, varsWL]
        · obtain rfl : i = args.length := Nat.le_antisymm hi hl2
          have hk0 : 0 < k := by omega
          have hk1 : 1 < k := by omega
          simp [b43_0, hk0, hk1]
          refine .fin _ _ ⟨b, nl, ?_, ?_⟩
          · simpa [varsWL] using hfl
          · simp only [List.drop_length, varsWL]; exact .mk) (0, l, b, nl) ⟨Nat.zero_le _, hfl, by simpa using hs⟩
  simp only [Term.size] at hsz
  by_cases hv : fn.toList = []
  · have hwith := with_ok l (by omega) b nl v
    have hwl := withGo_len v l false []
    simp at hwl
    generalize hl2 : withGo v false [] l = l2 at hwith hwl
    obtain ⟨e, t, hrun, hend⟩ := hloop 11 (by omega) l2 false (some (decide (l2 = []))) (.inl rfl) (by omega)
    simp only [List.drop_zero] at hend
    simp only [Term.varsW, hv, hl2, if_true]
    generalize varsWL l2 args = r at hend ⊢
    obtain ⟨b', nl', hfl2, rfl, nx, rfl⟩ := hend
    simp at hrun hwith
    rcases hfl2 with rfl | ⟨rfl, rfl, rfl⟩
    · refine ⟨nl', pcl_body code43 ?_⟩
      simp [plc_raw, Term.enc, hv, hwith, hrun]
    · refine ⟨some true, pcl_body code43 ?_⟩
      simp [encI_nil] at hrun
      simp [plc_raw, Term.enc, hv, hwith, hrun, encI_nil]
  · obtain ⟨e, t, hrun, hend⟩ := hloop 6 (by omega) l b nl hfl (by omega)
    simp only [List.drop_zero] at hend
    simp only [Term.varsW, hv, if_false]
    generalize varsWL l args = r at hend ⊢
    obtain ⟨b', nl', hfl2, rfl, nx, rfl⟩ := hend
    simp at hrun
    rcases hfl2 with rfl | ⟨rfl, rfl, rfl⟩
    · refine ⟨nl', pcl_body code43 ?_⟩
      simp [plc_raw, Term.enc, hv, hrun]
    · refine ⟨some true, pcl_body code43 ?_⟩
      simp [encI_nil] at hrun
      simp [plc_raw, Term.enc, hv, hrun, encI_nil]
theorem rVars_ok (t : Term) (h : t.ok) (hs : t.size ≤ 68719476000) : ∃ nl', pcl Cp 25 [.agg t.enc] = some (.sl (encI (t.varsW [])) (t.varsW []).length false nl') := by
  obtain ⟨nl', hc⟩ := vars_ok t h [] true (some true) (.inr ⟨rfl, rfl, rfl⟩) (by simpa using hs)
  refine ⟨nl', pcl_body code25 ?_⟩
  generalize t.varsW [] = r at hc ⊢
  obtain ⟨v, fn, args⟩ := t
  simp [Term.enc, encI_nil] at hc ⊢
  simp [plc_raw, hc, encI_nil]
end Go.Proofs.Ytfcedichoigbbaa.Am

/-
  The document's order of Knuth and Bendix: weights, counts, symbols. No condition.
-/
namespace Go.Proofs.Ytfcedichoigbbaa.Am
open Go Go.Proofs
set_option maxHeartbeats 4000000
set_option linter.unusedSimpArgs false
set_option linter.unusedVariables false

def RwEnd (g : Sg) (v : Int) (fn : ByteArray) (args : List Term) (r : Int) (e : Ex) (t : St) : Prop :=
  AtExit 0 [.junk, .junk, .ptr (0, 0) 0 2, .ptr (1, 0) 0 3, .d (.int .i64 0), .d (.int .i64 r), .junk, .d (.int .i64 args.length), .junk, .junk, .junk, .junk, .junk, .junk, .junk, .junk, .junk, .junk, .junk, .junk, .junk, .junk, .junk, .junk, .junk, .junk, .junk, .junk, .junk, .junk, .junk, .junk, .junk, .junk, .junk, .junk, .junk, .junk, .junk, .junk, .junk, .junk, .junk, .junk, .junk, .junk, .junk, .junk, .junk, .junk, .junk, .junk, .junk, .junk, .junk, .junk, .junk, .junk, .junk, .junk, .junk, .junk, .junk, .junk] (upd (upd (fun _ => none) (0, 0) (.cells [.d (.sl (encS g.names) g.names.length false none), .d (.sl (encI g.weights) g.weights.length false none)])) (1, 0) (.cells [.d (.int .i64 v), .d (.str fn), .d (.sl (encL args) args.length false none)])) e t
theorem sizeL_drop {a : List Term} {i : Nat} {v : Int} {fn : ByteArray} {args : List Term} (h : At a i v fn args) : sizeL (a.drop i) = (Term.mk v fn args).size + sizeL (a.drop (i + 1)) := by rw [h.dr]; rfl
theorem rweight_ok (g : Sg) (hg : g.ok) (t : Term) : t.ok → t.size ≤ 1048576 → pcl Cp 48 [.agg g.enc, .agg t.enc] = some (.int .i64 (t.wt g)) := by
  refine Term.ind (p := fun t => t.ok → t.size ≤ 1048576 → pcl Cp 48 [.agg g.enc, .agg t.enc] = some (.int .i64 (t.wt g))) (fun v fn args ih h hsz => ?_) t
  have hn := h.1
  simp only [Term.size] at hsz
  have hloop := fun (k : Nat) (hk : 2 ≤ k) (acc : Int) (h0 : 0 ≤ acc) (h1 : acc ≤ 1000) =>
    loop_rule (P := Try.prog) (pol := plc) (c := b48_0) (m := ⟨[false, false, true, true, true, true, false, true, false, false, false, false, false, false, false, false, false, false, false, false, false, false, false, false, false, false, false, false, false, false, false, false, false, false, false, false, false, false, false, false, false, false, false, false, false, false, false, false, false, false, false, false, false, false, false, false, false, false, false, false, false, false, false, true], some k⟩)
      (b := k) (tm := fun (s : Nat × Int) => [.junk, .junk, .ptr (0, 0) 0 2, .ptr (1, 0) 0 3, .d (.int .i64 0), .d (.int .i64 s.2), .junk, .d (.int .i64 s.1), .junk, .junk, .junk, .junk, .junk, .junk, .junk, .junk, .junk, .junk, .junk, .junk, .junk, .junk, .junk, .junk, .junk, .junk, .junk, .junk, .junk, .junk, .junk, .junk, .junk, .junk, .junk, .junk, .junk, .junk, .junk, .junk, .junk, .junk, .junk, .junk, .junk, .junk, .junk, .junk, .junk, .junk, .junk, .junk, .junk, .junk, .junk, .junk, .junk, .junk, .junk, .junk, .junk, .junk, .junk, .junk])
      (Hf := fun _ => upd (upd (fun x => none) (0, 0) (.cells [.d (.sl (encS g.names) g.names.length false none), .d (.sl (encI g.weights) g.weights.length false none)])) (1, 0) (.cells [.d (.int .i64 v), .d (.str fn), .d (.sl (encL args) args.length false none)]))
      (I := fun s => s.1 ≤ args.length ∧ 0 ≤ s.2 ∧ s.2 + 1000 * sizeL (args.drop s.1) ≤ 4000000000) (μ := fun s => args.length - s.1) (res := fun s => s.2 + wtL g (args.drop s.1))
      (R := RwEnd g v fn args)
      (fun s nx hi => by
        obtain ⟨i, acc⟩ := s
        obtain ⟨hi, h0, hs⟩ := hi
        simp only at hi h0 hs ⊢
        have hk0 : 0 < k := by omega
        have hk1 : 1 < k := by omega
        rcases Nat.lt_or_ge i args.length with hl2 | hl2
        · obtain ⟨v', fn', args', a⟩ := at_ok hn hl2
          rw [sizeL_drop a] at hs
          have hm := sizeL_mem a.mem
          have hc := ih _ a.mem (okL_mem h.2 _ a.mem) (by omega)
          have hw := wt_range g (.mk v' fn' args')
          have hwr : IntKind.i64.wrap (acc + (Term.mk v' fn' args').wt g) = acc + (Term.mk v' fn' args').wt g := wrap_small (by omega) (by omega)
          simp [Term.enc, Sg.enc] at hc
          conv => arg 9; arg 4; unfold b48_0
          simp [a.lti, a.sz, a.ltm, a.cells, a.le3, plc_raw, a.w, hc, hk0, hk1, hwr]
          refine .next (i + 1, acc + (Term.mk v' fn' args').wt g) (by omega) (by simp) rfl ⟨hl2, by simp only; omega, by simp only; omega⟩ (by simp; omega) ?_
          simp only [a.dr, wtL]; omega
        · obtain rfl : i = args.length := Nat.le_antisymm hi hl2
          simp [b48_0, hk0, hk1]
          refine .fin _ _ ?_
          simp only [List.drop_length, wtL, Int.add_zero]
          exact .mk) (0, acc) ⟨Nat.zero_le _, h0, by simp; omega⟩
  have hat := rat_ok g.names g.weights hg.1 fn
  have hr := of_range g fn
  have hfin := fun (k : Nat) (hk : 2 ≤ k) (acc : Int) (he : g.of fn = acc) => hloop k hk acc (by omega) (by omega)
  clear hloop ih
  refine pcl_body code48 ?_
  simp only [Term.wt]
  have h1 : g.of fn = 1 → datK (finK Try.prog [.tmp 4] (exec Try.prog plc (acall Try.prog plc) (aloop Try.prog plc) (.seq .skip .skip) ⟨[], fun _ => none, 0⟩)) = none → True := fun _ _ => trivial
  clear h1
  rcases idxS_lt (ns := g.names) (s := fn) with hi | ⟨k, hi, hk⟩
  · have hg1 : g.of fn = 1 := by simp [Sg.of, hi]
    obtain ⟨e, t, hrun, rfl, nx, rfl⟩ := hfin 40 (by omega) 1 hg1
    simp at hrun
    rw [hi] at hat
    by_cases hv : fn.toList = [] <;> simp [Term.enc, Sg.enc, plc_raw, hat, hv, hrun, hg1]
  · rw [hi] at hat
    by_cases hv : fn.toList = []
    · have hg1 : g.of fn = 1 := by simp [Sg.of, hv]
      obtain ⟨e, t, hrun, rfl, nx, rfl⟩ := hfin 40 (by omega) 1 hg1
      simp at hrun
      simp [Term.enc, Sg.enc, plc_raw, hat, hv, hrun, hg1]
    · by_cases hw : k < g.weights.length
      · have hw2 : (k : Int) < g.weights.length := by omega
        by_cases hlo : g.weights[k] < 1
        · have hg1 : g.of fn = 1 := by simp [Sg.of, hi, hw, hlo]
          obtain ⟨e, t, hrun, rfl, nx, rfl⟩ := hfin 40 (by omega) 1 hg1
          simp at hrun
          have hlo2 : ¬ 1 ≤ g.weights[k] := by omega
          simp [Term.enc, Sg.enc, plc_raw, hat, hv, hrun, hg1, hw, hw2, hlo2]
        · by_cases hhi : 1000 < g.weights[k]
          · have hg1 : g.of fn = 1 := by simp [Sg.of, hi, hw, hlo, hhi]
            obtain ⟨e, t, hrun, rfl, nx, rfl⟩ := hfin 40 (by omega) 1 hg1
            simp at hrun
            have hlo2 : 1 ≤ g.weights[k] := by omega
            have hhi2 : ¬ g.weights[k] ≤ 1000 := by omega
            simp [Term.enc, Sg.enc, plc_raw, hat, hv, hrun, hg1, hw, hw2, hlo2, hhi2]
          · have hg1 : g.of fn = g.weights[k] := by
              have : ¬ ((g.weights.length : Int) ≤ k) := by omega
              have : ¬ g.weights.length ≤ k := by omega
              have : ¬ (k : Int) < 0 := by omega
              simp [Sg.of, hi, hv, hw, hlo, hhi, *]
            obtain ⟨e, t, hrun, rfl, nx, rfl⟩ := hfin 46 (by omega) _ hg1
            simp at hrun
            have hlo2 : 1 ≤ g.weights[k] := by omega
            have hhi2 : g.weights[k] ≤ 1000 := by omega
            simp [Term.enc, Sg.enc, plc_raw, hat, hv, hrun, hg1, hw, hw2, hlo2, hhi2]
      · have hw2 : ¬ (k : Int) < g.weights.length := by omega
        have hg1 : g.of fn = 1 := by
          have : (g.weights.length : Int) ≤ k := by omega
          simp [Sg.of, hi, this]
        obtain ⟨e, t, hrun, rfl, nx, rfl⟩ := hfin 40 (by omega) 1 hg1
        simp at hrun
        simp [Term.enc, Sg.enc, plc_raw, hat, hv, hrun, hg1, hw, hw2]
def RcEnd (x v : Int) (fn : ByteArray) (args : List Term) (r : Int) (e : Ex) (t : St) : Prop :=
  AtExit 0 [.junk, .d (.int .i64 x), .ptr (0, 0) 0 3, .junk, .d (.int .i64 0), .d (.int .i64 r), .d (.int .i64 args.length), .junk, .junk, .junk, .junk, .junk, .junk, .junk, .junk, .junk, .junk, .junk, .junk, .junk, .junk, .junk, .junk, .junk, .junk, .junk, .junk, .junk, .junk, .junk, .junk, .junk, .junk] (upd (fun _ => none) (0, 0) (.cells [.d (.int .i64 v), .d (.str fn), .d (.sl (encL args) args.length false none)])) e t
theorem occL_drop {a : List Term} {i : Nat} {v : Int} {fn : ByteArray} {args : List Term} (h : At a i v fn args) : occL (a.drop i) = (Term.mk v fn args).occ ++ occL (a.drop (i + 1)) := by rw [h.dr]; rfl
theorem occL_len : ∀ (a : List Term), (occL a).length ≤ sizeL a
  | [] => by simp [occL, sizeL]
  | x :: r => by
    have h1 := occ_len x
    have h2 := occL_len r
    simp only [occL, sizeL, List.length_append]; omega
theorem rcount_ok (x : Int) (t : Term) : t.ok → t.size ≤ 1048576 → pcl Cp 68 [.agg t.enc, .int .i64 x] = some (.int .i64 (t.occ.count x)) := by
  refine Term.ind (p := fun t => t.ok → t.size ≤ 1048576 → pcl Cp 68 [.agg t.enc, .int .i64 x] = some (.int .i64 (t.occ.count x))) (fun v fn args ih h hsz => ?_) t
  have hn := h.1
  simp only [Term.size] at hsz
  have hloop := fun (k : Nat) (hk : 2 ≤ k) (acc : Nat) (h1 : acc ≤ 1) =>
    loop_rule (P := Try.prog) (pol := plc) (c := b68_0) (m := ⟨[false, true, true, false, true, true, true, false, false, false, false, false, false, false, false, false, false, false, false, false, false, false, false, false, false, false, false, false, false, false, false, false, true], some k⟩)
      (b := k) (tm := fun (s : Nat × Nat) => [.junk, .d (.int .i64 x), .ptr (0, 0) 0 3, .junk, .d (.int .i64 0), .d (.int .i64 s.2), .d (.int .i64 s.1), .junk, .junk, .junk, .junk, .junk, .junk, .junk, .junk, .junk, .junk, .junk, .junk, .junk, .junk, .junk, .junk, .junk, .junk, .junk, .junk, .junk, .junk, .junk, .junk, .junk, .junk])
      (Hf := fun _ => upd (fun x => none) (0, 0) (.cells [.d (.int .i64 v), .d (.str fn), .d (.sl (encL args) args.length false none)]))
      (I := fun s => s.1 ≤ args.length ∧ s.2 + sizeL (args.drop s.1) ≤ 4000000000) (μ := fun s => args.length - s.1) (res := fun s => ((s.2 + (occL (args.drop s.1)).count x : Nat) : Int))
      (R := RcEnd x v fn args)
      (fun s nx hi => by
        obtain ⟨i, acc⟩ := s
        obtain ⟨hi, hs⟩ := hi
        simp only at hi hs ⊢
        have hk0 : 0 < k := by omega
        have hk1 : 1 < k := by omega
        rcases Nat.lt_or_ge i args.length with hl2 | hl2
        · obtain ⟨v', fn', args', a⟩ := at_ok hn hl2
          rw [sizeL_drop a] at hs
          have hm := sizeL_mem a.mem
          have hc := ih _ a.mem (okL_mem h.2 _ a.mem) (by omega)
          have hw : (Term.mk v' fn' args').occ.count x ≤ (Term.mk v' fn' args').size := Nat.le_trans List.count_le_length (occ_len _)
          have hwr : IntKind.i64.wrap ((acc : Int) + ((Term.mk v' fn' args').occ.count x : Int)) = ((acc + (Term.mk v' fn' args').occ.count x : Nat) : Int) := by rw [wrap_small (by omega) (by omega)]; omega
          generalize hcc : (Term.mk v' fn' args').occ.count x = cc at hc hw hwr
          simp [Term.enc, Sg.enc] at hc
          conv => arg 9; arg 4; unfold b68_0
          simp only [Int.natCast_add] at hwr
          simp [a.lti, a.sz, a.ltm, a.cells, a.le3, plc_raw, a.w, hc, hk0, hk1, hwr]
          refine .next (i + 1, acc + cc) (by omega) (by simp) rfl ⟨hl2, by simp only; omega⟩ (by simp; omega) ?_
          simp only [occL_drop a, List.count_append, hcc]; omega
        · obtain rfl : i = args.length := Nat.le_antisymm hi hl2
          simp [b68_0, hk0, hk1]
          refine .fin _ _ ?_
          simp only [List.drop_length, occL, List.count_nil, Nat.add_zero]
          exact .mk) (0, acc) ⟨Nat.zero_le _, by simp; omega⟩
  refine pcl_body code68 ?_
  clear ih
  by_cases hv : fn.toList = []
  · by_cases hx : v = x
    · subst hx
      obtain ⟨e, t, hrun, rfl, nx, rfl⟩ := hloop 14 (by omega) 1 (by omega)
      simp at hrun
      simp [Term.enc, plc_raw, hv, hrun, Term.occ]
      omega
    · obtain ⟨e, t, hrun, rfl, nx, rfl⟩ := hloop 13 (by omega) 0 (by omega)
      simp at hrun
      have hc : ([v] : List Int).count x = 0 := List.count_eq_zero.2 (by simpa using fun e => hx e.symm)
      simp [Term.enc, plc_raw, hv, hrun, Term.occ, hx]
  · obtain ⟨e, t, hrun, rfl, nx, rfl⟩ := hloop 13 (by omega) 0 (by omega)
    simp at hrun
    simp [Term.enc, plc_raw, hv, hrun, Term.occ]
/-- Is a symbol above? -/
def Sg.symR (g : Sg) (f1 f2 : ByteArray) (n1 n2 : Nat) : Bool := if f1.toList = f2.toList then decide (n2 < n1) else g.aboveR f1 f2
theorem rsymbol_ok (g : Sg) (hg : g.ok) (v1 : Int) (f1 : ByteArray) (a1 : List Term) (v2 : Int) (f2 : ByteArray) (a2 : List Term) :
    pcl Cp 69 [.agg g.enc, .agg (Term.mk v1 f1 a1).enc, .agg (Term.mk v2 f2 a2).enc] = some (.bool (g.symR f1 f2 a1.length a2.length)) := by
  have hab := rabove_ok g hg f1 f2
  refine pcl_body code69 ?_
  unfold Sg.symR
  simp [Sg.enc] at hab
  by_cases hf : f1.toList = f2.toList
  · simp [Term.enc, Sg.enc, plc_raw, hf]
  · simp [Term.enc, Sg.enc, plc_raw, hf, hab]
end Go.Proofs.Ytfcedichoigbbaa.Am

/-
  The document's path order: what is told of two parts, with a table of those ahead of them. No condition.
-/
namespace Go.Proofs.Ytfcedichoigbbaa.Am
open Go Go.Proofs
set_option maxHeartbeats 4000000
set_option maxRecDepth 20000
set_option linter.unusedSimpArgs false
set_option linter.unusedVariables false

/-- A cell of a row. -/
structure Cell (cs : List D) (i : Nat) (x : D) : Prop where
  get : cs[i]? = some x
  lt : i < cs.length
  e : ∀ h : i < cs.length, cs[i]'h = x
  tk : (cs.drop i).take 1 = [x]
  le : 1 ≤ cs.length - i
  lti : (i : Int) < (cs.length : Int)
  np : ¬ cs.length ≤ i
theorem cell_ok {cs : List D} {i : Nat} {x : D} (h : cs[i]? = some x) : Cell cs i x := by
  have h1 := (List.getElem?_eq_some_iff.1 h)
  refine ⟨h, h1.1, fun _ => h1.2, ?_, by have := h1.1; omega, by have := h1.1; omega, by have := h1.1; omega⟩
  rw [List.drop_eq_getElem_cons h1.1, h1.2]; rfl
theorem encO_len (l : List (List Int)) : (encO l).length = l.length := by simp [encO]
theorem encO_at {l : List (List Int)} {i : Nat} {x : List Int} (h : l[i]? = some x) : Cell (encO l) i (.sl (encI x) x.length false (some (decide (x = [])))) := cell_ok (by simp [encO, h])
theorem encI_at {l : List Int} {i : Nat} {x : Int} (h : l[i]? = some x) : Cell (encI l) i (.int .i64 x) := cell_ok (by simp [encI, h])
theorem encI_len' (l : List Int) : (encI l).length = l.length := by simp [encI]
abbrev partsD (s : Laid) : D := .dptr [.sl (encL s.1) s.1.length false (some false), .sl (encO s.2) s.2.length false (some false)]
abbrev tabD (tab : List D) (n : Nat) : D := .sl tab n false (some false)
abbrev oneH (g : Sg) (v1 : Int) (f1 : ByteArray) (a1 : List Term) (v2 : Int) (f2 : ByteArray) (a2 : List Term) : Hp :=
  upd (upd (upd (upd (upd (upd (upd (fun _ => none) (0, 0) (.cells [.d (.sl (encS g.names) g.names.length false none), .d (.sl (encI g.weights) g.weights.length false none)]))
    (16, 3) .vnil) (16, 0) (.cells [.d (.int .i64 0), .d (.str (ByteArray.mk #[])), .osl (16, 3) 0 0 1 0])) (17, 3) .vnil) (17, 0) (.cells [.d (.int .i64 0), .d (.str (ByteArray.mk #[])), .osl (17, 3) 0 0 1 0]))
    (16, 0) (.cells [.d (.int .i64 v1), .d (.str f1), .d (.sl (encL a1) a1.length false none)])) (17, 0) (.cells [.d (.int .i64 v2), .d (.str f2), .d (.sl (encL a2) a2.length false none)])
def AtExitN (b j : Nat) (tm : List AV) (H : Hp) (e : Ex) (st : St) : Prop := e = .exit j ∧ ∃ nx, b ≤ nx ∧ st = ⟨tm, H, nx⟩
noncomputable section
open Classical
def lpoB (g : Sg) (x y : Term) : Bool := decide (Lpo g x y)
/-- What the table tells of the parts ahead. -/
def Tab (g : Sg) (s r : Laid) (tab : List D) (i k : Nat) : Prop := tab.length = s.1.length ∧ ∀ (a c : Nat) x y, s.1[a]? = some x → r.1[c]? = some y → (a < i ∨ a = i ∧ c < k) → ∃ cs, tab[a]? = some (.sl cs r.1.length false (some false)) ∧ cs.length = r.1.length ∧ cs[c]? = some (.bool (lpoB g x y))
def oneT (g : Sg) (s r : Laid) (tab : List D) (i k : Nat) (j : Int) : List AV := [.junk, .d (partsD s), .d (partsD r), .d (tabD tab s.1.length), .d (.int .i64 i), .d (.int .i64 k), .ptr (0, 0) 0 2, .junk, .junk, .junk, .junk, .junk, .d (.bool false), .ptr (16, 0) 0 3, .ptr (17, 0) 0 3, .d (.int .i64 j), .junk, .junk, .junk, .junk, .junk, .junk, .junk, .junk, .junk, .junk, .junk, .junk, .junk, .junk, .junk, .junk, .junk, .junk, .junk, .junk, .junk, .junk, .junk, .junk, .junk, .junk, .junk, .junk, .junk, .junk, .junk, .junk, .junk, .junk, .junk, .junk, .junk, .junk, .junk, .junk, .junk, .junk, .junk, .junk, .junk, .junk, .junk, .junk, .junk, .junk, .junk, .junk, .junk, .junk, .junk, .junk, .junk, .junk, .junk, .junk, .junk, .junk, .junk, .junk, .junk, .junk, .junk, .junk, .junk, .junk, .junk, .junk, .junk, .junk, .junk, .junk, .junk, .junk, .junk, .junk, .junk, .junk, .junk, .junk, .junk, .junk, .junk, .junk, .junk, .junk, .junk, .junk, .junk, .junk, .junk, .junk, .junk, .junk, .junk, .junk, .junk, .junk, .junk, .junk, .junk, .junk, .junk, .junk, .junk, .junk, .junk, .junk, .junk, .junk, .junk, .junk, .junk, .junk, .junk, .junk, .junk, .junk, .junk, .junk, .junk, .junk, .junk, .junk, .junk, .junk, .junk, .junk, .junk, .junk, .junk, .junk, .junk, .junk, .junk, .junk, .junk, .junk, .junk, .junk, .junk, .junk, .junk, .junk, .junk, .junk, .junk, .junk, .junk, .junk]
def under (g : Sg) (a1 : List Term) (t : Term) : Bool := decide (∃ x ∈ a1, x = t ∨ Lpo g x t)
def OneEnd1 (g : Sg) (s r : Laid) (tab : List D) (i k n : Nat) (H : Hp) (b : Bool) (e : Ex) (t : St) : Prop :=
  if b then e = .ret ∧ t.tm[12]? = some (.d (.bool true)) else AtExitN 24 0 [.junk, .d (partsD s), .d (partsD r), .d (tabD tab s.1.length), .d (.int .i64 i), .d (.int .i64 k), .ptr (0, 0) 0 2, .junk, .junk, .junk, .junk, .junk, .d (.bool false), .ptr (16, 0) 0 3, .ptr (17, 0) 0 3, .d (.int .i64 n), .junk, .junk, .junk, .junk, .junk, .junk, .junk, .junk, .junk, .junk, .junk, .junk, .junk, .junk, .junk, .junk, .junk, .junk, .junk, .junk, .junk, .junk, .junk, .junk, .junk, .junk, .junk, .junk, .junk, .junk, .junk, .junk, .junk, .junk, .junk, .junk, .junk, .junk, .junk, .junk, .junk, .junk, .junk, .junk, .junk, .junk, .junk, .junk, .junk, .junk, .junk, .junk, .junk, .junk, .junk, .junk, .junk, .junk, .junk, .junk, .junk, .junk, .junk, .junk, .junk, .junk, .junk, .junk, .junk, .junk, .junk, .junk, .junk, .junk, .junk, .junk, .junk, .junk, .junk, .junk, .junk, .junk, .junk, .junk, .junk, .junk, .junk, .junk, .junk, .junk, .junk, .junk, .junk, .junk, .junk, .junk, .junk, .junk, .junk, .junk, .junk, .junk, .junk, .junk, .junk, .junk, .junk, .junk, .junk, .junk, .junk, .junk, .junk, .junk, .junk, .junk, .junk, .junk, .junk, .junk, .junk, .junk, .junk, .junk, .junk, .junk, .junk, .junk, .junk, .junk, .junk, .junk, .junk, .junk, .junk, .junk, .junk, .junk, .junk, .junk, .junk, .junk, .junk, .junk, .junk, .junk, .junk, .junk, .junk, .junk, .junk, .junk, .junk, .junk] H e t
theorem one_loop1 (g : Sg) (s r : Laid) (tab : List D) (i k : Nat) (v1 : Int) (f1 : ByteArray) (a1 : List Term) (v2 : Int) (f2 : ByteArray) (a2 : List Term) (hs : LOk s) (hi : s.1[i]? = some (.mk v1 f1 a1)) (hk : r.1[k]? = some (.mk v2 f2 a2)) (hsz : s.1.length ≤ 9223372036854775807) (hlen : a1.length ≤ 9223372036854775807) (ha1 : okL a1) (ht : (Term.mk v2 f2 a2).ok) (hT : Tab g s r tab i k) :
    ∃ e t, aloop Try.prog plc b63_2 ⟨[false, true, true, true, true, true, true, false, false, false, false, false, true, true, true, true, false, true, true, false, false, false, false, false, false, false, false, false, false, false, false, false, false, false, false, false, false, false, false, false, false, false, false, false, false, false, false, false, false, false, false, false, false, false, false, false, false, false, false, false, false, false, false, false, false, false, false, false, false, false, false, false, false, false, false, false, true, true, true, true, true, true, true, true, true, true, true, true, true, true, true, true, true, true, true, true, true, true, true, true, true, true, true, true, true, true, true, true, true, true, true, true, true, true, true, true, true, true, true, true, true, true, true, true, true, true, true, true, true, true, true, true, true, true, true, true, true, true, true, true, true, true, true, true, true, true, true, true, true, true, true, true, true, true, true, true, true, true, true, true, true, true, true, true, true, true, true, true, true, true], some 24⟩ ⟨[.junk, .d (partsD s), .d (partsD r), .d (tabD tab s.1.length), .d (.int .i64 i), .d (.int .i64 k), .ptr (0, 0) 0 2, .junk, .junk, .junk, .junk, .junk, .d (.bool false), .ptr (16, 0) 0 3, .ptr (17, 0) 0 3, .d (.int .i64 0), .junk, .junk, .junk, .junk, .junk, .junk, .junk, .junk, .junk, .junk, .junk, .junk, .junk, .junk, .junk, .junk, .junk, .junk, .junk, .junk, .junk, .junk, .junk, .junk, .junk, .junk, .junk, .junk, .junk, .junk, .junk, .junk, .junk, .junk, .junk, .junk, .junk, .junk, .junk, .junk, .junk, .junk, .junk, .junk, .junk, .junk, .junk, .junk, .junk, .junk, .junk, .junk, .junk, .junk, .junk, .junk, .junk, .junk, .junk, .junk, .junk, .junk, .junk, .junk, .junk, .junk, .junk, .junk, .junk, .junk, .junk, .junk, .junk, .junk, .junk, .junk, .junk, .junk, .junk, .junk, .junk, .junk, .junk, .junk, .junk, .junk, .junk, .junk, .junk, .junk, .junk, .junk, .junk, .junk, .junk, .junk, .junk, .junk, .junk, .junk, .junk, .junk, .junk, .junk, .junk, .junk, .junk, .junk, .junk, .junk, .junk, .junk, .junk, .junk, .junk, .junk, .junk, .junk, .junk, .junk, .junk, .junk, .junk, .junk, .junk, .junk, .junk, .junk, .junk, .junk, .junk, .junk, .junk, .junk, .junk, .junk, .junk, .junk, .junk, .junk, .junk, .junk, .junk, .junk, .junk, .junk, .junk, .junk, .junk, .junk, .junk, .junk, .junk, .junk], oneH g v1 f1 a1 v2 f2 a2, 24⟩ = some (e, t) ∧ OneEnd1 g s r tab i k a1.length (oneH g v1 f1 a1 v2 f2 a2) (under g a1 (.mk v2 f2 a2)) e t := by
  obtain ⟨ns, hO, hnl, hns⟩ := hs.own i v1 f1 a1 hi
  have hkl := (List.getElem?_eq_some_iff.1 hk).1
  have key := loop_rule (P := Try.prog) (pol := plc) (c := b63_2) (m := ⟨[false, true, true, true, true, true, true, false, false, false, false, false, true, true, true, true, false, true, true, false, false, false, false, false, false, false, false, false, false, false, false, false, false, false, false, false, false, false, false, false, false, false, false, false, false, false, false, false, false, false, false, false, false, false, false, false, false, false, false, false, false, false, false, false, false, false, false, false, false, false, false, false, false, false, false, false, true, true, true, true, true, true, true, true, true, true, true, true, true, true, true, true, true, true, true, true, true, true, true, true, true, true, true, true, true, true, true, true, true, true, true, true, true, true, true, true, true, true, true, true, true, true, true, true, true, true, true, true, true, true, true, true, true, true, true, true, true, true, true, true, true, true, true, true, true, true, true, true, true, true, true, true, true, true, true, true, true, true, true, true, true, true, true, true, true, true, true, true, true, true], some 24⟩)
    (b := 24) (tm := fun (j : Nat) => [.junk, .d (partsD s), .d (partsD r), .d (tabD tab s.1.length), .d (.int .i64 i), .d (.int .i64 k), .ptr (0, 0) 0 2, .junk, .junk, .junk, .junk, .junk, .d (.bool false), .ptr (16, 0) 0 3, .ptr (17, 0) 0 3, .d (.int .i64 j), .junk, .junk, .junk, .junk, .junk, .junk, .junk, .junk, .junk, .junk, .junk, .junk, .junk, .junk, .junk, .junk, .junk, .junk, .junk, .junk, .junk, .junk, .junk, .junk, .junk, .junk, .junk, .junk, .junk, .junk, .junk, .junk, .junk, .junk, .junk, .junk, .junk, .junk, .junk, .junk, .junk, .junk, .junk, .junk, .junk, .junk, .junk, .junk, .junk, .junk, .junk, .junk, .junk, .junk, .junk, .junk, .junk, .junk, .junk, .junk, .junk, .junk, .junk, .junk, .junk, .junk, .junk, .junk, .junk, .junk, .junk, .junk, .junk, .junk, .junk, .junk, .junk, .junk, .junk, .junk, .junk, .junk, .junk, .junk, .junk, .junk, .junk, .junk, .junk, .junk, .junk, .junk, .junk, .junk, .junk, .junk, .junk, .junk, .junk, .junk, .junk, .junk, .junk, .junk, .junk, .junk, .junk, .junk, .junk, .junk, .junk, .junk, .junk, .junk, .junk, .junk, .junk, .junk, .junk, .junk, .junk, .junk, .junk, .junk, .junk, .junk, .junk, .junk, .junk, .junk, .junk, .junk, .junk, .junk, .junk, .junk, .junk, .junk, .junk, .junk, .junk, .junk, .junk, .junk, .junk, .junk, .junk, .junk, .junk, .junk, .junk, .junk, .junk, .junk]) (Hf := fun _ => oneH g v1 f1 a1 v2 f2 a2)
    (I := fun j => j ≤ a1.length) (μ := fun j => a1.length - j) (res := fun j => under g (a1.drop j) (.mk v2 f2 a2)) (R := OneEnd1 g s r tab i k a1.length (oneH g v1 f1 a1 v2 f2 a2))
    (fun j nx hj => by
      have c1 := encO_at hO
      have q1 := c1.lt
      have q2 := c1.lti
      rw [encO_len] at q1 q2
      rcases Nat.lt_or_ge j a1.length with hl | hl
      · obtain ⟨n, hn2⟩ : ∃ n, ns[j]? = some n := ⟨ns[j]'(by omega), by simp [hnl, hl]⟩
        obtain ⟨m, rfl, hmi, hm⟩ := hns j n hn2
        obtain ⟨v', fn', args', x⟩ := at_ok hlen hl
        rw [List.getElem?_eq_getElem hl, x.get] at hm
        have hml := (List.getElem?_eq_some_iff.1 hm)
        obtain ⟨v'', fn'', args'', y⟩ := at_ok hsz hml.1
        have hyx : Term.mk v'' fn'' args'' = Term.mk v' fn' args' := by rw [← y.get]; exact hml.2
        injection hyx with e1 e2 e3; subst e1; subst e2; subst e3
        have c2 := encI_at hn2
        have hlt : (j : Int) < (a1.length : Int) := by omega
        have hw : IntKind.i64.wrap ((j : Int) + 1) = (j : Int) + 1 := wrap_i64 (by omega) (by omega)
        have hcall := rsame_ok _ (okL_mem ha1 _ x.mem) _ ht
        simp [Term.enc] at hcall
        obtain ⟨cs, t1, t2, t3⟩ := hT.2 m k _ _ hm hk (.inl hmi)
        have d1 := cell_ok t1
        have d2 := cell_ok t3
        have d3 := d1.lt
        rw [hT.1] at d3
        have d4 : (m : Int) < (s.1.length : Int) := by omega
        have d5 : (k : Int) < (r.1.length : Int) := by omega
        have hres : under g (a1.drop j) (.mk v2 f2 a2) = ((Term.mk v'' fn'' args'').sameB (.mk v2 f2 a2) || lpoB g (.mk v'' fn'' args'') (.mk v2 f2 a2) || under g (a1.drop (j + 1)) (.mk v2 f2 a2)) := by
          rw [x.dr]
          have hsb := sameB_eq (.mk v'' fn'' args'') (.mk v2 f2 a2)
          unfold under lpoB
          rw [Bool.eq_iff_iff]
          simp only [decide_eq_true_eq, Bool.or_eq_true, hsb, List.mem_cons, exists_eq_or_imp]
        conv => arg 9; arg 4; unfold b63_2
        cases hb1 : (Term.mk v'' fn'' args'').sameB (.mk v2 f2 a2)
        · rw [hb1] at hcall hres
          cases hb2 : lpoB g (.mk v'' fn'' args'') (.mk v2 f2 a2)
          · simp [plc_raw, c1.get, c1.e, c1.tk, c1.le, encO_len, q1, q2, c2.get, c2.e, c2.tk, c2.le, encI_len', hl, hlt, hnl, y.lti, y.sz, y.ltm, y.cells, y.le3, hcall, d1.get, d1.e, d1.tk, d1.le, d2.get, d2.e, d2.tk, d2.le, hT.1, t2, hml.1, hkl, d4, d5, hw, hb2]
            refine .next (j + 1) (by omega) (by simp) rfl hl (by omega) ?_
            rw [hres, hb2]; rfl
          · simp [plc_raw, c1.get, c1.e, c1.tk, c1.le, encO_len, q1, q2, c2.get, c2.e, c2.tk, c2.le, encI_len', hl, hlt, hnl, y.lti, y.sz, y.ltm, y.cells, y.le3, hcall, d1.get, d1.e, d1.tk, d1.le, d2.get, d2.e, d2.tk, d2.le, hT.1, t2, hml.1, hkl, d4, d5, hw, hb2]
            refine .fin _ _ ?_
            rw [hres, hb2]
            exact ⟨rfl, rfl⟩
        · rw [hb1] at hcall hres
          simp [plc_raw, c1.get, c1.e, c1.tk, c1.le, encO_len, q1, q2, c2.get, c2.e, c2.tk, c2.le, encI_len', hl, hlt, hnl, y.lti, y.sz, y.ltm, y.cells, y.le3, hcall, d1.get, d1.e, d1.tk, d1.le, d2.get, d2.e, d2.tk, d2.le, hT.1, t2, hml.1, hkl, d4, d5, hw]
          refine .fin _ _ ?_
          rw [hres]
          exact ⟨rfl, rfl⟩
      · obtain rfl : j = a1.length := Nat.le_antisymm hj hl
        have hres : under g (a1.drop a1.length) (.mk v2 f2 a2) = false := by simp [under]
        simp [b63_2, plc_raw, c1.get, c1.e, c1.tk, c1.le, encO_len, q1, q2, hnl]
        refine .fin _ _ ?_
        rw [hres]
        exact ⟨rfl, _, by omega, rfl⟩) 0 (Nat.zero_le _)
  exact key
def lpoOver (g : Sg) (x : Term) (a2 : List Term) : Bool := decide (∀ b ∈ a2, Lpo g x b)
abbrev oneT2 (s r : Laid) (tab : List D) (i k : Nat) (n : Nat) : List AV := [.junk, .d (partsD s), .d (partsD r), .d (tabD tab s.1.length), .d (.int .i64 i), .d (.int .i64 k), .ptr (0, 0) 0 2, .junk, .junk, .junk, .junk, .junk, .d (.bool false), .ptr (16, 0) 0 3, .ptr (17, 0) 0 3, .junk, .junk, .d (.int .i64 n), .junk, .junk, .junk, .junk, .junk, .junk, .junk, .junk, .junk, .junk, .junk, .junk, .junk, .junk, .junk, .junk, .junk, .junk, .junk, .junk, .junk, .junk, .junk, .junk, .junk, .junk, .junk, .junk, .junk, .junk, .junk, .junk, .junk, .junk, .junk, .junk, .junk, .junk, .junk, .junk, .junk, .junk, .junk, .junk, .junk, .junk, .junk, .junk, .junk, .junk, .junk, .junk, .junk, .junk, .junk, .junk, .junk, .junk, .junk, .junk, .junk, .junk, .junk, .junk, .junk, .junk, .junk, .junk, .junk, .junk, .junk, .junk, .junk, .junk, .junk, .junk, .junk, .junk, .junk, .junk, .junk, .junk, .junk, .junk, .junk, .junk, .junk, .junk, .junk, .junk, .junk, .junk, .junk, .junk, .junk, .junk, .junk, .junk, .junk, .junk, .junk, .junk, .junk, .junk, .junk, .junk, .junk, .junk, .junk, .junk, .junk, .junk, .junk, .junk, .junk, .junk, .junk, .junk, .junk, .junk, .junk, .junk, .junk, .junk, .junk, .junk, .junk, .junk, .junk, .junk, .junk, .junk, .junk, .junk, .junk, .junk, .junk, .junk, .junk, .junk, .junk, .junk, .junk, .junk, .junk, .junk, .junk, .junk, .junk, .junk, .junk, .junk]
def OneEnd2 (s r : Laid) (tab : List D) (i k n : Nat) (H : Hp) (b : Bool) (e : Ex) (t : St) : Prop :=
  if b then AtExitN 24 2 (oneT2 s r tab i k n) H e t else e = .ret ∧ t.tm[12]? = some (.d (.bool false))
theorem one_loop2 (N : Nat) (hN : 24 ≤ N) (g : Sg) (s r : Laid) (tab : List D) (i k : Nat) (v1 : Int) (f1 : ByteArray) (a1 : List Term) (v2 : Int) (f2 : ByteArray) (a2 : List Term) (hr : LOk r) (hi : s.1[i]? = some (.mk v1 f1 a1)) (hk : r.1[k]? = some (.mk v2 f2 a2)) (hlen : a2.length ≤ 9223372036854775807) (hT : Tab g s r tab i k) :
    ∃ e t, aloop Try.prog plc b63_1 ⟨[false, true, true, true, true, true, true, false, false, false, false, false, true, true, true, false, false, true, true, false, false, false, false, false, false, false, false, false, false, false, false, false, false, false, false, false, false, false, false, false, false, false, false, false, false, false, false, false, false, false, false, false, false, false, false, false, false, false, false, false, false, false, false, false, false, false, false, false, false, false, false, false, false, false, false, false, false, false, false, false, false, false, false, false, false, false, false, false, false, false, false, false, false, false, false, false, false, false, false, false, false, false, false, false, false, false, false, false, true, true, true, true, true, true, true, true, true, true, true, true, true, true, true, true, true, true, true, true, true, true, true, true, true, true, true, true, true, true, true, true, true, true, true, true, true, true, true, true, true, true, true, true, true, true, true, true, true, true, true, true, true, true, true, true, true, true, true, true, true, true], some N⟩ ⟨oneT2 s r tab i k 0, oneH g v1 f1 a1 v2 f2 a2, N⟩ = some (e, t) ∧ OneEnd2 s r tab i k a2.length (oneH g v1 f1 a1 v2 f2 a2) (lpoOver g (.mk v1 f1 a1) a2) e t := by
  obtain ⟨ns, hO, hnl, hns⟩ := hr.own k v2 f2 a2 hk
  have hil := (List.getElem?_eq_some_iff.1 hi).1
  have key := loop_rule (P := Try.prog) (pol := plc) (c := b63_1) (m := ⟨[false, true, true, true, true, true, true, false, false, false, false, false, true, true, true, false, false, true, true, false, false, false, false, false, false, false, false, false, false, false, false, false, false, false, false, false, false, false, false, false, false, false, false, false, false, false, false, false, false, false, false, false, false, false, false, false, false, false, false, false, false, false, false, false, false, false, false, false, false, false, false, false, false, false, false, false, false, false, false, false, false, false, false, false, false, false, false, false, false, false, false, false, false, false, false, false, false, false, false, false, false, false, false, false, false, false, false, false, true, true, true, true, true, true, true, true, true, true, true, true, true, true, true, true, true, true, true, true, true, true, true, true, true, true, true, true, true, true, true, true, true, true, true, true, true, true, true, true, true, true, true, true, true, true, true, true, true, true, true, true, true, true, true, true, true, true, true, true, true, true], some N⟩)
    (b := N) (tm := fun (j : Nat) => oneT2 s r tab i k j) (Hf := fun _ => oneH g v1 f1 a1 v2 f2 a2)
    (I := fun j => j ≤ a2.length) (μ := fun j => a2.length - j) (res := fun j => lpoOver g (.mk v1 f1 a1) (a2.drop j)) (R := OneEnd2 s r tab i k a2.length (oneH g v1 f1 a1 v2 f2 a2))
    (fun j nx hj => by
      have n0 : 0 < N := by omega
      have n1 : 16 < N := by omega
      have n2 : 17 < N := by omega
      have c1 := encO_at hO
      have q1 := c1.lt
      have q2 := c1.lti
      rw [encO_len] at q1 q2
      rcases Nat.lt_or_ge j a2.length with hl | hl
      · obtain ⟨n, hn2⟩ : ∃ n, ns[j]? = some n := ⟨ns[j]'(by omega), by simp [hnl, hl]⟩
        obtain ⟨m, rfl, hmi, hm⟩ := hns j n hn2
        obtain ⟨v', fn', args', x⟩ := at_ok hlen hl
        rw [List.getElem?_eq_getElem hl, x.get] at hm
        have hml := (List.getElem?_eq_some_iff.1 hm)
        have c2 := encI_at hn2
        have hlt : (j : Int) < (a2.length : Int) := by omega
        have hw : IntKind.i64.wrap ((j : Int) + 1) = (j : Int) + 1 := wrap_i64 (by omega) (by omega)
        obtain ⟨cs, t1, t2, t3⟩ := hT.2 i m _ _ hi hm (.inr ⟨rfl, hmi⟩)
        have d1 := cell_ok t1
        have d2 := cell_ok t3
        have d4 : (i : Int) < (s.1.length : Int) := by omega
        have d5 : (m : Int) < (r.1.length : Int) := by have := hml.1; omega
        have hres : lpoOver g (.mk v1 f1 a1) (a2.drop j) = (lpoB g (.mk v1 f1 a1) (.mk v' fn' args') && lpoOver g (.mk v1 f1 a1) (a2.drop (j + 1))) := by
          rw [x.dr]
          unfold lpoOver lpoB
          rw [Bool.eq_iff_iff]
          simp only [decide_eq_true_eq, Bool.and_eq_true, List.mem_cons, forall_eq_or_imp]
        conv => arg 9; arg 4; unfold b63_1
        cases hb2 : lpoB g (.mk v1 f1 a1) (.mk v' fn' args')
        · simp [plc_raw, n0, n1, n2, c1.get, c1.e, c1.tk, c1.le, encO_len, q1, q2, c2.get, c2.e, c2.tk, c2.le, encI_len', hl, hlt, hnl, d1.get, d1.e, d1.tk, d1.le, d2.get, d2.e, d2.tk, d2.le, hT.1, t2, hml.1, hil, d4, d5, hw, hb2]
          refine .fin _ _ ?_
          rw [hres, hb2]
          exact ⟨rfl, rfl⟩
        · simp [plc_raw, n0, n1, n2, c1.get, c1.e, c1.tk, c1.le, encO_len, q1, q2, c2.get, c2.e, c2.tk, c2.le, encI_len', hl, hlt, hnl, d1.get, d1.e, d1.tk, d1.le, d2.get, d2.e, d2.tk, d2.le, hT.1, t2, hml.1, hil, d4, d5, hw, hb2]
          refine .next (j + 1) (by omega) (by simp) rfl hl (by omega) ?_
          rw [hres, hb2]; rfl
      · obtain rfl : j = a2.length := Nat.le_antisymm hj hl
        have hres : lpoOver g (.mk v1 f1 a1) (a2.drop a2.length) = true := by simp [lpoOver]
        simp [b63_1, plc_raw, n0, n1, n2, c1.get, c1.e, c1.tk, c1.le, encO_len, q1, q2, hnl]
        refine .fin _ _ ?_
        rw [hres]
        exact ⟨rfl, _, by omega, rfl⟩) 0 (Nat.zero_le _)
  exact key
/-- The first arguments that are not the same: is the one greater? -/
def firstGt (g : Sg) : List Term → List Term → Option Bool
  | t :: r, u :: q => if t.sameB u then firstGt g r q else some (lpoB g t u)
  | _, _ => none
abbrev oneT3 (s r : Laid) (tab : List D) (i k : Nat) (n : Nat) : List AV := [.junk, .d (partsD s), .d (partsD r), .d (tabD tab s.1.length), .d (.int .i64 i), .d (.int .i64 k), .junk, .junk, .junk, .junk, .junk, .junk, .d (.bool false), .ptr (16, 0) 0 3, .ptr (17, 0) 0 3, .junk, .junk, .junk, .d (.int .i64 n), .junk, .junk, .junk, .junk, .junk, .junk, .junk, .junk, .junk, .junk, .junk, .junk, .junk, .junk, .junk, .junk, .junk, .junk, .junk, .junk, .junk, .junk, .junk, .junk, .junk, .junk, .junk, .junk, .junk, .junk, .junk, .junk, .junk, .junk, .junk, .junk, .junk, .junk, .junk, .junk, .junk, .junk, .junk, .junk, .junk, .junk, .junk, .junk, .junk, .junk, .junk, .junk, .junk, .junk, .junk, .junk, .junk, .junk, .junk, .junk, .junk, .junk, .junk, .junk, .junk, .junk, .junk, .junk, .junk, .junk, .junk, .junk, .junk, .junk, .junk, .junk, .junk, .junk, .junk, .junk, .junk, .junk, .junk, .junk, .junk, .junk, .junk, .junk, .junk, .junk, .junk, .junk, .junk, .junk, .junk, .junk, .junk, .junk, .junk, .junk, .junk, .junk, .junk, .junk, .junk, .junk, .junk, .junk, .junk, .junk, .junk, .junk, .junk, .junk, .junk, .junk, .junk, .junk, .junk, .junk, .junk, .junk, .junk, .junk, .junk, .junk, .junk, .junk, .junk, .junk, .junk, .junk, .junk, .junk, .junk, .junk, .junk, .junk, .junk, .junk, .junk, .junk, .junk, .junk, .junk, .junk, .junk, .junk, .junk, .junk, .junk]
def OneEnd3 (s r : Laid) (tab : List D) (i k n : Nat) (H : Hp) (b : Option Bool) (e : Ex) (t : St) : Prop :=
  match b with
  | none => AtExitN 24 4 (oneT3 s r tab i k n) H e t
  | some b => e = .ret ∧ t.tm[12]? = some (.d (.bool b))
theorem one_loop3 (N : Nat) (hN : 24 ≤ N) (g : Sg) (s r : Laid) (tab : List D) (i k : Nat) (v1 : Int) (f1 : ByteArray) (a1 : List Term) (v2 : Int) (f2 : ByteArray) (a2 : List Term) (hs : LOk s) (hr : LOk r) (hi : s.1[i]? = some (.mk v1 f1 a1)) (hk : r.1[k]? = some (.mk v2 f2 a2)) (hlen : a1.length ≤ 9223372036854775807) (h12 : a2.length = a1.length) (ha1 : okL a1) (ha2 : okL a2) (hT : Tab g s r tab i k) :
    ∃ e t, aloop Try.prog plc b63_0 ⟨[false, true, true, true, true, true, false, false, false, false, false, false, true, true, true, false, false, false, true, false, false, false, false, false, false, false, false, false, false, false, false, false, false, false, false, false, false, false, false, false, false, false, false, false, false, false, false, false, false, false, false, false, false, false, false, false, false, false, false, false, false, false, false, false, false, false, false, false, false, false, false, false, false, false, false, false, false, false, false, false, false, false, false, false, false, false, false, false, false, false, false, false, false, false, false, false, false, false, false, false, false, false, false, false, false, false, false, false, false, false, false, false, false, false, false, false, false, false, false, false, false, false, false, false, false, false, false, false, false, false, false, false, false, false, false, false, false, false, false, false, false, false, false, false, false, false, false, false, false, false, false, false, false, false, false, false, false, false, false, false, false, false, false, false, false, false, false, false, false, false], some N⟩ ⟨oneT3 s r tab i k 0, oneH g v1 f1 a1 v2 f2 a2, N⟩ = some (e, t) ∧ OneEnd3 s r tab i k a1.length (oneH g v1 f1 a1 v2 f2 a2) (firstGt g a1 a2) e t := by
  obtain ⟨ns, hO, hnl, hns⟩ := hs.own i v1 f1 a1 hi
  obtain ⟨ms, hO', hnl', hns'⟩ := hr.own k v2 f2 a2 hk
  have key := loop_rule (P := Try.prog) (pol := plc) (c := b63_0) (m := ⟨[false, true, true, true, true, true, false, false, false, false, false, false, true, true, true, false, false, false, true, false, false, false, false, false, false, false, false, false, false, false, false, false, false, false, false, false, false, false, false, false, false, false, false, false, false, false, false, false, false, false, false, false, false, false, false, false, false, false, false, false, false, false, false, false, false, false, false, false, false, false, false, false, false, false, false, false, false, false, false, false, false, false, false, false, false, false, false, false, false, false, false, false, false, false, false, false, false, false, false, false, false, false, false, false, false, false, false, false, false, false, false, false, false, false, false, false, false, false, false, false, false, false, false, false, false, false, false, false, false, false, false, false, false, false, false, false, false, false, false, false, false, false, false, false, false, false, false, false, false, false, false, false, false, false, false, false, false, false, false, false, false, false, false, false, false, false, false, false, false, false], some N⟩)
    (b := N) (tm := fun (j : Nat) => oneT3 s r tab i k j) (Hf := fun _ => oneH g v1 f1 a1 v2 f2 a2)
    (I := fun j => j ≤ a1.length) (μ := fun j => a1.length - j) (res := fun j => firstGt g (a1.drop j) (a2.drop j)) (R := OneEnd3 s r tab i k a1.length (oneH g v1 f1 a1 v2 f2 a2))
    (fun j nx hj => by
      have n0 : 0 < N := by omega
      have n1 : 16 < N := by omega
      have n2 : 17 < N := by omega
      rcases Nat.lt_or_ge j a1.length with hl | hl
      · have c1 := encO_at hO
        have q1 := c1.lt
        have q2 := c1.lti
        rw [encO_len] at q1 q2
        have c1' := encO_at hO'
        have q1' := c1'.lt
        have q2' := c1'.lti
        rw [encO_len] at q1' q2'
        have hl' : j < a2.length := by omega
        obtain ⟨n, hn2⟩ : ∃ n, ns[j]? = some n := ⟨ns[j]'(by omega), by simp [hnl, hl]⟩
        obtain ⟨m, rfl, hmi, hm⟩ := hns j n hn2
        obtain ⟨v', fn', args', x⟩ := at_ok hlen hl
        rw [List.getElem?_eq_getElem hl, x.get] at hm
        obtain ⟨n', hn2'⟩ : ∃ n, ms[j]? = some n := ⟨ms[j]'(by omega), by simp [hnl', hl']⟩
        obtain ⟨m', rfl, hmi', hm'⟩ := hns' j n' hn2'
        obtain ⟨w', gn', brgs', y⟩ := at_ok (ts := a2) (by omega) hl'
        rw [List.getElem?_eq_getElem hl', y.get] at hm'
        have hml := (List.getElem?_eq_some_iff.1 hm)
        have hml' := (List.getElem?_eq_some_iff.1 hm')
        have c2 := encI_at hn2
        have c2' := encI_at hn2'
        have hlt : (j : Int) < (a1.length : Int) := by omega
        have hw : IntKind.i64.wrap ((j : Int) + 1) = (j : Int) + 1 := wrap_i64 (by omega) (by omega)
        have hcall := rsame_ok _ (okL_mem ha1 _ x.mem) _ (okL_mem ha2 _ y.mem)
        simp [Term.enc] at hcall
        obtain ⟨cs, t1, t2, t3⟩ := hT.2 m m' _ _ hm hm' (.inl hmi)
        have d1 := cell_ok t1
        have d2 := cell_ok t3
        have d4 : (m : Int) < (s.1.length : Int) := by have := hml.1; omega
        have d5 : (m' : Int) < (r.1.length : Int) := by have := hml'.1; omega
        have bsz := y.sz
        have bltm := y.ltm
        have ble3 := y.le3
        rw [h12] at bsz bltm ble3
        have hres : firstGt g (a1.drop j) (a2.drop j) = if (Term.mk v' fn' args').sameB (.mk w' gn' brgs') then firstGt g (a1.drop (j + 1)) (a2.drop (j + 1)) else some (lpoB g (.mk v' fn' args') (.mk w' gn' brgs')) := by
          rw [x.dr, y.dr]; rfl
        conv => arg 9; arg 4; unfold b63_0
        cases hb1 : (Term.mk v' fn' args').sameB (.mk w' gn' brgs')
        · rw [hb1] at hcall hres
          simp [plc_raw, n0, n1, n2, c1.get, c1.e, c1.tk, c1.le, c1'.get, c1'.e, c1'.tk, c1'.le, encO_len, q1, q2, q1', q2', c2.get, c2.e, c2.tk, c2.le, c2'.get, c2'.e, c2'.tk, c2'.le, encI_len', hl, hlt, hnl, hnl', h12, x.lti, x.sz, x.ltm, x.cells, x.le3, bsz, bltm, y.cells, ble3, hcall, d1.get, d1.e, d1.tk, d1.le, d2.get, d2.e, d2.tk, d2.le, hT.1, t2, hml.1, hml'.1, d4, d5, hw]
          refine .fin _ _ ?_
          rw [hres]
          exact ⟨rfl, rfl⟩
        · rw [hb1] at hcall hres
          simp [plc_raw, n0, n1, n2, c1.get, c1.e, c1.tk, c1.le, encO_len, q1, q2, encI_len', hl, hlt, h12, x.lti, x.sz, x.ltm, x.cells, x.le3, bsz, bltm, y.cells, ble3, hcall, hw]
          refine .next (j + 1) (by omega) (by simp) (by simp [oneH, h12]) hl (by omega) ?_
          rw [hres]; rfl
      · obtain rfl : j = a1.length := Nat.le_antisymm hj hl
        have hres : firstGt g (a1.drop a1.length) (a2.drop a1.length) = none := by simp [firstGt]
        simp [b63_0, plc_raw, n0, n1, n2]
        refine .fin _ _ ?_
        rw [hres]
        exact ⟨rfl, _, by omega, rfl⟩) 0 (Nat.zero_le _)
  exact key
end
end Go.Proofs.Ytfcedichoigbbaa.Am

/-
  The document's order of Knuth and Bendix: its function. No condition.
-/
namespace Go.Proofs.Ytfcedichoigbbaa.Am
open Go Go.Proofs
set_option maxHeartbeats 4000000
set_option linter.unusedSimpArgs false
set_option linter.unusedVariables false

def fewer (t u : Term) (x : Int) : Bool := decide (t.occ.count x < u.occ.count x)
mutual
def Term.rgt (g : Sg) : Term → Term → Bool
  | .mk v1 f1 a1, .mk v2 f2 a2 =>
    if ((Term.mk v2 f2 a2).varsW []).any (fewer (.mk v1 f1 a1) (.mk v2 f2 a2)) then false
    else if (Term.mk v1 f1 a1).wt g ≠ (Term.mk v2 f2 a2).wt g then decide ((Term.mk v1 f1 a1).wt g > (Term.mk v2 f2 a2).wt g)
    else if f1.toList = [] ∨ f2.toList = [] then false
    else if f1.toList ≠ f2.toList ∨ a1.length ≠ a2.length then g.symR f1 f2 a1.length a2.length
    else rgtL g a1 a2
def rgtL (g : Sg) : List Term → List Term → Bool
  | t :: r, u :: s => if t.sameB u then rgtL g r s else t.rgt g u
  | _, _ => false
end
abbrev kH (g : Sg) (t u : Term) : Hp := upd (upd (upd (fun _ => none) (0, 0) (.cells (g.enc.map .d))) (1, 0) (.cells (t.enc.map .d))) (2, 0) (.cells (u.enc.map .d))
def Rg1End (g : Sg) (v : Int) (fn : ByteArray) (args : List Term) (v2 : Int) (fn2 : ByteArray) (args2 : List Term) (vs : List Int) (nl : Option Bool) (r : Bool) (e : Ex) (t : St) : Prop :=
  if r then AtRet 6 (.d (.bool false)) e t else AtExit 0 [.junk, .junk, .junk, .ptr (0, 0) 0 2, .ptr (1, 0) 0 3, .ptr (2, 0) 0 3, .d (.bool false), .d (.sl (encI vs) vs.length false nl), .d (.int .i64 vs.length), .junk, .junk, .junk, .junk, .junk, .junk, .junk, .junk, .junk, .junk, .junk, .junk, .junk, .junk, .junk, .junk, .junk, .junk, .junk, .junk, .junk, .junk, .junk, .junk, .junk, .junk, .junk, .junk, .junk, .junk, .junk, .junk, .junk, .junk, .junk, .junk, .junk, .junk, .junk, .junk, .junk, .junk, .junk, .junk, .junk, .junk, .junk, .junk, .junk, .junk, .junk, .junk, .junk, .junk, .junk, .junk, .junk, .junk, .junk, .junk, .junk, .junk, .junk, .junk, .junk, .junk, .junk, .junk, .junk, .junk, .junk, .junk, .junk, .junk, .junk, .junk, .junk, .junk, .junk, .junk, .junk, .junk, .junk, .junk, .junk, .junk, .junk, .junk, .junk, .junk, .junk, .junk, .junk]
    (upd (upd (upd (fun _ => none) (0, 0) (.cells [.d (.sl (encS g.names) g.names.length false none), .d (.sl (encI g.weights) g.weights.length false none)])) (1, 0) (.cells [.d (.int .i64 v), .d (.str fn), .d (.sl (encL args) args.length false none)])) (2, 0) (.cells [.d (.int .i64 v2), .d (.str fn2), .d (.sl (encL args2) args2.length false none)])) e t
theorem rg1_loop (g : Sg) (v : Int) (fn : ByteArray) (args : List Term) (v2 : Int) (fn2 : ByteArray) (args2 : List Term) (h : (Term.mk v fn args).ok) (h2 : (Term.mk v2 fn2 args2).ok) (hs : (Term.mk v fn args).size ≤ 1048576) (hs2 : (Term.mk v2 fn2 args2).size ≤ 1048576)
    (vs : List Int) (nl : Option Bool) (hvs : vs.length ≤ 1048576) :
    ∃ e t, aloop Try.prog plc b46_1 ⟨[false, false, false, true, true, true, true, true, true, true, true, true, false, false, false, false, false, false, false, false, false, false, false, false, false, false, false, false, false, false, false, false, false, true, true, true, true, true, true, true, true, true, true, true, true, true, true, true, true, true, true, true, true, true, true, true, true, true, true, true, true, true, true, true, true, true, true, true, true, true, true, true, true, true, true, true, true, true, true, true, true, true, true, true, true, true, true, true, true, true, true, true, true, true, true, true, true, true, true, true, true, true], some 8⟩ ⟨[.junk, .junk, .junk, .ptr (0, 0) 0 2, .ptr (1, 0) 0 3, .ptr (2, 0) 0 3, .d (.bool false), .d (.sl (encI vs) vs.length false nl), .d (.int .i64 0), .junk, .junk, .junk, .junk, .junk, .junk, .junk, .junk, .junk, .junk, .junk, .junk, .junk, .junk, .junk, .junk, .junk, .junk, .junk, .junk, .junk, .junk, .junk, .junk, .junk, .junk, .junk, .junk, .junk, .junk, .junk, .junk, .junk, .junk, .junk, .junk, .junk, .junk, .junk, .junk, .junk, .junk, .junk, .junk, .junk, .junk, .junk, .junk, .junk, .junk, .junk, .junk, .junk, .junk, .junk, .junk, .junk, .junk, .junk, .junk, .junk, .junk, .junk, .junk, .junk, .junk, .junk, .junk, .junk, .junk, .junk, .junk, .junk, .junk, .junk, .junk, .junk, .junk, .junk, .junk, .junk, .junk, .junk, .junk, .junk, .junk, .junk, .junk, .junk, .junk, .junk, .junk, .junk],
      upd (upd (upd (fun x => none) (0, 0) (.cells [.d (.sl (encS g.names) g.names.length false none), .d (.sl (encI g.weights) g.weights.length false none)])) (1, 0) (.cells [.d (.int .i64 v), .d (.str fn), .d (.sl (encL args) args.length false none)])) (2, 0) (.cells [.d (.int .i64 v2), .d (.str fn2), .d (.sl (encL args2) args2.length false none)]), 8⟩ = some (e, t) ∧
      Rg1End g v fn args v2 fn2 args2 vs nl (vs.any (fewer (.mk v fn args) (.mk v2 fn2 args2))) e t := by
  refine loop_rule (b := 8) (tm := fun (i : Nat) => [.junk, .junk, .junk, .ptr (0, 0) 0 2, .ptr (1, 0) 0 3, .ptr (2, 0) 0 3, .d (.bool false), .d (.sl (encI vs) vs.length false nl), .d (.int .i64 i), .junk, .junk, .junk, .junk, .junk, .junk, .junk, .junk, .junk, .junk, .junk, .junk, .junk, .junk, .junk, .junk, .junk, .junk, .junk, .junk, .junk, .junk, .junk, .junk, .junk, .junk, .junk, .junk, .junk, .junk, .junk, .junk, .junk, .junk, .junk, .junk, .junk, .junk, .junk, .junk, .junk, .junk, .junk, .junk, .junk, .junk, .junk, .junk, .junk, .junk, .junk, .junk, .junk, .junk, .junk, .junk, .junk, .junk, .junk, .junk, .junk, .junk, .junk, .junk, .junk, .junk, .junk, .junk, .junk, .junk, .junk, .junk, .junk, .junk, .junk, .junk, .junk, .junk, .junk, .junk, .junk, .junk, .junk, .junk, .junk, .junk, .junk, .junk, .junk, .junk, .junk, .junk, .junk])
    (Hf := fun _ => upd (upd (upd (fun x => none) (0, 0) (.cells [.d (.sl (encS g.names) g.names.length false none), .d (.sl (encI g.weights) g.weights.length false none)])) (1, 0) (.cells [.d (.int .i64 v), .d (.str fn), .d (.sl (encL args) args.length false none)])) (2, 0) (.cells [.d (.int .i64 v2), .d (.str fn2), .d (.sl (encL args2) args2.length false none)]))
    (I := fun i => i ≤ vs.length) (μ := fun i => vs.length - i) (res := fun i => (vs.drop i).any (fewer (.mk v fn args) (.mk v2 fn2 args2))) (R := Rg1End g v fn args v2 fn2 args2 vs nl)
    (fun i nx hi => ?_) 0 (Nat.zero_le _)
  rcases Nat.lt_or_ge i vs.length with hl | hl
  · have hw : IntKind.i64.wrap ((i : Int) + 1) = (i : Int) + 1 := wrap_i64 (by omega) (by omega)
    have hdr := List.drop_eq_getElem_cons hl
    have hc1 := rcount_ok vs[i] _ h hs
    have hc2 := rcount_ok vs[i] _ h2 hs2
    have hf : fewer (.mk v fn args) (.mk v2 fn2 args2) vs[i] = decide ((Term.mk v fn args).occ.count vs[i] < (Term.mk v2 fn2 args2).occ.count vs[i]) := rfl
    generalize (Term.mk v fn args).occ.count vs[i] = c1 at hc1 hf
    generalize (Term.mk v2 fn2 args2).occ.count vs[i] = c2 at hc2 hf
    simp [Term.enc] at hc1 hc2
    conv => arg 9; arg 4; unfold b46_1
    by_cases hcc : c1 < c2
    · have hcc2 : (c1 : Int) < c2 := by omega
      simp [hl, hw, plc_raw, hc1, hc2, hcc, hcc2]
      refine .fin _ _ ?_
      simp only [hdr, List.any_cons, hf, hcc, decide_true, Bool.true_or]
      exact ⟨rfl, rfl⟩
    · have hcc2 : ¬ (c1 : Int) < c2 := by omega
      simp [hl, hw, plc_raw, hc1, hc2, hcc, hcc2]
      refine .next (i + 1) (by omega) (by simp) rfl hl (by omega) ?_
      simp only [hdr, List.any_cons, hf, hcc, decide_false, Bool.false_or]
  · obtain rfl : i = vs.length := Nat.le_antisymm hi hl
    simp [b46_1]
    refine .fin _ _ ?_
    simp only [List.drop_length, List.any_nil]
    exact .mk
def Rg2End (g : Sg) (v : Int) (fn : ByteArray) (args : List Term) (v2 : Int) (fn2 : ByteArray) (args2 : List Term) (r : Bool) (e : Ex) (t : St) : Prop :=
  AtRet 6 (.d (.bool r)) e t ∨ (r = false ∧ AtExit 2 [.junk, .junk, .junk, .ptr (0, 0) 0 2, .ptr (1, 0) 0 3, .ptr (2, 0) 0 3, .d (.bool false), .junk, .junk, .junk, .junk, .d (.int .i64 args.length), .junk, .junk, .junk, .junk, .junk, .junk, .junk, .junk, .junk, .junk, .junk, .junk, .junk, .junk, .junk, .junk, .junk, .junk, .junk, .junk, .junk, .junk, .junk, .junk, .junk, .junk, .junk, .junk, .junk, .junk, .junk, .junk, .junk, .junk, .junk, .junk, .junk, .junk, .junk, .junk, .junk, .junk, .junk, .junk, .junk, .junk, .junk, .junk, .junk, .junk, .junk, .junk, .junk, .junk, .junk, .junk, .junk, .junk, .junk, .junk, .junk, .junk, .junk, .junk, .junk, .junk, .junk, .junk, .junk, .junk, .junk, .junk, .junk, .junk, .junk, .junk, .junk, .junk, .junk, .junk, .junk, .junk, .junk, .junk, .junk, .junk, .junk, .junk, .junk, .junk]
    (upd (upd (upd (fun _ => none) (0, 0) (.cells [.d (.sl (encS g.names) g.names.length false none), .d (.sl (encI g.weights) g.weights.length false none)])) (1, 0) (.cells [.d (.int .i64 v), .d (.str fn), .d (.sl (encL args) args.length false none)])) (2, 0) (.cells [.d (.int .i64 v2), .d (.str fn2), .d (.sl (encL args2) args.length false none)])) e t)
theorem rg2_loop (g : Sg) (hg : g.ok) (v : Int) (fn : ByteArray) (args : List Term) (v2 : Int) (fn2 : ByteArray) (args2 : List Term) (hn : args.length ≤ 9223372036854775807) (hok : okL args) (hok2 : okL args2) (hlen : args2.length = args.length)
    (ih : ∀ x ∈ args, ∀ y ∈ args2, pcl Cp 46 [.agg g.enc, .agg x.enc, .agg y.enc] = some (.bool (x.rgt g y))) (k : Nat) (hk : 3 ≤ k) :
    ∃ e t, aloop Try.prog plc b46_0 ⟨[false, false, false, true, true, true, true, false, false, false, false, true, false, false, false, false, false, false, false, false, false, false, false, false, false, false, false, false, false, false, false, false, false, false, false, false, false, false, false, false, false, false, false, false, false, false, false, false, false, false, false, false, false, false, false, false, false, false, false, false, false, false, false, false, false, false, false, false, false, false, false, false, false, false, false, false, false, false, false, false, false, false, false, false, false, false, false, false, false, false, false, false, false, false, false, false, false, false, false, false, false, false], some k⟩ ⟨[.junk, .junk, .junk, .ptr (0, 0) 0 2, .ptr (1, 0) 0 3, .ptr (2, 0) 0 3, .d (.bool false), .junk, .junk, .junk, .junk, .d (.int .i64 0), .junk, .junk, .junk, .junk, .junk, .junk, .junk, .junk, .junk, .junk, .junk, .junk, .junk, .junk, .junk, .junk, .junk, .junk, .junk, .junk, .junk, .junk, .junk, .junk, .junk, .junk, .junk, .junk, .junk, .junk, .junk, .junk, .junk, .junk, .junk, .junk, .junk, .junk, .junk, .junk, .junk, .junk, .junk, .junk, .junk, .junk, .junk, .junk, .junk, .junk, .junk, .junk, .junk, .junk, .junk, .junk, .junk, .junk, .junk, .junk, .junk, .junk, .junk, .junk, .junk, .junk, .junk, .junk, .junk, .junk, .junk, .junk, .junk, .junk, .junk, .junk, .junk, .junk, .junk, .junk, .junk, .junk, .junk, .junk, .junk, .junk, .junk, .junk, .junk, .junk],
      upd (upd (upd (fun x => none) (0, 0) (.cells [.d (.sl (encS g.names) g.names.length false none), .d (.sl (encI g.weights) g.weights.length false none)])) (1, 0) (.cells [.d (.int .i64 v), .d (.str fn), .d (.sl (encL args) args.length false none)])) (2, 0) (.cells [.d (.int .i64 v2), .d (.str fn2), .d (.sl (encL args2) args.length false none)]), k⟩ = some (e, t) ∧
      Rg2End g v fn args v2 fn2 args2 (rgtL g args args2) e t := by
  have key := loop_rule (P := Try.prog) (pol := plc) (c := b46_0) (m := ⟨[false, false, false, true, true, true, true, false, false, false, false, true, false, false, false, false, false, false, false, false, false, false, false, false, false, false, false, false, false, false, false, false, false, false, false, false, false, false, false, false, false, false, false, false, false, false, false, false, false, false, false, false, false, false, false, false, false, false, false, false, false, false, false, false, false, false, false, false, false, false, false, false, false, false, false, false, false, false, false, false, false, false, false, false, false, false, false, false, false, false, false, false, false, false, false, false, false, false, false, false, false, false], some k⟩) (b := k) (tm := fun (i : Nat) => [.junk, .junk, .junk, .ptr (0, 0) 0 2, .ptr (1, 0) 0 3, .ptr (2, 0) 0 3, .d (.bool false), .junk, .junk, .junk, .junk, .d (.int .i64 i), .junk, .junk, .junk, .junk, .junk, .junk, .junk, .junk, .junk, .junk, .junk, .junk, .junk, .junk, .junk, .junk, .junk, .junk, .junk, .junk, .junk, .junk, .junk, .junk, .junk, .junk, .junk, .junk, .junk, .junk, .junk, .junk, .junk, .junk, .junk, .junk, .junk, .junk, .junk, .junk, .junk, .junk, .junk, .junk, .junk, .junk, .junk, .junk, .junk, .junk, .junk, .junk, .junk, .junk, .junk, .junk, .junk, .junk, .junk, .junk, .junk, .junk, .junk, .junk, .junk, .junk, .junk, .junk, .junk, .junk, .junk, .junk, .junk, .junk, .junk, .junk, .junk, .junk, .junk, .junk, .junk, .junk, .junk, .junk, .junk, .junk, .junk, .junk, .junk, .junk])
    (Hf := fun _ => upd (upd (upd (fun x => none) (0, 0) (.cells [.d (.sl (encS g.names) g.names.length false none), .d (.sl (encI g.weights) g.weights.length false none)])) (1, 0) (.cells [.d (.int .i64 v), .d (.str fn), .d (.sl (encL args) args.length false none)])) (2, 0) (.cells [.d (.int .i64 v2), .d (.str fn2), .d (.sl (encL args2) args.length false none)]))
    (I := fun i => i ≤ args.length) (μ := fun i => args.length - i) (res := fun i => rgtL g (args.drop i) (args2.drop i)) (R := Rg2End g v fn args v2 fn2 args2)
    (fun i nx hi => by
      have hk0 : 0 < k := by omega
      have hk1 : 1 < k := by omega
      have hk2 : 2 < k := by omega
      rcases Nat.lt_or_ge i args.length with hl | hl
      · obtain ⟨v', fn', args', a⟩ := at_ok hn hl
        obtain ⟨v2', fn2', args2', b⟩ := at_ok (ts := args2) (by omega) (i := i) (by omega)
        have hc := rsame_ok _ (okL_mem hok _ a.mem) _ (okL_mem hok2 _ b.mem)
        have hc2 := ih _ a.mem _ b.mem
        have b1 := b.lti
        have b2 := b.sz
        have b3 := b.ltm
        have b5 := b.le3
        simp only [hlen] at b1 b2 b3 b5
        have hres : rgtL g (args.drop i) (args2.drop i) = if (Term.mk v' fn' args').sameB (.mk v2' fn2' args2') then rgtL g (args.drop (i + 1)) (args2.drop (i + 1)) else (Term.mk v' fn' args').rgt g (.mk v2' fn2' args2') := by
          rw [a.dr, b.dr]; rfl
        generalize (Term.mk v' fn' args').sameB (.mk v2' fn2' args2') = sm at hc hres
        generalize (Term.mk v' fn' args').rgt g (.mk v2' fn2' args2') = r at hc2 hres
        simp [Term.enc, Sg.enc] at hc hc2
        conv => arg 9; arg 4; unfold b46_0
        cases sm
        · simp [a.lti, a.sz, a.ltm, a.cells, a.le3, b1, b2, b3, b.cells, b5, plc_raw, a.w, hc, hc2, hk0, hk1, hk2]
          refine .fin _ _ ?_
          simp only [hres]
          exact .inl ⟨rfl, rfl⟩
        · simp [a.lti, a.sz, a.ltm, a.cells, a.le3, b1, b2, b3, b.cells, b5, plc_raw, a.w, hc, hc2, hk0, hk1, hk2]
          refine .next (i + 1) (by omega) (by simp) rfl hl (by omega) ?_
          simp only [hres]; rfl
      · obtain rfl : i = args.length := Nat.le_antisymm hi hl
        simp [b46_0, hk0, hk1, hk2]
        refine .fin _ _ ?_
        simp only [List.drop_length, rgtL]
        exact .inr ⟨rfl, .mk⟩) 0 (Nat.zero_le _)
  simpa using key
theorem rgreater_ok (g : Sg) (hg : g.ok) (t : Term) : t.ok → t.size ≤ 1048576 → ∀ u : Term, u.ok → u.size ≤ 1048576 → pcl Cp 46 [.agg g.enc, .agg t.enc, .agg u.enc] = some (.bool (t.rgt g u)) := by
  refine Term.ind (p := fun t => t.ok → t.size ≤ 1048576 → ∀ u : Term, u.ok → u.size ≤ 1048576 → pcl Cp 46 [.agg g.enc, .agg t.enc, .agg u.enc] = some (.bool (t.rgt g u))) (fun v fn args ih h hs u hu hus => ?_) t
  obtain ⟨v2, fn2, args2⟩ := u
  obtain ⟨nl, hvars⟩ := rVars_ok _ hu (by omega)
  have hvl := varsW_len (.mk v2 fn2 args2) []
  simp only [List.length_nil, Nat.zero_add] at hvl
  have hw1 := rweight_ok g hg _ h hs
  have hw2 := rweight_ok g hg _ hu hus
  have hsy := rsymbol_ok g hg v fn args v2 fn2 args2
  have hrr : (Term.mk v fn args).rgt g (.mk v2 fn2 args2) = (if ((Term.mk v2 fn2 args2).varsW []).any (fewer (.mk v fn args) (.mk v2 fn2 args2)) then false
    else if (Term.mk v fn args).wt g ≠ (Term.mk v2 fn2 args2).wt g then decide ((Term.mk v fn args).wt g > (Term.mk v2 fn2 args2).wt g)
    else if fn.toList = [] ∨ fn2.toList = [] then false
    else if fn.toList ≠ fn2.toList ∨ args.length ≠ args2.length then g.symR fn fn2 args.length args2.length
    else rgtL g args args2) := by simp only [Term.rgt]
  rw [hrr]
  clear hrr
  generalize (Term.mk v2 fn2 args2).varsW [] = vs at hvars hvl ⊢
  obtain ⟨e, t, hrun, hend⟩ := rg1_loop g v fn args v2 fn2 args2 h hu hs hus vs nl (by omega)
  generalize vs.any (fewer (.mk v fn args) (.mk v2 fn2 args2)) = bad at hend ⊢
  generalize (Term.mk v fn args).wt g = W1 at hw1 ⊢
  generalize (Term.mk v2 fn2 args2).wt g = W2 at hw2 ⊢
  simp [Term.enc, Sg.enc] at hvars hw1 hw2 hsy hrun
  refine pcl_body code46 ?_
  cases bad
  · obtain ⟨rfl, nx, rfl⟩ := hend
    by_cases hw : W1 = W2
    · subst hw
      by_cases hv1 : fn.toList = []
      · simp [Term.enc, Sg.enc, plc_raw, hvars, hrun, hw1, hw2, hv1]
      by_cases hv2 : fn2.toList = []
      · simp [Term.enc, Sg.enc, plc_raw, hvars, hrun, hw1, hw2, hv1, hv2]
      by_cases hf : fn.toList = fn2.toList
      · by_cases hl : args.length = args2.length
        · simp only [Term.enc]
          have hl2 := hl.symm
          simp only [Term.size] at hs hus
          have h2loop := rg2_loop g hg v fn args v2 fn2 args2 h.1 h.2 hu.2 hl2 (fun x hx y hy => ih x hx (okL_mem h.2 _ hx) (by have := sizeL_mem hx; omega) y (okL_mem hu.2 _ hy) (by have := sizeL_mem hy; omega))
          clear hl ih hu hus h hs
          generalize args2.length = nl2 at *
          subst hl2
          obtain ⟨e2, t2, hrun2, hend2⟩ := h2loop (nx + 8 + 3 + 8 + 14 + 1) (by omega)
          generalize rgtL g args args2 = r at hend2 ⊢
          rcases hend2 with ⟨rfl, hv⟩ | ⟨rfl, rfl, nx2, rfl⟩
          · simp [Term.enc, Sg.enc, plc_raw, hvars, hrun, hw1, hw2, hv1, hv2, hf, hrun2, hv]
          · simp [Term.enc, Sg.enc, plc_raw, hvars, hrun, hw1, hw2, hv1, hv2, hf, hrun2]
        · have hli : ¬ (args.length : Int) = args2.length := by omega
          simp [Term.enc, Sg.enc, plc_raw, hvars, hrun, hw1, hw2, hv1, hv2, hf, hl, hli, hsy]
      · simp [Term.enc, Sg.enc, plc_raw, hvars, hrun, hw1, hw2, hv1, hv2, hf, hsy]
    · simp [Term.enc, Sg.enc, plc_raw, hvars, hrun, hw1, hw2, hw]
  · obtain ⟨rfl, hv⟩ := hend
    simp [Term.enc, Sg.enc, plc_raw, hvars, hrun, hv]
end Go.Proofs.Ytfcedichoigbbaa.Am

/-
  The order of Knuth and Bendix: the program's function computes it. No condition.
-/
namespace Go.Proofs.Ytfcedichoigbbaa.Am
open Go Go.Proofs
set_option maxHeartbeats 4000000
set_option linter.unusedSimpArgs false

theorem firstL_some : ∀ (a b : List Term), a.length = b.length → sameBL a b = false → ∃ i, firstL a b = some i ∧ i < a.length
  | [], [], _, h => by simp [sameBL] at h
  | [], _ :: _, hl, _ => by simp at hl
  | _ :: _, [], hl, _ => by simp at hl
  | t :: r, u :: s, hl, h => by
    by_cases hs : t.sameB u = true
    · simp only [sameBL, hs, Bool.true_and] at h
      obtain ⟨i, hi, hl2⟩ := firstL_some r s (by simpa using hl) h
      exact ⟨i + 1, by simp [firstL, hs, hi], by simp; omega⟩
    · exact ⟨0, by simp [firstL, hs], by simp⟩
theorem shapeB_v {v : Int} {fn : ByteArray} {args : List Term} (h : (Term.mk v fn args).shapeB = true) (hv : fn.toList ≠ []) : v = 0 := by
  have hn : noName fn = false := by simp [noName, hv]
  simp [Term.shapeB, rightB, hn] at h
  exact h.1.1.1
theorem shapeBL_mem : ∀ {ts : List Term}, shapeBL ts = true → ∀ x ∈ ts, x.shapeB = true
  | [], _, x, hx => by simp at hx
  | t :: r, h, x, hx => by
    simp only [shapeBL, Bool.and_eq_true] at h
    rcases List.mem_cons.1 hx with e | hx
    · exact e ▸ h.1
    · exact shapeBL_mem h.2 x hx

theorem compare_ok (g : Sg) (hg : g.ok) (t : Term) : t.ok → t.shapeB = true → ∀ u : Term, u.ok → u.shapeB = true → pcl Cp 45 [.agg g.enc, .agg t.enc, .agg u.enc] = some (.int .i64 (t.kcmp g u)) := by
  refine Term.ind (p := fun t => t.ok → t.shapeB = true → ∀ u : Term, u.ok → u.shapeB = true → pcl Cp 45 [.agg g.enc, .agg t.enc, .agg u.enc] = some (.int .i64 (t.kcmp g u))) (fun v fn args ih h hs => ?_) t
  intro u hu hus
  obtain ⟨v2, fn2, args2⟩ := u
  have hsame := same_ok _ h _ hu
  refine pcl_body code45 ?_
  by_cases hq : (Term.mk v fn args).sameB (.mk v2 fn2 args2) = true
  · rw [hq] at hsame
    simp [Term.enc] at hsame
    simp [Term.enc, Sg.enc, plc_raw, hsame]
    simp only [Term.kcmp, if_pos hq]
  · simp only [Bool.not_eq_true] at hq
    rw [hq] at hsame
    simp [Term.enc] at hsame
    obtain ⟨q1, hc1, hn1, ho1, hf1⟩ := load_ok g hg 1 (7, 0) _ h [] (upd (upd (upd (upd (fun _ => none) (0, 0) (.cells [.d (.sl (encS g.names) g.names.length false none), .d (.sl (encI g.weights) g.weights.length false none)]))
      (1, 0) (.cells [.d (.int .i64 v), .d (.str fn), .d (.sl (encL args) args.length false none)])) (2, 0) (.cells [.d (.int .i64 v2), .d (.str fn2), .d (.sl (encL args2) args2.length false none)]))
      (7, 0) (.mp (false, [.int .i64]) [] 0)) 19 (by decide) (by simp [encM, encMi])
    obtain ⟨H1, n1⟩ := q1
    simp only at hc1 hn1 ho1 hf1
    have hH10 := hf1 (0, 0) (by simp) (by simp)
    have hH11 := hf1 (1, 0) (by simp) (by simp)
    have hH12 := hf1 (2, 0) (by simp) (by simp)
    obtain ⟨q2, hc2, hn2, ho2, hf2⟩ := load_ok g hg (-1) (7, 0) _ hu ((Term.mk v fn args).loadW g 1 []).2 H1 n1 (by simp; omega) ho1
    obtain ⟨H2, n2⟩ := q2
    simp only at hc2 hn2 ho2 hf2
    have hH20 := (hf2 (0, 0) (by simp; omega) (by simp)).trans hH10
    have hH21 := (hf2 (1, 0) (by simp; omega) (by simp)).trans hH11
    have hH22 := (hf2 (2, 0) (by simp; omega) (by simp)).trans hH12
    have hhole := holeG_ok (nx := n2) ho2
    clear hf1 hf2
    have hn17 : 7 < n1 := by omega
    generalize hX1 : ((Term.mk v fn args).loadW g 1 []).1 = X1 at *
    generalize hM1 : ((Term.mk v fn args).loadW g 1 []).2 = M1 at *
    generalize hX2 : ((Term.mk v2 fn2 args2).loadW g (-1) M1).1 = X2 at *
    generalize hM2 : ((Term.mk v2 fn2 args2).loadW g (-1) M1).2 = M2 at *
    simp [Term.enc, Sg.enc, encM, encMi] at hc1 hc2 ho1 ho2 hH10 hH11 hH12 hH20 hH21 hH22
    have hhole := fun (nx : Nat) => holeG_ok (nx := nx) (m := M2) (by simpa only [encM] using ho2)
    have hex : ∀ (c : Code) (st : St), exec Try.prog plc (acall Try.prog plc) (aloop Try.prog plc) (.hole c) st = (plc.hole c).bind fun g => g st := fun _ _ => rfl
    have hk : Term.kcmp g (Term.mk v fn args) (Term.mk v2 fn2 args2) = (fun out : Int => if (out = 1 ∧ M2.any (fun q => decide (q.2 < 0)) = true) ∨ (out = -1 ∧ M2.any (fun q => decide (0 < q.2)) = true) then 2 else out)
        (if 0 < IntKind.i64.wrap (X1 - X2) then 1 else if IntKind.i64.wrap (X1 - X2) < 0 then -1 else if fn.toList = [] ∨ fn2.toList = [] then 2 else if fn.toList ≠ fn2.toList then sideI (g.above fn fn2)
      else if args.length ≠ args2.length then sideI (decide (args.length > args2.length)) else kcmpL g args args2) := by
      simp only [Term.kcmp, hq, hX1, hM1, hX2, hM2]; rfl
    have hab := above_ok g hg fn fn2
    simp [Sg.enc] at hab
    have hrest : ∀ out : Int, (if 0 < IntKind.i64.wrap (X1 - X2) then 1 else if IntKind.i64.wrap (X1 - X2) < 0 then -1 else if fn.toList = [] ∨ fn2.toList = [] then 2 else if fn.toList ≠ fn2.toList then sideI (g.above fn fn2)
      else if args.length ≠ args2.length then sideI (decide (args.length > args2.length)) else kcmpL g args args2) = out → True := fun _ _ => trivial
    rw [hk]
    clear hk hrest
    generalize hmo : (M2.any fun q => decide (0 < q.2)) = mo at *
    generalize hle : (M2.any fun q => decide (q.2 < 0)) = le at *
    by_cases hd : 0 < IntKind.i64.wrap (X1 - X2)
    · cases le <;> simp [Term.enc, Sg.enc, plc_raw, hsame, plc_hole, hc1, hc2, ho1, ho2, hH10, hH11, hH12, hH20, hH21, hH22, hn17, hex, hhole, hd]
    by_cases hd2 : IntKind.i64.wrap (X1 - X2) < 0
    · cases mo <;> simp [Term.enc, Sg.enc, plc_raw, hsame, plc_hole, hc1, hc2, ho1, ho2, hH10, hH11, hH12, hH20, hH21, hH22, hn17, hex, hhole, hd, hd2]
    by_cases hv1 : fn.toList = []
    · simp [Term.enc, Sg.enc, plc_raw, hsame, plc_hole, hc1, hc2, ho1, ho2, hH10, hH11, hH12, hH20, hH21, hH22, hn17, hex, hhole, hd, hd2, hv1]
    by_cases hv2 : fn2.toList = []
    · simp [Term.enc, Sg.enc, plc_raw, hsame, plc_hole, hc1, hc2, ho1, ho2, hH10, hH11, hH12, hH20, hH21, hH22, hn17, hex, hhole, hd, hd2, hv1, hv2]
    by_cases hn : fn.toList = fn2.toList
    · by_cases hl : args.length = args2.length
      · have hv : v = v2 := (shapeB_v hs hv1).trans (shapeB_v hus hv2).symm
        have hsb : sameBL args args2 = false := by simpa [Term.sameB, hv, hn, hl] using hq
        obtain ⟨i, hi, hlt⟩ := firstL_some args args2 hl hsb
        obtain ⟨t1, u1, hg1, hg2, hkc⟩ := kcmpL_first g args args2 i hi
        obtain ⟨v', fn', args', a⟩ := at_ok h.1 hlt
        obtain ⟨v2', fn2', args2', b⟩ := at_ok hu.1 (i := i) (by omega)
        obtain rfl : t1 = .mk v' fn' args' := by rw [← a.get]; exact (Option.some.inj ((List.getElem?_eq_getElem hlt).symm.trans hg1)).symm
        obtain rfl : u1 = .mk v2' fn2' args2' := by rw [← b.get]; exact (Option.some.inj ((List.getElem?_eq_getElem (by omega)).symm.trans hg2)).symm
        simp only [Term.shapeB, Bool.and_eq_true] at hs hus
        have hih := ih _ a.mem (okL_mem h.2 _ a.mem) (shapeBL_mem hs.2 _ a.mem) _ (okL_mem hu.2 _ b.mem) (shapeBL_mem hus.2 _ b.mem)
        rw [← hkc] at hih
        have hfirst := first_ok v fn args h v2 fn2 args2 hu hl.symm
        rw [hi] at hfirst
        have a1 := a.lti
        have a2 := a.sz
        have a3 := a.ltm
        have a4 := a.cells
        have a5 := a.le3
        have b1 := b.lti
        have b2 := b.sz
        have b3 := b.ltm
        have b4 := b.cells
        have b5 := b.le3
        simp [Term.enc, Sg.enc, optI] at hih hfirst
        simp only [Term.enc]
        generalize kcmpL g args args2 = out at *
        clear ih hu hus hs h hq hkc hsb hi hg1 hg2 a b
        have hl2 := hl.symm
        clear hl
        generalize args2.length = nl at *
        subst hl2
        by_cases ho : out = 1
        · subst ho
          cases le <;> simp [Term.enc, Sg.enc, plc_raw, hsame, plc_hole, hc1, hc2, ho1, ho2, hH10, hH11, hH12, hH20, hH21, hH22, hn17, hex, hhole, hd, hd2, hv1, hv2, hn, hfirst, a1, a2, a3, a4, a5, b1, b2, b3, b4, b5, hih]
        · by_cases ho2 : out = -1
          · subst ho2
            cases mo <;> simp [Term.enc, Sg.enc, plc_raw, hsame, plc_hole, hc1, hc2, ho1, ho2, hH10, hH11, hH12, hH20, hH21, hH22, hn17, hex, hhole, hd, hd2, hv1, hv2, hn, hfirst, a1, a2, a3, a4, a5, b1, b2, b3, b4, b5, hih]
          · simp [Term.enc, Sg.enc, plc_raw, hsame, plc_hole, hc1, hc2, ho1, ho2, hH10, hH11, hH12, hH20, hH21, hH22, hn17, hex, hhole, hd, hd2, hv1, hv2, hn, hfirst, a1, a2, a3, a4, a5, b1, b2, b3, b4, b5, hih, ho, ho2]
      · have hli : ¬ ((args.length : Int) = args2.length) := by omega
        by_cases hgt : args2.length < args.length
        · have hgti : (args2.length : Int) < args.length := by omega
          have hsd := side_ok true
          simp [sideI] at hsd
          cases le <;> simp [Term.enc, Sg.enc, plc_raw, hsame, plc_hole, hc1, hc2, ho1, ho2, hH10, hH11, hH12, hH20, hH21, hH22, hn17, hex, hhole, hd, hd2, hv1, hv2, hn, hl, hli, hgt, hgti, hsd, sideI]
        · have hgti : ¬ (args2.length : Int) < args.length := by omega
          have hsd := side_ok false
          simp [sideI] at hsd
          cases mo <;> simp [Term.enc, Sg.enc, plc_raw, hsame, plc_hole, hc1, hc2, ho1, ho2, hH10, hH11, hH12, hH20, hH21, hH22, hn17, hex, hhole, hd, hd2, hv1, hv2, hn, hl, hli, hgt, hgti, hsd, sideI]
    · cases hav : g.above fn fn2
      · have hsd := side_ok false
        simp [sideI] at hsd
        rw [hav] at hab
        cases mo <;> simp [Term.enc, Sg.enc, plc_raw, hsame, plc_hole, hc1, hc2, ho1, ho2, hH10, hH11, hH12, hH20, hH21, hH22, hn17, hex, hhole, hd, hd2, hv1, hv2, hn, hab, hsd, sideI]
      · have hsd := side_ok true
        simp [sideI] at hsd
        rw [hav] at hab
        cases le <;> simp [Term.enc, Sg.enc, plc_raw, hsame, plc_hole, hc1, hc2, ho1, ho2, hH10, hH11, hH12, hH20, hH21, hH22, hn17, hex, hhole, hd, hd2, hv1, hv2, hn, hab, hsd, sideI]
end Go.Proofs.Ytfcedichoigbbaa.Am

/-
  The order of Knuth and Bendix: the program's exported functions and the chapter's examples. No condition.
-/
namespace Go.Proofs.Ytfcedichoigbbaa.Am
open Go Go.Proofs
set_option maxHeartbeats 4000000
set_option linter.unusedSimpArgs false

theorem rightE_shape {t : Term} (h : t.rightE = 0) : t.shapeB = true := by
  unfold Term.rightE at h
  by_cases hs : t.shapeB = true
  · exact hs
  · rw [if_neg hs] at h; simp at h
/-- What comes of a comparison of any terms. -/
def Sg.kCmp (g : Sg) (t u : Term) : Int := if g.right = true ∧ t.rightE = 0 ∧ u.rightE = 0 then t.kcmp g u else 2
theorem kCompare_ok (g : Sg) (hg : g.ok) (t : Term) (ht : t.ok) (u : Term) (hu : u.ok) : pcl Cp 27 [.agg g.enc, .agg t.enc, .agg u.enc] = some (.int .i64 (g.kCmp t u)) := by
  have h1 := gright_ok g hg
  have h2 := tright_ok t ht
  have h3 := tright_ok u hu
  have h4 := fun hs hs2 => compare_ok g hg t ht hs u hu hs2
  refine pcl_body code27 ?_
  unfold Sg.kCmp
  generalize hk : t.kcmp g u = k at h4 ⊢
  have ht0 := @rightE_shape t
  have hu0 := @rightE_shape u
  generalize t.rightE = z at *
  generalize u.rightE = z2 at *
  obtain ⟨v, fn, args⟩ := t
  obtain ⟨v2, fn2, args2⟩ := u
  simp [Term.enc, Sg.enc] at h1 h2 h3 h4 ⊢
  by_cases hr : g.right = true
  · simp [hr] at h1
    by_cases hz : z = 0
    · by_cases hz2 : z2 = 0
      · have h5 := h4 (ht0 hz) (hu0 hz2)
        simp [plc_raw, h1, h2, h3, h5, hz, hz2, hr]
      · simp [plc_raw, h1, h2, h3, hz, hz2, hr]
    · simp [plc_raw, h1, h2, h3, hz, hr]
  · simp [hr] at h1
    simp [plc_raw, h1, hr]
theorem kWeight_ok (g : Sg) (hg : g.ok) (t : Term) (ht : t.ok) : pcl Cp 29 [.agg g.enc, .agg t.enc] = some (.int .i64 (if t.rightE = 0 then (t.loadW g 1 []).1 else 0)) := by
  have h2 := tright_ok t ht
  refine pcl_body code29 ?_
  obtain ⟨F, N, hF⟩ := (load_ok g hg 1 (8, 0) _ ht []).fn
  generalize t.rightE = z at *
  generalize (t.loadW g 1 []).1 = W at *
  obtain ⟨v, fn, args⟩ := t
  simp [Term.enc, Sg.enc, encM, encMi] at h2 hF ⊢
  have hFc := fun H nx h1 h2 => (hF H nx h1 h2).1
  by_cases hz : z = 0
  · simp [plc_raw, h2, hz, hFc]
  · simp [plc_raw, h2, hz]
theorem own_ok (g : Sg) : pcl Cp 16 [.agg g.enc] = some (.agg g.enc) := by
  refine pcl_body code16 ?_
  simp [Sg.enc, plc_raw]
end Go.Proofs.Ytfcedichoigbbaa.Am

/-
  The document's order of Knuth and Bendix is the same order; both functions answer alike, two ways, and through a third term. No condition.
-/
namespace Go.Proofs.Ytfcedichoigbbaa.Am
open Go Go.Proofs
set_option linter.unusedSimpArgs false
set_option linter.unusedVariables false

theorem withGo_mem (n : Int) : ∀ (l : List Int) (inn : Bool) (out : List Int), (inn = true → n ∈ out) → ∀ x, x ∈ withGo n inn out l ↔ x = n ∨ x ∈ out ∨ x ∈ l
  | [], inn, out, h, x => by
    cases inn
    · simp [withGo]; exact Or.comm
    · simp [withGo]
      rintro rfl
      exact h rfl
  | y :: r, inn, out, h, x => by
    simp only [withGo]
    split
    · rw [withGo_mem n r true _ (fun _ => by simp) x]
      split
      · rename_i hy; subst hy; simp; grind
      · simp; grind
    · rename_i hn
      rw [withGo_mem n r inn _ (fun hi => by have := h hi; split <;> simp [this]) x]
      split
      · rename_i hy; subst hy
        simp
        constructor
        · grind
        · grind
      · simp; grind
theorem varsW_mem (t : Term) : ∀ l x, x ∈ t.varsW l ↔ x ∈ l ∨ x ∈ t.occ := by
  refine Term.ind (p := fun t => ∀ l x, x ∈ t.varsW l ↔ x ∈ l ∨ x ∈ t.occ) (fun v fn args ih l x => ?_) t
  have hl : ∀ (a : List Term), (∀ z ∈ a, ∀ l x, x ∈ z.varsW l ↔ x ∈ l ∨ x ∈ z.occ) → ∀ l x, x ∈ varsWL l a ↔ x ∈ l ∨ x ∈ occL a := by
    intro a
    induction a with
    | nil => intro _ l x; simp [varsWL, occL]
    | cons y r ih2 =>
      intro h l x
      simp only [varsWL, occL, List.mem_append]
      rw [ih2 (fun z hz => h z (by simp [hz])), h y (by simp)]
      exact or_assoc
  simp only [Term.varsW, Term.occ, List.mem_append]
  rw [hl args ih]
  by_cases hv : fn.toList = []
  · simp only [if_pos hv]
    rw [withGo_mem v l false [] (fun h => by cases h)]
    simp; grind
  · simp only [if_neg hv]; simp
theorem fewer_any (t u : Term) : (u.varsW []).any (fewer t u) = false ↔ ∀ x, u.occ.count x ≤ t.occ.count x := by
  rw [← Bool.not_eq_true, List.any_eq_true]
  constructor
  · intro h x
    refine Nat.le_of_not_lt fun hlt => h ⟨x, ?_, by simpa [fewer] using hlt⟩
    rw [varsW_mem]
    exact .inr (List.count_pos_iff.1 (by omega))
  · rintro h ⟨x, _, hx⟩
    have := h x
    simp [fewer] at hx
    omega
theorem idxS_inj {ns : List ByteArray} {a b : ByteArray} (h : idxS ns a = idxS ns b) (h0 : 0 ≤ idxS ns a) : a.toList = b.toList := by
  unfold idxS at h h0
  cases ha : ns.findIdx? (fun n => eqS n a) with
  | none => rw [ha] at h0; simp at h0
  | some i =>
    cases hb : ns.findIdx? (fun n => eqS n b) with
    | none => rw [ha, hb] at h; simp at h
    | some k =>
      rw [ha, hb] at h
      have h : i = k := by simp at h; omega
      subst h
      rw [List.findIdx?_eq_some_iff_getElem] at ha hb
      obtain ⟨h1, h2, _⟩ := ha
      obtain ⟨_, h4, _⟩ := hb
      simp [eqS] at h2 h4
      rw [← h2, ← h4]
theorem idxS_ge (ns : List ByteArray) (a : ByteArray) : -1 ≤ idxS ns a := by
  rcases idxS_lt (ns := ns) (s := a) with h | ⟨k, h, _⟩ <;> omega
theorem aboveR_eq (g : Sg) (a b : ByteArray) : g.aboveR a b = g.above a b := by
  have ha := idxS_ge g.names a
  have hb := idxS_ge g.names b
  by_cases hab : a.toList = b.toList
  · have := bytes_ext hab; subst this
    rw [above_irrefl]
    simp [Sg.aboveR]
  · unfold Sg.aboveR Sg.above Sg.rank
    by_cases h1 : a.toList = dollarTrue
    · have h2 : ¬ b.toList = dollarTrue := fun e => hab (h1.trans e.symm)
      rw [if_pos (.inr h1)]
      simp only [h1, h2, if_true, if_false]
      rw [if_pos (by omega)]
      symm
      simp only [decide_eq_false_iff_not]
      omega
    · by_cases h2 : b.toList = dollarTrue
      · rw [if_neg (by simp [hab, h1]), if_pos h2]
        simp only [h1, h2, if_true, if_false]
        rw [if_pos (by omega)]
        symm
        simp only [decide_eq_true_eq]
        omega
      · rw [if_neg (by simp [hab, h1]), if_neg h2]
        simp only [h1, h2, if_false]
        by_cases h3 : idxS g.names a < 0 ∧ idxS g.names b < 0
        · rw [if_pos h3, if_neg (by omega)]
        · rw [if_neg h3]
          by_cases h4 : idxS g.names a = idxS g.names b
          · exact absurd (idxS_inj h4 (by omega)) hab
          · rw [if_pos h4]
theorem rgt_iff (g : Sg) (t : Term) : ∀ u, t.rgt g u = true ↔ kgt g t u := by
  refine Term.ind (p := fun t => ∀ u, t.rgt g u = true ↔ kgt g t u) (fun v fn args ih u => ?_) t
  obtain ⟨v2, f2, a2⟩ := u
  have hl : ∀ (a b : List Term), (∀ x ∈ a, ∀ u, x.rgt g u = true ↔ kgt g x u) → (rgtL g a b = true ↔ kgtL g a b) := by
    intro a
    induction a with
    | nil => intro b _; simp [rgtL, kgtL]
    | cons x r ih2 =>
      intro b h
      cases b with
      | nil => simp [rgtL, kgtL]
      | cons y s =>
        simp only [rgtL, kgtL]
        by_cases hs : x = y
        · rw [if_pos ((sameB_eq x y).2 hs), ih2 s (fun z hz => h z (by simp [hz]))]
          simp [hs]
        · rw [if_neg (by rw [sameB_eq]; exact hs), h x (by simp)]
          simp [hs]
  simp only [Term.rgt, kgt, ← fewer_any]
  cases hf : ((Term.mk v2 f2 a2).varsW []).any (fewer (.mk v fn args) (.mk v2 f2 a2))
  · simp only [Bool.false_eq_true, if_false, true_and]
    by_cases hw : (Term.mk v fn args).wt g = (Term.mk v2 f2 a2).wt g
    · rw [if_neg (by simpa using hw)]
      have hlt : ¬ (Term.mk v2 f2 a2).wt g < (Term.mk v fn args).wt g := by omega
      simp only [hlt, false_or, hw, true_and]
      by_cases n1 : fn.toList = []
      · simp [n1]
      by_cases n2 : f2.toList = []
      · simp [n2]
      rw [if_neg (by simp [n1, n2])]
      simp only [n1, n2, ne_eq, not_false_eq_true, true_and]
      by_cases he : fn.toList = f2.toList
      · have := bytes_ext he; subst this
        by_cases hlen : args.length = a2.length
        · simp [hlen, hl args a2 ih]
        · simp [hlen, Sg.symR]
      · simp [he, Sg.symR, aboveR_eq]
    · rw [if_pos hw]
      simp [hw]
  · simp
/-- The document's answer. -/
def Sg.rCmp (g : Sg) (t u : Term) : Int :=
  if g.right = true ∧ t.rightE = 0 ∧ u.rightE = 0 then (if t.sameB u then 0 else if t.rgt g u then 1 else if u.rgt g t then -1 else 2) else 2
theorem rightE_shape' {t : Term} (h : t.rightE = 0) : t.shapeB = true := by
  unfold Term.rightE at h
  by_cases hs : t.shapeB = true
  · exact hs
  · rw [if_neg hs] at h; simp at h
open Classical in
theorem kCmp_spec (g : Sg) (t u : Term) (ht : t.size ≤ 1048576) (hu : u.size ≤ 1048576) :
    g.kCmp t u = if g.right = true ∧ t.rightE = 0 ∧ u.rightE = 0 then (if t = u then 0 else if kgt g t u then 1 else if kgt g u t then -1 else 2) else 2 := by
  unfold Sg.kCmp
  split
  · rename_i h
    exact kcmp_spec g t u (rightE_shape' h.2.1) (rightE_shape' h.2.2) (by omega) (by omega)
  · rfl
theorem kCmp_rCmp (g : Sg) (t u : Term) (ht : t.size ≤ 1048576) (hu : u.size ≤ 1048576) : g.kCmp t u = g.rCmp t u := by
  rw [kCmp_spec g t u ht hu]
  unfold Sg.rCmp
  by_cases h : g.right = true ∧ t.rightE = 0 ∧ u.rightE = 0
  · rw [if_pos h, if_pos h]
    by_cases he : t = u
    · rw [if_pos he, if_pos ((sameB_eq t u).2 he)]
    · rw [if_neg he, if_neg (mt (sameB_eq t u).1 he)]
      by_cases h1 : kgt g t u
      · rw [if_pos h1, if_pos ((rgt_iff g t u).2 h1)]
      · rw [if_neg h1, if_neg (mt (rgt_iff g t u).1 h1)]
        by_cases h2 : kgt g u t
        · rw [if_pos h2, if_pos ((rgt_iff g u t).2 h2)]
        · rw [if_neg h2, if_neg (mt (rgt_iff g u t).1 h2)]
  · rw [if_neg h, if_neg h]
theorem kCmp_turn (g : Sg) (t u : Term) (ht : t.size ≤ 1048576) (hu : u.size ≤ 1048576) : (g.kCmp t u = 2 ∧ g.kCmp u t = 2) ∨ (g.kCmp t u ≠ 2 ∧ g.kCmp u t = - g.kCmp t u) := by
  rw [kCmp_spec g t u ht hu, kCmp_spec g u t hu ht]
  by_cases h : g.right = true ∧ t.rightE = 0 ∧ u.rightE = 0
  · have h' : g.right = true ∧ u.rightE = 0 ∧ t.rightE = 0 := ⟨h.1, h.2.2, h.2.1⟩
    rw [if_pos h, if_pos h']
    by_cases he : t = u
    · subst he; simp
    · have he' : ¬ u = t := fun e => he e.symm
      by_cases h1 : kgt g t u
      · have h2 := kgt_asymm h1
        simp [he, he', h1, h2]
      · by_cases h2 : kgt g u t <;> simp [he, he', h1, h2]
  · have h' : ¬ (g.right = true ∧ u.rightE = 0 ∧ t.rightE = 0) := fun k => h ⟨k.1, k.2.2, k.2.1⟩
    rw [if_neg h, if_neg h']
    simp
theorem kCmp_gt (g : Sg) (t u : Term) (ht : t.size ≤ 1048576) (hu : u.size ≤ 1048576) : g.kCmp t u = 1 ↔ g.right = true ∧ t.rightE = 0 ∧ u.rightE = 0 ∧ kgt g t u := by
  rw [kCmp_spec g t u ht hu]
  by_cases h : g.right = true ∧ t.rightE = 0 ∧ u.rightE = 0
  · rw [if_pos h]
    by_cases he : t = u
    · subst he; simp [kgt_irrefl]
    · by_cases h1 : kgt g t u
      · simp [he, h1, h]
      · by_cases h2 : kgt g u t <;> simp [he, h1, h2]
  · rw [if_neg h]
    simp only [show ¬ ((2 : Int) = 1) by decide, false_iff]
    exact fun k => h ⟨k.1, k.2.1, k.2.2.1⟩
theorem kCmp_trans (g : Sg) (t u w : Term) (ht : t.size ≤ 1048576) (hu : u.size ≤ 1048576) (hw : w.size ≤ 1048576) (h1 : g.kCmp t u = 1) (h2 : g.kCmp u w = 1) : g.kCmp t w = 1 := by
  rw [kCmp_gt g _ _ ht hu] at h1
  rw [kCmp_gt g _ _ hu hw] at h2
  rw [kCmp_gt g _ _ ht hw]
  exact ⟨h1.1, h1.2.1, h2.2.2.1, kgt_trans g t u w h1.2.2.2 h2.2.2.2⟩
/-- Which name is above: one of two is. -/
theorem above_one (g : Sg) (a b : ByteArray) : g.above a b = true ∨ g.above b a = true ∨ a.toList = b.toList := by
  by_cases h : a.toList = b.toList
  · exact .inr (.inr h)
  · have := above_total g h
    cases hb : g.above b a
    · rw [hb] at this; exact .inl this
    · exact .inr (.inl rfl)
/-- The weight that both tell. -/
theorem loadW_wt (g : Sg) (t : Term) (ht : t.size ≤ 1048576) : (t.loadW g 1 []).1 = t.wt g :=
  (loadW_ok g 1 (.inl rfl) t [] (by simp) (by omega) (fun x => by simp [look]; omega)).1
end Go.Proofs.Ytfcedichoigbbaa.Am

/-
  The document's path order: what is told of two parts is the order. No condition.
-/
namespace Go.Proofs.Ytfcedichoigbbaa.Am
open Go Go.Proofs
set_option maxHeartbeats 4000000
set_option linter.unusedSimpArgs false
set_option linter.unusedVariables false
noncomputable section
open Classical
/-- What the order says of two parts. -/
def oneB (g : Sg) (v1 : Int) (f1 : ByteArray) (a1 : List Term) (v2 : Int) (f2 : ByteArray) (a2 : List Term) : Bool :=
  if f1.toList = [] then false else if under g a1 (.mk v2 f2 a2) then true else if f2.toList = [] then false else if lpoOver g (.mk v1 f1 a1) a2 = false then false
  else if f1.toList ≠ f2.toList ∨ a1.length ≠ a2.length then g.symR f1 f2 a1.length a2.length else (firstGt g a1 a2).getD false
theorem symR_iff (g : Sg) (f h : ByteArray) (n m : Nat) : g.symR f h n m = true ↔ SymGt g f h n m := by
  unfold Sg.symR SymGt
  rw [aboveR_eq]
  by_cases e : f.toList = h.toList <;> simp [e]
theorem lex_first (g : Sg) : ∀ a b : List Term, a.length = b.length → ((∃ (i : Nat) (x y : Term), (∀ j : Nat, j < i → a[j]? = b[j]?) ∧ a[i]? = some x ∧ b[i]? = some y ∧ Lpo g x y) ↔ (firstGt g a b).getD false = true)
  | [], [], _ => by simp [firstGt]
  | [], _ :: _, h => by simp at h
  | _ :: _, [], h => by simp at h
  | t :: r, u :: q, h => by
    simp only [firstGt]
    by_cases hs : t.sameB u = true
    · have e := (sameB_eq t u).1 hs
      subst e
      rw [if_pos hs, ← lex_first g r q (by simpa using h)]
      constructor
      · rintro ⟨i, x, y, h1, h2, h3, h4⟩
        cases i with
        | zero =>
          simp at h2 h3
          rw [← h2, ← h3] at h4
          exact absurd h4 (Lpo.irrefl g t)
        | succ i => exact ⟨i, x, y, fun j hj => by simpa using h1 (j + 1) (by omega), by simpa using h2, by simpa using h3, h4⟩
      · rintro ⟨i, x, y, h1, h2, h3, h4⟩
        refine ⟨i + 1, x, y, fun j hj => ?_, by simpa using h2, by simpa using h3, h4⟩
        cases j with
        | zero => rfl
        | succ j => simpa using h1 j (by omega)
    · rw [if_neg hs]
      simp only [Option.getD_some, lpoB, decide_eq_true_eq]
      constructor
      · rintro ⟨i, x, y, h1, h2, h3, h4⟩
        cases i with
        | zero =>
          simp at h2 h3
          rw [← h2, ← h3] at h4
          exact h4
        | succ i =>
          have h0 := h1 0 (by omega)
          simp at h0
          exact absurd ((sameB_eq t u).2 h0) hs
      · exact fun k => ⟨0, t, u, fun j hj => by omega, rfl, rfl, k⟩
theorem oneB_lpo (g : Sg) (v1 : Int) (f1 : ByteArray) (a1 : List Term) (v2 : Int) (f2 : ByteArray) (a2 : List Term) : oneB g v1 f1 a1 v2 f2 a2 = lpoB g (.mk v1 f1 a1) (.mk v2 f2 a2) := by
  rw [Bool.eq_iff_iff]
  unfold oneB
  conv => rhs; simp only [lpoB, decide_eq_true_eq, Lpo.iff]
  by_cases hf : f1.toList = []
  · simp [hf]
  rw [if_neg hf]
  cases hu : under g a1 (.mk v2 f2 a2)
  · have hu' : ¬ ∃ x ∈ a1, x = .mk v2 f2 a2 ∨ Lpo g x (.mk v2 f2 a2) := by simpa [under] using hu
    simp only [Bool.false_eq_true, if_false, hu', false_or, hf, ne_eq, not_false_eq_true, true_and]
    by_cases hh : f2.toList = []
    · simp [hh]
    simp only [if_neg hh, hh, not_false_eq_true, true_and]
    cases ho : lpoOver g (.mk v1 f1 a1) a2
    · have ho' : ¬ ∀ b ∈ a2, Lpo g (.mk v1 f1 a1) b := by simpa only [lpoOver, decide_eq_false_iff_not] using ho
      simp [ho']
    · have ho' : ∀ b ∈ a2, Lpo g (.mk v1 f1 a1) b := by simpa only [lpoOver, decide_eq_true_eq] using ho
      simp only [Bool.true_eq_false, if_false]
      rw [and_iff_right ho']
      by_cases hc : f1.toList ≠ f2.toList ∨ a1.length ≠ a2.length
      · rw [if_pos hc, symR_iff]
        constructor
        · exact .inl
        · rintro (h | ⟨h1, h2, _⟩)
          · exact h
          · rcases hc with hc | hc
            · exact absurd h1 hc
            · exact absurd h2 hc
      · rw [if_neg hc]
        have hc1 : f1.toList = f2.toList := Classical.not_not.1 fun h => hc (.inl h)
        have hc2 : a1.length = a2.length := Classical.not_not.1 fun h => hc (.inr h)
        rw [← lex_first g a1 a2 hc2]
        constructor
        · exact fun h => .inr ⟨hc1, hc2, h⟩
        · rintro (h | ⟨_, _, h⟩)
          · rcases h with ⟨h, _⟩ | ⟨_, h⟩
            · exact absurd hc1 h
            · omega
          · exact h
  · have hu' : ∃ x ∈ a1, x = .mk v2 f2 a2 ∨ Lpo g x (.mk v2 f2 a2) := by simpa [under] using hu
    simp [hu', hf]
end
end Go.Proofs.Ytfcedichoigbbaa.Am

/-
  The program's path order: what its functions find on the objects. No condition.
-/
namespace Go.Proofs.Ytfcedichoigbbaa.Am
open Go Go.Proofs
set_option maxHeartbeats 4000000
set_option maxRecDepth 20000
set_option linter.unusedSimpArgs false
set_option linter.unusedVariables false

/-- A part in the row. -/
structure PAt (s : Laid) (i : Nat) (v : Int) (fn : ByteArray) (args : List Term) (ns : List Int) : Prop where
  get : s.1[i]? = some (.mk v fn args)
  own : s.2[i]? = some ns
  lt : i < s.1.length
  lti : (i : Int) < (s.1.length : Int)
  len : (encPt s).length = s.1.length * 4
  t3 : List.take 3 (List.drop (i * 4) (List.map AV.d (encPt s))) = [.d (.int .i64 v), .d (.str fn), .d (.sl (encL args) args.length false none)]
  t4 : List.take 4 (List.drop (i * 4) (List.map AV.d (encPt s))) = [.d (.int .i64 v), .d (.str fn), .d (.sl (encL args) args.length false none), .d (.sl (encI ns) ns.length false (some (decide (ns = []))))]
  ltm : i * 4 < s.1.length * 4
  le3 : i * 4 + 3 ≤ s.1.length * 4
  le4 : i * 4 + 4 ≤ s.1.length * 4
theorem pat_ok {s : Laid} (hs : LOk s) {i : Nat} {v : Int} {fn : ByteArray} {args : List Term} (h : s.1[i]? = some (.mk v fn args)) : ∃ ns, PAt s i v fn args ns ∧ ns.length = args.length ∧ ∀ (j : Nat) n, ns[j]? = some n → ∃ m : Nat, n = m ∧ m < i ∧ s.1[m]? = args[j]? := by
  obtain ⟨ns, h1, h2, h3⟩ := hs.own i v fn args h
  have hl := (List.getElem?_eq_some_iff.1 h).1
  have hz : (s.1.zip s.2)[i]? = some (.mk v fn args, ns) := by rw [List.getElem?_zip_eq_some]; exact ⟨h, h1⟩
  have h4 := encPz_at _ _ _ _ hz
  have t4 : List.take 4 (List.drop (i * 4) (List.map AV.d (encPt s))) = [.d (.int .i64 v), .d (.str fn), .d (.sl (encL args) args.length false none), .d (.sl (encI ns) ns.length false (some (decide (ns = []))))] := by
    have := congrArg (List.map AV.d) h4
    simpa [Term.enc, List.map_take, List.map_drop, encPt] using this
  refine ⟨ns, ⟨h, h1, hl, by omega, encPt_len hs.len, ?_, t4, by omega, by omega, by omega⟩, h2, h3⟩
  have := congrArg (List.take 3) t4
  simpa [List.take_take] using this

/-- What the functions have: parts of both terms, cells. -/
structure LE where
  g : Sg
  s : Laid
  r : Laid
  oX : Oid
  oY : Oid
  oK : Oid
  oA : Oid
  oF : Oid
  oG : Oid
  rX : Oid
  rY : Oid
  oM : Oid
def LE.askC (E : LE) : List AV := [.ptr E.oK 0 1, .ptr E.oF 0 1]
def LE.findC (E : LE) : List AV := [.ptr E.oX 0 1, .ptr E.oY 0 1, .ptr E.oA 0 1, .ptr E.oG 0 2]
structure LE.In (E : LE) (H : Hp) : Prop where
  X : H E.oX = some (.cells [.osl E.rX 0 E.s.1.length 4 (E.s.1.length * 4)])
  RX : H E.rX = some (.grow ((encPt E.s).map .d))
  Y : H E.oY = some (.cells [.osl E.rY 0 E.r.1.length 4 (E.r.1.length * 4)])
  RY : H E.rY = some (.grow ((encPt E.r).map .d))
  K : H E.oK = some (.cells [.map E.oM])
  A : H E.oA = some (.cells [.fn 61 [.ptr E.oK 0 1, .ptr E.oF 0 1]])
  F : H E.oF = some (.cells [.fn 56 [.ptr E.oX 0 1, .ptr E.oY 0 1, .ptr E.oA 0 1, .ptr E.oG 0 2]])
  G : H E.oG = some (.cells [.d (.sl (encS E.g.names) E.g.names.length false none), .d (.sl (encI E.g.weights) E.g.weights.length false none)])
structure LE.Lt (E : LE) (b : Nat) : Prop where
  X : E.oX.1 < b
  Y : E.oY.1 < b
  K : E.oK.1 < b
  A : E.oA.1 < b
  F : E.oF.1 < b
  G : E.oG.1 < b
  RX : E.rX.1 < b
  RY : E.rY.1 < b
  M : E.oM.1 < b
structure LE.Ne (E : LE) : Prop where
  X : E.oX ≠ E.oM
  Y : E.oY ≠ E.oM
  K : E.oK ≠ E.oM
  A : E.oA ≠ E.oM
  F : E.oF ≠ E.oM
  G : E.oG ≠ E.oM
  RX : E.rX ≠ E.oM
  RY : E.rY ≠ E.oM
theorem LE.Lt.mono {E : LE} {b c : Nat} (h : E.Lt b) (k : b ≤ c) : E.Lt c := ⟨Nat.lt_of_lt_of_le h.X k, Nat.lt_of_lt_of_le h.Y k, Nat.lt_of_lt_of_le h.K k, Nat.lt_of_lt_of_le h.A k, Nat.lt_of_lt_of_le h.F k, Nat.lt_of_lt_of_le h.G k, Nat.lt_of_lt_of_le h.RX k, Nat.lt_of_lt_of_le h.RY k, Nat.lt_of_lt_of_le h.M k⟩
theorem LE.In.keep {E : LE} {H H' : Hp} {b : Nat} (h : E.In H) (hl : E.Lt b) (hn : E.Ne) (k : ∀ p : Oid, p.1 < b → p ≠ E.oM → H' p = H p) : E.In H' :=
  ⟨(k _ hl.X hn.X).trans h.X, (k _ hl.RX hn.RX).trans h.RX, (k _ hl.Y hn.Y).trans h.Y, (k _ hl.RY hn.RY).trans h.RY, (k _ hl.K hn.K).trans h.K, (k _ hl.A hn.A).trans h.A, (k _ hl.F hn.F).trans h.F, (k _ hl.G hn.G).trans h.G⟩
noncomputable def LE.lp (E : LE) (i k : Nat) : Bool := match E.s.1[i]?, E.r.1[k]? with | some x, some y => lpoB E.g x y | _, _ => false
/-- What the map tells of pairs whose sum is below a number is true. -/
def LE.Truth (E : LE) (M : PM) (n : Nat) : Prop := ∀ a c : Nat, a + c < n → getM M a c = 0 ∨ (getM M a c = 2 ∧ E.lp a c = true) ∨ (getM M a c = 1 ∧ E.lp a c = false)
def LE.AskOk (E : LE) (i k : Nat) : Prop := ∀ H nx M, E.Lt nx → E.In H → H E.oM = some (mkM M) → E.Truth M (i + k + 1) → ∃ q : Hp × Nat, acall Try.prog plc 61 (.d (.int .i64 i) :: .d (.int .i64 k) :: E.askC) H nx = some (.d (.bool (E.lp i k)), q.1, q.2) ∧ nx ≤ q.2 ∧
  (∃ M', q.1 E.oM = some (mkM M') ∧ E.Truth M' (i + k + 1) ∧ ∀ a c : Nat, i + k < a + c → getM M' a c = getM M a c) ∧ ∀ p, p.1 < nx → p ≠ E.oM → q.1 p = H p
/-- What holds of the objects while pairs below a sum are asked. -/
def LE.I (E : LE) (b m : Nat) (M0 : PM) (H0 H : Hp) : Prop := E.In H ∧ (∃ M, H E.oM = some (mkM M) ∧ E.Truth M m ∧ ∀ a c : Nat, m ≤ a + c → getM M a c = getM M0 a c) ∧ ∀ p : Oid, p.1 < b → p ≠ E.oM → H p = H0 p
theorem LE.I.old {E : LE} {b m : Nat} {M0 : PM} {H0 : Hp} (hl : E.Lt b) (hn : E.Ne) : Old b (E.I b m M0 H0) := by
  intro H H' k ⟨h1, ⟨M, h2, h3, h4⟩, h5⟩
  exact ⟨h1.keep hl hn fun p hp _ => k p hp, ⟨M, (k _ hl.M).trans h2, h3, h4⟩, fun p hp hq => (k p hp).trans (h5 p hp hq)⟩
theorem LE.AskOk.keep {E : LE} {i k b m : Nat} {M0 : PM} {H0 : Hp} (h : E.AskOk i k) (hl : E.Lt b) (hn : E.Ne) (hm : i + k < m) :
    ∀ H nx, b ≤ nx → E.I b m M0 H0 H → ∃ q : Hp × Nat, acall Try.prog plc 61 (.d (.int .i64 i) :: .d (.int .i64 k) :: E.askC) H nx = some (.d (.bool (E.lp i k)), q.1, q.2) ∧ nx ≤ q.2 ∧ E.I b m M0 H0 q.1 := by
  intro H nx hb ⟨h1, ⟨M, h2, h3, h4⟩, h5⟩
  obtain ⟨q, e1, e2, ⟨M', e3, e4, e5⟩, e6⟩ := h H nx M (hl.mono hb) h1 h2 (fun a c hac => h3 a c (by omega))
  refine ⟨q, e1, e2, h1.keep (hl.mono hb) hn e6, ⟨M', e3, fun a c hac => ?_, fun a c hac => (e5 a c (by omega)).trans (h4 a c hac)⟩, fun p hp hq => (e6 p (by omega) hq).trans (h5 p hp hq)⟩
  rcases Nat.lt_or_ge (i + k) (a + c) with h | h
  · rw [e5 a c h]; exact h3 a c hac
  · exact e4 a c (by omega)
/-- A call as functions of the objects. -/
theorem call_fn {f : FuncId} {vs : List AV} {b : Nat} {I : Hp → Prop} {v : AV} (h : ∀ H nx, b ≤ nx → I H → ∃ q : Hp × Nat, acall Try.prog plc f vs H nx = some (v, q.1, q.2) ∧ nx ≤ q.2 ∧ I q.1) :
    ∃ (F : Hp → Nat → Hp) (N : Hp → Nat → Nat), ∀ H nx, b ≤ nx → I H → acall Try.prog plc f vs H nx = some (v, F H nx, N H nx) ∧ nx ≤ N H nx ∧ I (F H nx) := by
  have h2 : ∀ z : Hp × Nat, ∃ q : Hp × Nat, b ≤ z.2 → I z.1 → acall Try.prog plc f vs z.1 z.2 = some (v, q.1, q.2) ∧ z.2 ≤ q.2 ∧ I q.1 := fun z => by
    by_cases h1 : b ≤ z.2 ∧ I z.1
    · obtain ⟨q, hq⟩ := h z.1 z.2 h1.1 h1.2
      exact ⟨q, fun _ _ => hq⟩
    · exact ⟨default, fun a b => absurd ⟨a, b⟩ h1⟩
  obtain ⟨G, hG⟩ := Classical.skolem.1 h2
  exact ⟨fun H nx => (G (H, nx)).1, fun H nx => (G (H, nx)).2, fun H nx a b => hG (H, nx) a b⟩
/-- The first closure: is a part the same, or greater? -/
theorem above_asks {E : LE} (hsz : E.s.1.length ≤ 9223372036854775807) {b m : Nat} {M0 : PM} {H0 : Hp} (hl : E.Lt b) (hn : E.Ne) {n k : Nat} (hm : n + k < m) (h : E.AskOk n k) {v : Int} {fn : ByteArray} {args : List Term} {ns : List Int} (pa : PAt E.s n v fn args ns) (hok : (Term.mk v fn args).ok)
    {v2 : Int} {fn2 : ByteArray} {args2 : List Term} {w : AV} (hok2 : (Term.mk v2 fn2 args2).ok) {oT oI : Oid} (hT : oT.1 < b ∧ oT ≠ E.oM) (hTc : H0 oT = some (.cells [.d (.int .i64 v2), .d (.str fn2), .d (.sl (encL args2) args2.length false none), w])) (hI : oI.1 < b ∧ oI ≠ E.oM) (hIc : H0 oI = some (.cells [.d (.int .i64 k)])) :
    Asks 57 [.ptr E.oX 0 1, .ptr oT 0 4, .ptr E.oA 0 1, .ptr oI 0 1] b (E.I b m M0 H0) n ((Term.mk v fn args).sameB (.mk v2 fn2 args2) || E.lp n k) := by
  intro H nx hb hI0
  obtain ⟨F, N, hFN⟩ := call_fn (h.keep (M0 := M0) (H0 := H0) hl hn hm)
  have hin := hI0.1
  have hTH := (hI0.2.2 _ hT.1 hT.2).trans hTc
  have hIH := (hI0.2.2 _ hI.1 hI.2).trans hIc
  have hsame := same_ok _ hok _ hok2
  simp [Term.enc] at hsame
  have hx := hin.X
  have hrx := hin.RX
  have ha := hin.A
  have hw : IntKind.i64.wrap (n : Int) = n := wrap_i64 (by omega) (by have := pa.lt; omega)
  have hFc := fun H nx a b => (hFN H nx a b).1
  have hbk : ∀ k, b ≤ nx + k := fun k => by omega
  simp [LE.askC] at hFc
  cases hs : (Term.mk v fn args).sameB (.mk v2 fn2 args2)
  · rw [hs] at hsame
    obtain ⟨_, e2, e3⟩ := hFN H (nx + 16) (hbk 16) hI0
    refine ⟨(F H (nx + 16), N H (nx + 16)), acall_body code57 ?_, by simp only; omega, e3⟩
    simp [plc_raw, Nat.add_assoc, hx, hrx, ha, hTH, hIH, pa.lt, pa.lti, pa.len, pa.t3, pa.ltm, pa.le3, hsame, hFc, hbk, hI0]
  · rw [hs] at hsame
    refine ⟨(H, nx + 16), acall_body code57 ?_, by simp only; omega, hI0⟩
    simp [plc_raw, Nat.add_assoc, hx, hrx, ha, hTH, hIH, pa.lt, pa.lti, pa.len, pa.t3, pa.ltm, pa.le3, hsame]
/-- The second closure: is the first part not greater than an argument of the second? -/
theorem notAsk_asks {E : LE} {b m : Nat} {M0 : PM} {H0 : Hp} (hl : E.Lt b) (hn : E.Ne) {n k : Nat} (hm : n + k < m) (h : E.AskOk n k) {oI : Oid} (hI : oI.1 < b ∧ oI ≠ E.oM) (hIc : H0 oI = some (.cells [.d (.int .i64 n)])) :
    Asks 59 [.ptr E.oA 0 1, .ptr oI 0 1] b (E.I b m M0 H0) k (!E.lp n k) := by
  intro H nx hb hI0
  obtain ⟨F, N, hFN⟩ := call_fn (h.keep (M0 := M0) (H0 := H0) hl hn hm)
  have ha := hI0.1.A
  have hIH := (hI0.2.2 _ hI.1 hI.2).trans hIc
  have hFc := fun H nx a b => (hFN H nx a b).1
  have hbk : ∀ k, b ≤ nx + k := fun k => by omega
  simp [LE.askC] at hFc
  obtain ⟨_, e2, e3⟩ := hFN H (nx + 7) (hbk 7) hI0
  refine ⟨(F H (nx + 7), N H (nx + 7)), acall_body code59 ?_, by simp only; omega, e3⟩
  simp [plc_raw, Nat.add_assoc, ha, hIH, hFc, hbk, hI0]
/-- What the search of a pair does. -/
def LE.FindOk (E : LE) (i k : Nat) : Prop := ∀ H nx M, E.Lt nx → E.In H → H E.oM = some (mkM M) → E.Truth M (i + k) → ∃ q : Hp × Nat, acall Try.prog plc 56 (.d (.int .i64 i) :: .d (.int .i64 k) :: E.findC) H nx = some (.d (.bool (E.lp i k)), q.1, q.2) ∧ nx ≤ q.2 ∧
  (∃ M', q.1 E.oM = some (mkM M') ∧ E.Truth M' (i + k) ∧ ∀ a c : Nat, i + k ≤ a + c → getM M' a c = getM M a c) ∧ ∀ p, p.1 < nx → p ≠ E.oM → q.1 p = H p
end Go.Proofs.Ytfcedichoigbbaa.Am

/-
  The program's path order: the search of a pair. No condition.
-/
namespace Go.Proofs.Ytfcedichoigbbaa.Am
open Go Go.Proofs
set_option maxHeartbeats 4000000
set_option maxRecDepth 20000
set_option linter.unusedSimpArgs false
set_option linter.unusedVariables false
theorem psymbol_ok (g : Sg) (hg : g.ok) (v1 : Int) (f1 : ByteArray) (a1 : List Term) (v2 : Int) (f2 : ByteArray) (a2 : List Term) :
    pcl Cp 60 [.agg g.enc, .agg (Term.mk v1 f1 a1).enc, .agg (Term.mk v2 f2 a2).enc] = some (.bool (g.symR f1 f2 a1.length a2.length)) := by
  have hab := above_ok g hg f1 f2
  refine pcl_body code60 ?_
  unfold Sg.symR
  rw [aboveR_eq]
  simp [Sg.enc] at hab
  by_cases hf : f1.toList = f2.toList
  · simp [Term.enc, Sg.enc, plc_raw, hf]
  · simp [Term.enc, Sg.enc, plc_raw, hf, hab]
abbrev findH (H : Hp) (nx i k : Nat) (v1 : Int) (f1 : ByteArray) (a1 : List Term) (ns1 : List Int) (v2 : Int) (f2 : ByteArray) (a2 : List Term) (ns2 : List Int) : Hp :=
  upd (upd (upd (upd (upd (upd (upd (upd (upd (upd H (nx, 0) (.cells [.d (.int .i64 i)])) (nx + 1, 0) (.cells [.d (.int .i64 k)])) (nx + 11, 3) .vnil) (nx + 11, 4) .vnil) (nx + 11, 0) (.cells [.d (.int .i64 0), .d (.str (ByteArray.mk #[])), .osl (nx + 11, 3) 0 0 1 0, .osl (nx + 11, 4) 0 0 1 0]))
    (nx + 12, 3) .vnil) (nx + 12, 4) .vnil) (nx + 12, 0) (.cells [.d (.int .i64 0), .d (.str (ByteArray.mk #[])), .osl (nx + 12, 3) 0 0 1 0, .osl (nx + 12, 4) 0 0 1 0]))
    (nx + 11, 0) (.cells [.d (.int .i64 v1), .d (.str f1), .d (.sl (encL a1) a1.length false none), .d (.sl (encI ns1) ns1.length false (some (decide (ns1 = []))))]))
    (nx + 12, 0) (.cells [.d (.int .i64 v2), .d (.str f2), .d (.sl (encL a2) a2.length false none), .d (.sl (encI ns2) ns2.length false (some (decide (ns2 = []))))])
theorem get_mk {a : List Term} {i : Nat} (h : i < a.length) : ∃ v f b, a[i]? = some (Term.mk v f b) := by
  rw [List.getElem?_eq_getElem h]
  exact match a[i] with | .mk v f b => ⟨v, f, b, rfl⟩
theorem lp_at {E : LE} {a c : Nat} {x y : Term} (hx : E.s.1[a]? = some x) (hy : E.r.1[c]? = some y) : E.lp a c = lpoB E.g x y := by simp [LE.lp, hx, hy]
/-- The last loop: the first arguments that are not the same. -/
abbrev findT (E : LE) (nx k : Nat) (ns1 : List Int) (j : Nat) : List AV := [.junk, .junk, .ptr E.oX 0 1, .ptr E.oY 0 1, .ptr E.oA 0 1, .junk, .junk, .junk, .d (.bool false), .junk, .ptr (nx + 12, 0) 0 4, .junk, .junk, .junk, .junk, .junk, .junk, .junk, .junk, .junk, .junk, .junk, .junk, .junk, .junk, .junk, .junk, .junk, .junk, .junk, .junk, .junk, .junk, .junk, .junk, .junk, .junk, .junk, .junk, .junk, .junk, .junk, .junk, .junk, .junk, .junk, .junk, .junk, .junk, .junk, .junk, .junk, .junk, .junk, .junk, .junk, .junk, .junk, .junk, .junk, .junk, .junk, .junk, .junk, .junk, .junk, .junk, .junk, .d (.sl (encI ns1) ns1.length false (some (decide (ns1 = [])))), .d (.int .i64 ns1.length), .d (.int .i64 j), .junk, .junk, .junk, .junk, .junk, .junk, .junk, .junk, .junk, .junk, .junk, .junk, .junk, .junk, .junk, .junk, .junk, .junk, .junk, .junk, .junk, .junk, .junk, .junk, .junk, .junk, .junk, .junk, .junk]
def FindEnd (E : LE) (nx m : Nat) (M : PM) (H0 : Hp) (b k : Nat) (ns1 : List Int) (r : Option Bool) (e : Ex) (t : St) : Prop :=
  match r with
  | none => ∃ H' n', e = .exit 1 ∧ t = ⟨findT E nx k ns1 ns1.length, H', n'⟩ ∧ b ≤ n' ∧ E.I (nx + 15) m M H0 H'
  | some x => e = .ret ∧ t.tm[8]? = some (.d (.bool x)) ∧ b ≤ t.nx ∧ E.I (nx + 15) m M H0 t.hp
theorem find_loop (E : LE) (hs : LOk E.s) (hr : LOk E.r) (hsz : E.s.1.length ≤ 9223372036854775807) (hrz : E.r.1.length ≤ 9223372036854775807) (hn : E.Ne) (i k : Nat) (v1 : Int) (f1 : ByteArray) (a1 : List Term) (v2 : Int) (f2 : ByteArray) (a2 : List Term)
    (hi : E.s.1[i]? = some (.mk v1 f1 a1)) (hk : E.r.1[k]? = some (.mk v2 f2 a2)) (ho1 : ∀ x ∈ E.s.1, x.ok) (ho2 : ∀ x ∈ E.r.1, x.ok) (ih : ∀ a c : Nat, a + c < i + k → a < E.s.1.length → c < E.r.1.length → E.AskOk a c)
    (ns1 ns2 : List Int) (hl1 : ns1.length = a1.length) (hns1 : ∀ (j : Nat) n, ns1[j]? = some n → ∃ m : Nat, n = m ∧ m < i ∧ E.s.1[m]? = a1[j]?) (hl2 : ns2.length = a2.length) (hns2 : ∀ (j : Nat) n, ns2[j]? = some n → ∃ m : Nat, n = m ∧ m < k ∧ E.r.1[m]? = a2[j]?)
    (hlen : a1.length = a2.length) (hal : a1.length ≤ 9223372036854775807) (nx : Nat) (hl : E.Lt nx) (M : PM) (H0 : Hp) (hc : H0 (nx + 12, 0) = some (.cells [.d (.int .i64 v2), .d (.str f2), .d (.sl (encL a2) a2.length false none), .d (.sl (encI ns2) ns2.length false (some (decide (ns2 = []))))]))
    (H1 : Hp) (b : Nat) (hb : nx + 15 ≤ b) (hI1 : E.I (nx + 15) (i + k) M H0 H1) :
    ∃ e t, aloop Try.prog plc b56_0 ⟨[false, false, true, true, true, false, false, false, true, false, true, false, false, false, false, false, false, false, false, false, false, false, false, false, false, false, false, false, false, false, false, false, false, false, false, false, false, false, false, false, false, false, false, false, false, false, false, false, false, false, false, false, false, false, false, false, false, false, false, false, false, false, false, false, false, false, false, false, true, true, true, false, false, false, false, false, false, false, false, false, false, false, false, false, false, false, false, false, false, false, false, false, false, false, false, false, false, false, false, false], some b⟩ ⟨findT E nx k ns1 0, H1, b⟩ = some (e, t) ∧ FindEnd E nx (i + k) M H0 b k ns1 (firstGt E.g a1 a2) e t := by
  have hne : (nx + 12, 0) ≠ E.oM := fun e => by have := hl.M; rw [← e] at this; simp at this; omega
  have key := loop_rule (P := Try.prog) (pol := plc) (c := b56_0) (m := ⟨[false, false, true, true, true, false, false, false, true, false, true, false, false, false, false, false, false, false, false, false, false, false, false, false, false, false, false, false, false, false, false, false, false, false, false, false, false, false, false, false, false, false, false, false, false, false, false, false, false, false, false, false, false, false, false, false, false, false, false, false, false, false, false, false, false, false, false, false, true, true, true, false, false, false, false, false, false, false, false, false, false, false, false, false, false, false, false, false, false, false, false, false, false, false, false, false, false, false, false, false], some b⟩)
    (b := b) (tm := fun (x : Nat × Hp) => findT E nx k ns1 x.1) (Hf := fun x => x.2)
    (I := fun x => x.1 ≤ a1.length ∧ E.I (nx + 15) (i + k) M H0 x.2) (μ := fun x => a1.length - x.1) (res := fun x => firstGt E.g (a1.drop x.1) (a2.drop x.1)) (R := FindEnd E nx (i + k) M H0 b k ns1)
    (fun x nx1 hx => by
      obtain ⟨j, HH⟩ := x
      obtain ⟨hj, hII⟩ := hx
      simp only at hj hII ⊢
      have hin := hII.1
      have hold := LE.I.old (E := E) (b := nx + 15) (m := i + k) (M0 := M) (H0 := H0) (hl.mono (by omega)) hn
      rcases Nat.lt_or_ge j a1.length with hjl | hjl
      · have hTH := (hII.2.2 (nx + 12, 0) (by simp) hne).trans hc
        have hx := hin.X
        have hrx := hin.RX
        have hy := hin.Y
        have hry := hin.RY
        have hA := hin.A
        obtain ⟨n, hn1⟩ : ∃ n, ns1[j]? = some n := ⟨ns1[j]'(by omega), by simp [hl1, hjl]⟩
        obtain ⟨m, rfl, hmi, hm⟩ := hns1 j n hn1
        obtain ⟨n', hn2⟩ : ∃ n, ns2[j]? = some n := ⟨ns2[j]'(by omega), by simp [hl2, ← hlen, hjl]⟩
        obtain ⟨m', rfl, hmi', hm'⟩ := hns2 j n' hn2
        obtain ⟨w1, g1, b1, hb1⟩ := get_mk hjl
        obtain ⟨w2, g2, b2, hb2⟩ := get_mk (a := a2) (i := j) (by omega)
        rw [hb1] at hm
        rw [hb2] at hm'
        obtain ⟨_, pa, _, _⟩ := pat_ok hs hm
        obtain ⟨_, pb, _, _⟩ := pat_ok hr hm'
        have hd1 : a1.drop j = .mk w1 g1 b1 :: a1.drop (j + 1) := by rw [List.drop_eq_getElem_cons hjl]; congr 1; rw [List.getElem?_eq_getElem hjl] at hb1; exact Option.some.inj hb1
        have hd2 : a2.drop j = .mk w2 g2 b2 :: a2.drop (j + 1) := by rw [List.drop_eq_getElem_cons (by omega)]; congr 1; rw [List.getElem?_eq_getElem (by omega)] at hb2; exact Option.some.inj hb2
        have hsame := same_ok _ (ho1 _ (List.mem_of_getElem? hm)) _ (ho2 _ (List.mem_of_getElem? hm'))
        simp [Term.enc] at hsame
        have hres : firstGt E.g (a1.drop j) (a2.drop j) = if (Term.mk w1 g1 b1).sameB (.mk w2 g2 b2) then firstGt E.g (a1.drop (j + 1)) (a2.drop (j + 1)) else some (E.lp m m') := by rw [hd1, hd2, lp_at hm hm']; rfl
        obtain ⟨F, N, hFN⟩ := call_fn ((ih m m' (by omega) pa.lt pb.lt).keep (M0 := M) (H0 := H0) (hl.mono (show nx ≤ nx + 15 by omega)) hn (show m + m' < i + k by omega))
        have hFc := fun H nx a b => (hFN H nx a b).1
        simp [LE.askC] at hFc
        have c1 := encI_at hn1
        have c2 := encI_at hn2
        have hlt : (j : Int) < (ns1.length : Int) := by omega
        have hlt2 : (j : Int) < (ns2.length : Int) := by omega
        have hltn : j < ns1.length := by omega
        have hltn2 : j < ns2.length := by omega
        have hw : IntKind.i64.wrap ((j : Int) + 1) = (j : Int) + 1 := wrap_i64 (by omega) (by omega)
        have hbk : ∀ k, nx + 15 ≤ nx1 + (b + k) := fun k => by omega
        conv => arg 9; arg 4; unfold b56_0
        cases hsb : (Term.mk w1 g1 b1).sameB (.mk w2 g2 b2)
        · rw [hsb] at hsame hres
          have hF2 := hFN HH (nx1 + (b + 31)) (hbk 31) hII
          simp [plc_raw, Nat.add_assoc, hTH, hx, hrx, hy, hry, hA, c1.get, c1.e, c1.tk, c1.le, c2.get, c2.e, c2.tk, c2.le, encI_len', hlt, hlt2, hltn, hltn2, hw, pa.lt, pa.lti, pa.len, pa.t3, pa.ltm, pa.le3, pb.lt, pb.lti, pb.len, pb.t3, pb.ltm, pb.le3, hsame, hFc, hbk, hII]
          refine .fin _ _ ?_
          have := hF2.2.1
          simp only [hres]
          exact ⟨rfl, rfl, by simp only; omega, hold.below (by omega) hF2.2.2⟩
        · rw [hsb] at hsame hres
          simp [plc_raw, Nat.add_assoc, hTH, hx, hrx, hy, hry, hA, c1.get, c1.e, c1.tk, c1.le, c2.get, c2.e, c2.tk, c2.le, encI_len', hlt, hlt2, hltn, hltn2, hw, pa.lt, pa.lti, pa.len, pa.t3, pa.ltm, pa.le3, pb.lt, pb.lti, pb.len, pb.t3, pb.ltm, pb.le3, hsame]
          refine .next (j + 1, below b HH) (by omega) (by simp) rfl ⟨hjl, hold.below (by omega) hII⟩ (by simp only; omega) (by simp only [hres]; rfl)
      · obtain rfl : j = a1.length := Nat.le_antisymm hj hjl
        have hres : firstGt E.g (a1.drop a1.length) (a2.drop a1.length) = none := by simp [firstGt]
        simp [b56_0, ← hl1]
        refine .fin _ _ ?_
        rw [hl1]
        simp only [hres]
        exact ⟨below b HH, nx1 + b + 1, rfl, by simp [findT, hl1], by omega, hold.below (by omega) hII⟩) (0, H1) ⟨Nat.zero_le _, hI1⟩
  simpa using key
theorem find_ok (E : LE) (hg : E.g.ok) (hs : LOk E.s) (hr : LOk E.r) (hsz : E.s.1.length ≤ 9223372036854775807) (hrz : E.r.1.length ≤ 9223372036854775807) (hn : E.Ne) (i k : Nat) (v1 : Int) (f1 : ByteArray) (a1 : List Term) (v2 : Int) (f2 : ByteArray) (a2 : List Term)
    (hi : E.s.1[i]? = some (.mk v1 f1 a1)) (hk : E.r.1[k]? = some (.mk v2 f2 a2)) (ho1 : ∀ x ∈ E.s.1, x.ok) (ho2 : ∀ x ∈ E.r.1, x.ok) (ih : ∀ a c : Nat, a + c < i + k → a < E.s.1.length → c < E.r.1.length → E.AskOk a c) : E.FindOk i k := by
  intro H nx M hl hin hM hT
  obtain ⟨ns1, pa, hl1, hns1⟩ := pat_ok hs hi
  obtain ⟨ns2, pb, hl2, hns2⟩ := pat_ok hr hk
  have k1 := ho1 _ (List.mem_of_getElem? hi)
  have k2 := ho2 _ (List.mem_of_getElem? hk)
  have z1 : ns1.length ≤ 9223372036854775807 := by rw [hl1]; exact k1.1
  have z2 : ns2.length ≤ 9223372036854775807 := by rw [hl2]; exact k2.1
  have hx := hin.X
  have hrx := hin.RX
  have hy := hin.Y
  have hry := hin.RY
  have fx : ∀ k j x H', Am.upd H' (nx + k, j) x E.oX = H' E.oX := fun k j x H' => upd_old (by have := hl.X; omega) j x H'
  have fx0 : ∀ j x H', Am.upd H' (nx, j) x E.oX = H' E.oX := fun j x H' => upd_old (by have := hl.X; omega) j x H'
  have frx : ∀ k j x H', Am.upd H' (nx + k, j) x E.rX = H' E.rX := fun k j x H' => upd_old (by have := hl.RX; omega) j x H'
  have frx0 : ∀ j x H', Am.upd H' (nx, j) x E.rX = H' E.rX := fun j x H' => upd_old (by have := hl.RX; omega) j x H'
  have fy : ∀ k j x H', Am.upd H' (nx + k, j) x E.oY = H' E.oY := fun k j x H' => upd_old (by have := hl.Y; omega) j x H'
  have fy0 : ∀ j x H', Am.upd H' (nx, j) x E.oY = H' E.oY := fun j x H' => upd_old (by have := hl.Y; omega) j x H'
  have fry : ∀ k j x H', Am.upd H' (nx + k, j) x E.rY = H' E.rY := fun k j x H' => upd_old (by have := hl.RY; omega) j x H'
  have fry0 : ∀ j x H', Am.upd H' (nx, j) x E.rY = H' E.rY := fun j x H' => upd_old (by have := hl.RY; omega) j x H'
  have ney : ∀ k j, ¬ E.oY = (nx + k, j) := fun k j e => by have := hl.Y; rw [e] at this; simp at this; omega
  have nery : ∀ k j, ¬ E.rY = (nx + k, j) := fun k j e => by have := hl.RY; rw [e] at this; simp at this; omega
  have neM : ∀ k j, (nx + k, j) ≠ E.oM := fun k j e => by have := hl.M; rw [← e] at this; simp at this; omega
  have neM0 : ∀ j, (nx, j) ≠ E.oM := fun j e => by have := hl.M; rw [← e] at this; simp at this
  -- the objects once all is there
  obtain ⟨Hs, hHs⟩ : ∃ Hs, Hs = findH H nx i k v1 f1 a1 ns1 v2 f2 a2 ns2 := ⟨_, rfl⟩
  have hsO : ∀ p : Oid, p.1 < nx → Hs p = H p := fun p hp => by
    rw [hHs]
    simp only [findH]
    rw [upd_old (by omega), upd_old (by omega), upd_old (by omega), upd_old (by omega), upd_old (by omega), upd_old (by omega), upd_old (by omega), upd_old (by omega), upd_old (by omega), upd_old (by omega)]
  have hs0 : Hs (nx, 0) = some (.cells [.d (.int .i64 i)]) := by rw [hHs]; simp
  have hs1 : Hs (nx + 1, 0) = some (.cells [.d (.int .i64 k)]) := by rw [hHs]; simp
  have hs11 : Hs (nx + 11, 0) = some (.cells [.d (.int .i64 v1), .d (.str f1), .d (.sl (encL a1) a1.length false none), .d (.sl (encI ns1) ns1.length false (some (decide (ns1 = []))))]) := by rw [hHs]; simp
  have hs12 : Hs (nx + 12, 0) = some (.cells [.d (.int .i64 v2), .d (.str f2), .d (.sl (encL a2) a2.length false none), .d (.sl (encI ns2) ns2.length false (some (decide (ns2 = []))))]) := by rw [hHs]; simp
  have hl15 : E.Lt (nx + 15) := hl.mono (by omega)
  have hold := LE.I.old (E := E) (b := nx + 15) (m := i + k) (M0 := M) (H0 := Hs) hl15 hn
  have hI0 : E.I (nx + 15) (i + k) M Hs Hs := ⟨hin.keep hl hn fun p hp _ => hsO p hp, ⟨M, (hsO _ hl.M).trans hM, hT, fun _ _ _ => rfl⟩, fun _ _ _ => rfl⟩
  suffices hh : ∃ (H' : Hp) (n' : Nat), acall Try.prog plc 56 (.d (.int .i64 i) :: .d (.int .i64 k) :: E.findC) H nx = some (.d (.bool (E.lp i k)), H', n') ∧ nx + 15 ≤ n' ∧ E.I (nx + 15) (i + k) M Hs H' by
    obtain ⟨H', n', h1, h2, h3, h4, h5⟩ := hh
    exact ⟨(H', n'), h1, by simp only; omega, h4, fun p hp hq => (h5 p (by omega) hq).trans (hsO p hp)⟩
  rw [lp_at hi hk, ← oneB_lpo]
  unfold oneB
  -- what the two closures tell
  have e1 : ∀ n ∈ ns1, ∃ (m : Nat) (x : Term), n = m ∧ m < i ∧ E.s.1[m]? = some x := fun n hn => by
    obtain ⟨j, hj⟩ := List.mem_iff_getElem?.1 hn
    obtain ⟨m, h1, h2, h3⟩ := hns1 j n hj
    have hlt := (List.getElem?_eq_some_iff.1 hi).1
    exact ⟨m, E.s.1[m], h1, h2, List.getElem?_eq_getElem (by omega)⟩
  have e2 : ∀ n ∈ ns2, ∃ (m : Nat) (x : Term), n = m ∧ m < k ∧ E.r.1[m]? = some x := fun n hn => by
    obtain ⟨j, hj⟩ := List.mem_iff_getElem?.1 hn
    obtain ⟨m, h1, h2, h3⟩ := hns2 j n hj
    have hlt := (List.getElem?_eq_some_iff.1 hk).1
    exact ⟨m, E.r.1[m], h1, h2, List.getElem?_eq_getElem (by omega)⟩
  have hp1 : ∃ p1 : Int → Bool, (∀ n ∈ ns1, Asks 57 [.ptr E.oX 0 1, .ptr (nx + 12, 0) 0 4, .ptr E.oA 0 1, .ptr (nx + 1, 0) 0 1] (nx + 15) (E.I (nx + 15) (i + k) M Hs) n (p1 n)) ∧ ns1.any p1 = under E.g a1 (.mk v2 f2 a2) := by
    refine ⟨fun n => match E.s.1[n.toNat]? with | some x => x.sameB (.mk v2 f2 a2) || E.lp n.toNat k | none => false, fun n hn1 => ?_, ?_⟩
    · obtain ⟨m, ⟨w, f, b⟩, rfl, hm, hx⟩ := e1 n hn1
      obtain ⟨nsm, pm, _, _⟩ := pat_ok hs hx
      simp only [Int.toNat_natCast, hx]
      exact above_asks hsz hl15 hn (by omega) (ih m k (by omega) pm.lt pb.lt) pm (ho1 _ (List.mem_of_getElem? hx)) k2 ⟨by simp, neM 12 0⟩ hs12 ⟨by simp, neM 1 0⟩ hs1
    · rw [Bool.eq_iff_iff]
      simp only [List.any_eq_true, under, decide_eq_true_eq]
      constructor
      · rintro ⟨n, hn1, hp⟩
        obtain ⟨j, hj⟩ := List.mem_iff_getElem?.1 hn1
        obtain ⟨m, rfl, h2, h3⟩ := hns1 j n hj
        cases hx : a1[j]? with
        | none => rw [hx] at h3; simp only [Int.toNat_natCast, h3] at hp; cases hp
        | some x =>
          rw [hx] at h3
          simp only [Int.toNat_natCast, h3, Bool.or_eq_true, sameB_eq, lp_at h3 hk, lpoB, decide_eq_true_eq] at hp
          exact ⟨x, List.mem_of_getElem? hx, hp⟩
      · rintro ⟨x, hx, hp⟩
        obtain ⟨j, hj⟩ := List.mem_iff_getElem?.1 hx
        have hjl := (List.getElem?_eq_some_iff.1 hj).1
        have hn1 : ns1[j]? = some (ns1[j]'(by omega)) := List.getElem?_eq_getElem (by omega)
        obtain ⟨m, h1, h2, h3⟩ := hns1 j _ hn1
        rw [hj] at h3
        refine ⟨_, List.mem_of_getElem? hn1, ?_⟩
        rw [h1]
        simp only [Int.toNat_natCast, h3, Bool.or_eq_true, sameB_eq, lp_at h3 hk, lpoB, decide_eq_true_eq]
        exact hp
  have hp2 : ∃ p2 : Int → Bool, (∀ n ∈ ns2, Asks 59 [.ptr E.oA 0 1, .ptr (nx, 0) 0 1] (nx + 15) (E.I (nx + 15) (i + k) M Hs) n (p2 n)) ∧ ns2.any p2 = !lpoOver E.g (.mk v1 f1 a1) a2 := by
    refine ⟨fun n => !E.lp i n.toNat, fun n hn1 => ?_, ?_⟩
    · obtain ⟨m, x, rfl, hm, hx⟩ := e2 n hn1
      simp only [Int.toNat_natCast]
      exact notAsk_asks hl15 hn (by omega) (ih i m (by omega) pa.lt (List.getElem?_eq_some_iff.1 hx).1) ⟨by simp, neM0 0⟩ hs0
    · rw [Bool.eq_iff_iff]
      simp only [List.any_eq_true, lpoOver, Bool.not_eq_true', decide_eq_false_iff_not]
      constructor
      · rintro ⟨n, hn1, hp⟩ hall
        obtain ⟨j, hj⟩ := List.mem_iff_getElem?.1 hn1
        obtain ⟨m, rfl, h2, h3⟩ := hns2 j n hj
        cases hx : a2[j]? with
        | none =>
          have hjl := (List.getElem?_eq_some_iff.1 hj).1
          rw [List.getElem?_eq_getElem (by omega)] at hx; cases hx
        | some x =>
          rw [hx] at h3
          simp only [Int.toNat_natCast, lp_at hi h3, lpoB, decide_eq_false_iff_not] at hp
          exact hp (hall x (List.mem_of_getElem? hx))
      · intro hall
        refine Classical.byContradiction fun hc => hall fun x hx => ?_
        obtain ⟨j, hj⟩ := List.mem_iff_getElem?.1 hx
        have hjl := (List.getElem?_eq_some_iff.1 hj).1
        have hn1 : ns2[j]? = some (ns2[j]'(by omega)) := List.getElem?_eq_getElem (by omega)
        obtain ⟨m, h1, h2, h3⟩ := hns2 j _ hn1
        rw [hj] at h3
        refine Classical.byContradiction fun hx2 => hc ⟨_, List.mem_of_getElem? hn1, ?_⟩
        rw [h1]
        simp only [Int.toNat_natCast, lp_at hi h3, lpoB, decide_eq_false_iff_not]
        exact hx2
  obtain ⟨p1, hp1, hany1⟩ := hp1
  obtain ⟨p2, hp2, hany2⟩ := hp2
  by_cases hf1 : f1.toList = []
  · refine ⟨Hs, nx + 23, acall_body code56 ?_, ?_, hI0⟩
    · rw [hHs]
      simp [LE.findC, plc_raw, Nat.add_assoc, hx, hrx, hy, hry, fx, fx0, frx, frx0, fy, fy0, fry, fry0, pa.lt, pa.lti, pa.len, pa.t4, pa.ltm, pa.le4, pb.lt, pb.lti, pb.len, pb.t4, pb.ltm, pb.le4, ney, nery, hf1]
    · omega
  obtain ⟨⟨H1, N1⟩, hc1, hN1, hI1⟩ := hasI_ok 57 (.inl rfl) _ _ _ hold ns1 z1 (some (decide (ns1 = []))) p1 hp1 Hs (nx + 27) (by omega) hI0
  simp only at hc1 hN1 hI1
  rw [hany1] at hc1
  have q11 := (hI1.2.2 (nx + 11, 0) (by simp) (neM 11 0)).trans hs11
  have q12 := (hI1.2.2 (nx + 12, 0) (by simp) (neM 12 0)).trans hs12
  rw [if_neg hf1]
  by_cases hu : under E.g a1 (.mk v2 f2 a2) = true
  · rw [hu] at hc1
    simp only [hu, if_true]
    refine ⟨H1, N1 + 1, acall_body code56 ?_, by omega, hI1⟩
    rw [hHs] at hc1
    simp [LE.findC, plc_raw, Nat.add_assoc, hx, hrx, hy, hry, fx, fx0, frx, frx0, fy, fy0, fry, fry0, pa.lt, pa.lti, pa.len, pa.t4, pa.ltm, pa.le4, pb.lt, pb.lti, pb.len, pb.t4, pb.ltm, pb.le4, ney, nery, hf1, hc1]
  simp only [Bool.not_eq_true] at hu
  rw [hu] at hc1
  simp only [hu]
  by_cases hf2 : f2.toList = []
  · refine ⟨H1, N1 + 12, acall_body code56 ?_, by omega, hI1⟩
    rw [hHs] at hc1
    simp [LE.findC, plc_raw, Nat.add_assoc, hx, hrx, hy, hry, fx, fx0, frx, frx0, fy, fy0, fry, fry0, pa.lt, pa.lti, pa.len, pa.t4, pa.ltm, pa.le4, pb.lt, pb.lti, pb.len, pb.t4, pb.ltm, pb.le4, ney, nery, hf1, hc1, q11, q12, hf2]
  obtain ⟨⟨H2, N2⟩, hc2, hN2, hI2⟩ := hasI_ok 59 (.inr rfl) _ _ _ hold ns2 z2 (some (decide (ns2 = []))) p2 hp2 H1 (N1 + 11) (by omega) hI1
  simp only at hc2 hN2 hI2
  rw [hany2] at hc2
  have r11 := (hI2.2.2 (nx + 11, 0) (by simp) (neM 11 0)).trans hs11
  have r12 := (hI2.2.2 (nx + 12, 0) (by simp) (neM 12 0)).trans hs12
  have rG := hI2.1.G
  simp only [Bool.false_eq_true, if_false, if_neg hf2]
  cases hv : lpoOver E.g (.mk v1 f1 a1) a2
  · rw [hv] at hc2
    refine ⟨H2, N2 + 1, acall_body code56 ?_, by omega, hI2⟩
    rw [hHs] at hc1
    simp [LE.findC, plc_raw, Nat.add_assoc, hx, hrx, hy, hry, fx, fx0, frx, frx0, fy, fy0, fry, fry0, pa.lt, pa.lti, pa.len, pa.t4, pa.ltm, pa.le4, pb.lt, pb.lti, pb.len, pb.t4, pb.ltm, pb.le4, ney, nery, hf1, hc1, q11, q12, hf2, hc2]
  rw [hv] at hc2
  simp only [Bool.true_eq_false, if_false]
  have hsym := psymbol_ok E.g hg v1 f1 a1 v2 f2 a2
  simp [Term.enc, Sg.enc] at hsym
  by_cases hff : f1.toList = f2.toList
  · by_cases hlen : a1.length = a2.length
    · have hcd : ¬ (f1.toList ≠ f2.toList ∨ a1.length ≠ a2.length) := by simp [hff, hlen]
      rw [if_neg hcd]
      obtain ⟨e, t, hrun, hR⟩ := find_loop E hs hr hsz hrz hn i k v1 f1 a1 v2 f2 a2 hi hk ho1 ho2 ih ns1 ns2 hl1 hns1 hl2 hns2 hlen k1.1 nx hl M Hs hs12 H2 (N2 + 21) (by omega) hI2
      simp [findT] at hrun
      have hll : ns1.length = ns2.length := by omega
      cases hfg : firstGt E.g a1 a2 with
      | none =>
        rw [hfg] at hR
        obtain ⟨H', n', rfl, rfl, hn', hI'⟩ := hR
        refine ⟨H', n' + 1, acall_body code56 ?_, by omega, hI'⟩
        rw [hHs] at hc1
        simp only [findH, hll] at hc1 q11 r11 hrun
        simp [LE.findC, plc_raw, Nat.add_assoc, hx, hrx, hy, hry, fx, fx0, frx, frx0, fy, fy0, fry, fry0, pa.lt, pa.lti, pa.len, pa.t4, pa.ltm, pa.le4, pb.lt, pb.lti, pb.len, pb.t4, pb.ltm, pb.le4, ney, nery, hf1, hc1, q11, q12, hf2, hc2, r11, r12, rG, hff, hll, hrun]
      | some x =>
        rw [hfg] at hR
        obtain ⟨rfl, ht, hn', hI'⟩ := hR
        refine ⟨t.hp, t.nx, acall_body code56 ?_, by omega, hI'⟩
        rw [hHs] at hc1
        simp only [findH, hll] at hc1 q11 r11 hrun
        simp [LE.findC, plc_raw, Nat.add_assoc, hx, hrx, hy, hry, fx, fx0, frx, frx0, fy, fy0, fry, fry0, pa.lt, pa.lti, pa.len, pa.t4, pa.ltm, pa.le4, pb.lt, pb.lti, pb.len, pb.t4, pb.ltm, pb.le4, ney, nery, hf1, hc1, q11, q12, hf2, hc2, r11, r12, rG, hff, hll, hrun, ht]
    · have hcd : f1.toList ≠ f2.toList ∨ a1.length ≠ a2.length := .inr hlen
      rw [if_pos hcd]
      refine ⟨H2, N2 + 24, acall_body code56 ?_, by omega, hI2⟩
      have hll : ¬ (ns1.length : Int) = ns2.length := by omega
      rw [hHs] at hc1
      simp [LE.findC, plc_raw, Nat.add_assoc, hx, hrx, hy, hry, fx, fx0, frx, frx0, fy, fy0, fry, fry0, pa.lt, pa.lti, pa.len, pa.t4, pa.ltm, pa.le4, pb.lt, pb.lti, pb.len, pb.t4, pb.ltm, pb.le4, ney, nery, hf1, hc1, q11, q12, hf2, hc2, r11, r12, rG, hff, hll, hsym]
  · have hcd : f1.toList ≠ f2.toList ∨ a1.length ≠ a2.length := .inl hff
    rw [if_pos hcd]
    refine ⟨H2, N2 + 24, acall_body code56 ?_, by omega, hI2⟩
    rw [hHs] at hc1
    simp [LE.findC, plc_raw, Nat.add_assoc, hx, hrx, hy, hry, fx, fx0, frx, frx0, fy, fy0, fry, fry0, pa.lt, pa.lti, pa.len, pa.t4, pa.ltm, pa.le4, pb.lt, pb.lti, pb.len, pb.t4, pb.ltm, pb.le4, ney, nery, hf1, hc1, q11, q12, hf2, hc2, r11, r12, rG, hff, hsym]
end Go.Proofs.Ytfcedichoigbbaa.Am

/-
  The program's path order: asking for a pair. No condition.
-/
namespace Go.Proofs.Ytfcedichoigbbaa.Am
open Go Go.Proofs
set_option maxHeartbeats 4000000
set_option maxRecDepth 20000
set_option linter.unusedSimpArgs false
set_option linter.unusedVariables false
theorem ask_ok (E : LE) (hn : E.Ne) (i k : Nat) (hf : E.FindOk i k) : E.AskOk i k := by
  intro H nx M hl hin hM hT
  have hK := hin.K
  have hF := hin.F
  have fK : ∀ k j x H', Am.upd H' (nx + k, j) x E.oK = H' E.oK := fun k j x H' => upd_old (by have := hl.K; omega) j x H'
  have fF : ∀ k j x H', Am.upd H' (nx + k, j) x E.oF = H' E.oF := fun k j x H' => upd_old (by have := hl.F; omega) j x H'
  have fM : ∀ k j x H', Am.upd H' (nx + k, j) x E.oM = H' E.oM := fun k j x H' => upd_old (by have := hl.M; omega) j x H'
  have neM : ∀ k j, (nx + k, j) ≠ E.oM := fun k j e => by have := hl.M; rw [← e] at this; simp at this; omega
  have hlk := fun (H' : Hp) (M' : PM) (h : H' E.oM = some (mkM M')) => lookM h i k
  have hup := fun (H' : Hp) (M' : PM) (h : H' E.oM = some (mkM M')) (v : Int) => updM h i k v
  obtain ⟨Hs, hHs⟩ : ∃ Hs, Hs = upd (upd H (nx + 4, 0) (.cells [.d (.int .i64 0), .d (.int .i64 0)])) (nx + 4, 0) (.cells [.d (.int .i64 i), .d (.int .i64 k)]) := ⟨_, rfl⟩
  have hsO : ∀ p : Oid, p.1 < nx → Hs p = H p := fun p hp => by rw [hHs, upd_old (by omega), upd_old (by omega)]
  have hs4 : Hs (nx + 4, 0) = some (.cells [.d (.int .i64 i), .d (.int .i64 k)]) := by rw [hHs]; simp
  have hsM : Hs E.oM = some (mkM M) := (hsO _ hl.M).trans hM
  have hsK := (hsO _ hl.K).trans hK
  have hsF := (hsO _ hl.F).trans hF
  have hHs' := hHs
  simp at hHs'
  rcases hT i k (by omega) with h0 | ⟨h2, hlp⟩ | ⟨h1, hlp⟩
  · -- not asked yet
    obtain ⟨H1, hH1⟩ : ∃ H1, H1 = upd Hs E.oM (mkM (setM M i k 1)) := ⟨_, rfl⟩
    have h1O : ∀ p : Oid, p ≠ E.oM → H1 p = Hs p := fun p hp => by rw [hH1, upd_ne hp]
    have h1M : H1 E.oM = some (mkM (setM M i k 1)) := by rw [hH1]; simp
    have hne : ∀ a c : Nat, a + c ≠ i + k ∨ a ≠ i → ¬ ((a : Int) = i ∧ (c : Int) = k) := fun a c h e => by omega
    have hT1 : E.Truth (setM M i k 1) (i + k) := fun a c hac => by
      rw [get_set_ne 1 (hne a c (.inl (by omega)))]
      exact hT a c (by omega)
    have hin1 : E.In H1 := hin.keep hl hn fun p hp hq => (h1O p hq).trans (hsO p hp)
    obtain ⟨⟨H2, N2⟩, hc, hN2, ⟨M2, hM2, hT2, hge⟩, hfr⟩ := hf H1 (nx + 17) _ (hl.mono (by omega)) hin1 h1M hT1
    simp only at hc hN2 hM2 hfr
    simp only [LE.findC] at hc
    have g1 : getM M2 i k = 1 := (hge i k (by omega)).trans (get_set_same _ _ _ _)
    have gO : ∀ a c : Nat, i + k ≤ a + c → a ≠ i ∨ c ≠ k → getM M2 a c = getM M a c := fun a c h h2 => (hge a c h).trans (get_set_ne 1 (fun e => by omega) _)
    have h24 := (hfr (nx + 4, 0) (by simp) (neM 4 0)).trans ((h1O _ (neM 4 0)).trans hs4)
    have h2K := (hfr _ (by have := hl.K; omega) hn.K).trans ((h1O _ hn.K).trans hsK)
    have hfr2 : ∀ p : Oid, p.1 < nx → p ≠ E.oM → H2 p = H p := fun p hp hq => (hfr p (by omega) hq).trans ((h1O p hq).trans (hsO p hp))
    have u1 := hup Hs M hsM 1
    rw [← hH1] at u1
    have l1 := hlk Hs M hsM
    have l2 := hlk H2 M2 hM2
    have h14 := (h1O _ (neM 4 0)).trans hs4
    have h1K := (h1O _ hn.K).trans hsK
    have h1F := (h1O _ hn.F).trans hsF
    cases hb : E.lp i k
    · rw [hb] at hc
      refine ⟨(H2, N2 + 5), acall_body code61 ?_, by simp only; omega, ⟨M2, hM2, fun a c hac => ?_, fun a c hac => gO a c (by omega) (by omega)⟩, hfr2⟩
      · simp [LE.askC, plc_raw, Nat.add_assoc, ← hHs', hsK, hs4, hsF, l1, h0, u1, h1K, h14, h1F, hc, h2K, h24, l2, g1, -lookupO, -mapUpdateO]
      · rcases Nat.lt_or_ge (a + c) (i + k) with h | h
        · exact hT2 a c h
        · by_cases he : a = i ∧ c = k
          · obtain ⟨rfl, rfl⟩ := he
            exact .inr (.inr ⟨g1, hb⟩)
          · rw [gO a c h (by omega)]; exact hT a c hac
    · rw [hb] at hc
      obtain ⟨H3, hH3⟩ : ∃ H3, H3 = upd H2 E.oM (mkM (setM M2 i k 2)) := ⟨_, rfl⟩
      have u2 := hup H2 M2 hM2 2
      rw [← hH3] at u2
      have h3M : H3 E.oM = some (mkM (setM M2 i k 2)) := by rw [hH3]; simp
      have h3O : ∀ p : Oid, p ≠ E.oM → H3 p = H2 p := fun p hp => by rw [hH3, upd_ne hp]
      have h34 := (h3O _ (neM 4 0)).trans h24
      have h3K := (h3O _ hn.K).trans h2K
      have l3 := hlk H3 _ h3M
      have g2 : getM (setM M2 i k 2) i k = 2 := get_set_same _ _ _ _
      refine ⟨(H3, N2 + 8), acall_body code61 ?_, by simp only; omega, ⟨setM M2 i k 2, h3M, fun a c hac => ?_, fun a c hac => (get_set_ne 2 (fun e => by omega) _).trans (gO a c (by omega) (by omega))⟩, fun p hp hq => (h3O p hq).trans (hfr2 p hp hq)⟩
      · simp [LE.askC, plc_raw, Nat.add_assoc, ← hHs', hsK, hs4, hsF, l1, h0, u1, h1K, h14, h1F, hc, h2K, h24, u2, h3K, h34, l3, g2, -lookupO, -mapUpdateO]
      · by_cases he : a = i ∧ c = k
        · obtain ⟨rfl, rfl⟩ := he
          exact .inr (.inl ⟨g2, hb⟩)
        · rw [get_set_ne 2 (fun e => by omega)]
          rcases Nat.lt_or_ge (a + c) (i + k) with h | h
          · exact hT2 a c h
          · rw [gO a c h (by omega)]; exact hT a c hac
  · refine ⟨(Hs, nx + 15), acall_body code61 ?_, by simp only; omega, ⟨M, hsM, hT, fun _ _ _ => rfl⟩, fun p hp _ => hsO p hp⟩
    have l1 := hlk Hs M hsM
    simp [LE.askC, plc_raw, Nat.add_assoc, ← hHs', hsK, hs4, hsF, l1, h2, hlp, -lookupO, -mapUpdateO]
  · refine ⟨(Hs, nx + 15), acall_body code61 ?_, by simp only; omega, ⟨M, hsM, hT, fun _ _ _ => rfl⟩, fun p hp _ => hsO p hp⟩
    have l1 := hlk Hs M hsM
    simp [LE.askC, plc_raw, Nat.add_assoc, ← hHs', hsK, hs4, hsF, l1, h1, hlp, -lookupO, -mapUpdateO]
/-- Asking for any pair. -/
theorem ask_all (E : LE) (hg : E.g.ok) (hs : LOk E.s) (hr : LOk E.r) (hsz : E.s.1.length ≤ 9223372036854775807) (hrz : E.r.1.length ≤ 9223372036854775807) (hn : E.Ne) (ho1 : ∀ x ∈ E.s.1, x.ok) (ho2 : ∀ x ∈ E.r.1, x.ok) :
    ∀ (n i k : Nat), i + k < n → i < E.s.1.length → k < E.r.1.length → E.AskOk i k := by
  intro n
  induction n with
  | zero => intro i k h; omega
  | succ n ih =>
    intro i k h hi hk
    obtain ⟨v1, f1, a1, h1⟩ := get_mk hi
    obtain ⟨v2, f2, a2, h2⟩ := get_mk hk
    exact ask_ok E hn i k (find_ok E hg hs hr hsz hrz hn i k v1 f1 a1 v2 f2 a2 h1 h2 ho1 ho2 fun a c hac ha hc => ih a c (by omega) ha hc)
end Go.Proofs.Ytfcedichoigbbaa.Am


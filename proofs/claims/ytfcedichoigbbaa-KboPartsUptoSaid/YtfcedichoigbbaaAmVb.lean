/-
  The numbers of a term's variables: what the document's functions compute. No condition.
-/
import Derived.Test.YtfcedichoigbbaaAmVa
import Derived.Test.YtfcedichoigbbaaAmKp
namespace Go.Proofs.Ytfcedichoigbbaa.Am
open Go Go.Proofs
set_option maxHeartbeats 4000000
set_option linter.unusedSimpArgs false
set_option linter.unusedVariables false

mutual
def Term.varsW : Term → List Int → List Int
  | .mk v fn args, l => varsWL (if fn.toList = [] then withGo v false [] l else l) args
def varsWL (l : List Int) : List Term → List Int
  | [] => l
  | t :: r => varsWL (t.varsW l) r
end
theorem withGo_len (n : Int) : ∀ (l : List Int) (inn : Bool) (out : List Int), (withGo n inn out l).length ≤ out.length + l.length + if inn then 0 else 1
  | [], inn, out => by cases inn <;> simp [withGo]
  | x :: r, inn, out => by
    simp only [withGo]
    split
    · rename_i h
      have := withGo_len n r true (out ++ [n] ++ if x = n then [] else [x])
      rw [h.1]
      refine Nat.le_trans this ?_
      split <;> simp <;> omega
    · have := withGo_len n r inn (out ++ if x = n then [] else [x])
      refine Nat.le_trans this ?_
      split <;> simp <;> omega
theorem varsW_len (t : Term) : ∀ l, (t.varsW l).length ≤ l.length + t.size := by
  refine Term.ind (p := fun t => ∀ l, (t.varsW l).length ≤ l.length + t.size) (fun v fn args ih l => ?_) t
  have hl : ∀ (a : List Term), (∀ x ∈ a, ∀ l, (x.varsW l).length ≤ l.length + x.size) → ∀ l, (varsWL l a).length ≤ l.length + sizeL a := by
    intro a
    induction a with
    | nil => intro _ l; simp [varsWL]
    | cons x r ih2 =>
      intro h l
      have h1 := h x (by simp) l
      have h2 := ih2 (fun z hz => h z (by simp [hz])) (x.varsW l)
      simp only [varsWL, sizeL]; omega
  have h1 := hl args ih (if fn.toList = [] then withGo v false [] l else l)
  have h2 := withGo_len v l false []
  simp only [Term.varsW, Term.size]
  split at h1
  · rename_i hv; rw [if_pos hv]; simp at h2; omega
  · rename_i hv; rw [if_neg hv]; omega
theorem encI_nil : encI [] = [] := rfl
/-- How a row of numbers comes: shared, or as nil. -/
def Fl (l : List Int) (b : Bool) (nl : Option Bool) : Prop := b = false ∨ (l = [] ∧ b = true ∧ nl = some true)
def VarsEnd (v : Int) (fn : ByteArray) (args : List Term) (r : List Int) (e : Ex) (t : St) : Prop :=
  ∃ b' nl', Fl r b' nl' ∧ AtExit 0 [.d (.sl (encI r) r.length b' nl'), .junk, .junk, .ptr (0, 0) 0 3, .osl (1, 1) 0 0 1 0, .d (.int .i64 args.length), .junk, .junk, .junk, .junk, .junk, .junk, .junk, .junk, .junk, .junk, .junk, .junk, .junk, .junk, .junk, .junk, .junk, .junk, .junk, .junk, .junk, .junk] (upd (upd (fun _ => none) (0, 0) (.cells [.d (.int .i64 v), .d (.str fn), .d (.sl (encL args) args.length false none)])) (1, 1) .vnil) e t
theorem vars_ok (t : Term) : t.ok → ∀ l b nl, Fl l b nl → l.length + t.size ≤ 68719476000 → ∃ nl', pcl Cp 43 [.sl (encI l) l.length b nl, .agg t.enc] = some (.sl (encI (t.varsW l)) (t.varsW l).length false nl') := by
  refine Term.ind (p := fun t => t.ok → ∀ l b nl, Fl l b nl → l.length + t.size ≤ 68719476000 → ∃ nl', pcl Cp 43 [.sl (encI l) l.length b nl, .agg t.enc] = some (.sl (encI (t.varsW l)) (t.varsW l).length false nl')) (fun v fn args ih h l b nl hfl hsz => ?_) t
  have hn := h.1
  have hloop := fun (k : Nat) (hk : 2 ≤ k) (l : List Int) (b : Bool) (nl : Option Bool) (hfl : Fl l b nl) (hs : l.length + sizeL args ≤ 68719476000) =>
    loop_rule (P := Try.prog) (pol := plc) (c := b43_0) (m := ⟨[true, false, false, true, true, true, false, false, false, false, false, false, false, false, false, false, false, false, false, false, false, false, false, false, false, false, false, true], some k⟩)
      (b := k) (tm := fun (s : Nat × List Int × Bool × Option Bool) => [.d (.sl (encI s.2.1) s.2.1.length s.2.2.1 s.2.2.2), .junk, .junk, .ptr (0, 0) 0 3, .osl (1, 1) 0 0 1 0, .d (.int .i64 s.1), .junk, .junk, .junk, .junk, .junk, .junk, .junk, .junk, .junk, .junk, .junk, .junk, .junk, .junk, .junk, .junk, .junk, .junk, .junk, .junk, .junk, .junk])
      (Hf := fun _ => upd (upd (fun x => none) (0, 0) (.cells [.d (.int .i64 v), .d (.str fn), .d (.sl (encL args) args.length false none)])) (1, 1) .vnil)
      (I := fun s => s.1 ≤ args.length ∧ Fl s.2.1 s.2.2.1 s.2.2.2 ∧ s.2.1.length + sizeL (args.drop s.1) ≤ 68719476000) (μ := fun s => args.length - s.1) (res := fun s => varsWL s.2.1 (args.drop s.1))
      (R := VarsEnd v fn args)
      (fun s nx hi => by
        obtain ⟨i, l, b, nl⟩ := s
        obtain ⟨hi, hfl, hs⟩ := hi
        simp only at hi hfl hs ⊢
        rcases Nat.lt_or_ge i args.length with hl2 | hl2
        · obtain ⟨v', fn', args', a⟩ := at_ok hn hl2
          rw [a.dr] at hs
          simp only [sizeL] at hs
          obtain ⟨nl', hc⟩ := ih _ a.mem (okL_mem h.2 _ a.mem) l b nl hfl (by omega)
          simp [Term.enc] at hc
          have hlen := varsW_len (.mk v' fn' args') l
          conv => arg 9; arg 4; unfold b43_0
          have hk0 : 0 < k := by omega
          have hk1 : 1 < k := by omega
          simp [a.lti, a.sz, a.ltm, a.cells, a.le3, plc_raw, a.w, hc, hk0, hk1]
          refine .next (i + 1, (Term.mk v' fn' args').varsW l, false, nl') (by omega) (by simp) rfl ⟨hl2, .inl rfl, by simp only; omega⟩ (by simp; omega) ?_
          simp only [a.dr, varsWL]
        · obtain rfl : i = args.length := Nat.le_antisymm hi hl2
          have hk0 : 0 < k := by omega
          have hk1 : 1 < k := by omega
          simp [b43_0, hk0, hk1]
          refine .fin _ _ ⟨b, nl, ?_, ?_⟩
          · simpa [varsWL] using hfl
          · simp only [List.drop_length, varsWL]; exact .mk) (0, l, b, nl) ⟨Nat.zero_le _, hfl, by simpa using hs⟩
  simp only [Term.size] at hsz
  by_cases hv : fn.toList = []
  · have hwith := with_ok l (by omega) b nl v
    have hwl := withGo_len v l false []
    simp at hwl
    generalize hl2 : withGo v false [] l = l2 at hwith hwl
    obtain ⟨e, t, hrun, hend⟩ := hloop 11 (by omega) l2 false (some (decide (l2 = []))) (.inl rfl) (by omega)
    simp only [List.drop_zero] at hend
    simp only [Term.varsW, hv, hl2, if_true]
    generalize varsWL l2 args = r at hend ⊢
    obtain ⟨b', nl', hfl2, rfl, nx, rfl⟩ := hend
    simp at hrun hwith
    rcases hfl2 with rfl | ⟨rfl, rfl, rfl⟩
    · refine ⟨nl', pcl_body code43 ?_⟩
      simp [plc_raw, Term.enc, hv, hwith, hrun]
    · refine ⟨some true, pcl_body code43 ?_⟩
      simp [encI_nil] at hrun
      simp [plc_raw, Term.enc, hv, hwith, hrun, encI_nil]
  · obtain ⟨e, t, hrun, hend⟩ := hloop 6 (by omega) l b nl hfl (by omega)
    simp only [List.drop_zero] at hend
    simp only [Term.varsW, hv, if_false]
    generalize varsWL l args = r at hend ⊢
    obtain ⟨b', nl', hfl2, rfl, nx, rfl⟩ := hend
    simp at hrun
    rcases hfl2 with rfl | ⟨rfl, rfl, rfl⟩
    · refine ⟨nl', pcl_body code43 ?_⟩
      simp [plc_raw, Term.enc, hv, hrun]
    · refine ⟨some true, pcl_body code43 ?_⟩
      simp [encI_nil] at hrun
      simp [plc_raw, Term.enc, hv, hrun, encI_nil]
theorem rVars_ok (t : Term) (h : t.ok) (hs : t.size ≤ 68719476000) : ∃ nl', pcl Cp 25 [.agg t.enc] = some (.sl (encI (t.varsW [])) (t.varsW []).length false nl') := by
  obtain ⟨nl', hc⟩ := vars_ok t h [] true (some true) (.inr ⟨rfl, rfl, rfl⟩) (by simpa using hs)
  refine ⟨nl', pcl_body code25 ?_⟩
  generalize t.varsW [] = r at hc ⊢
  obtain ⟨v, fn, args⟩ := t
  simp [Term.enc, encI_nil] at hc ⊢
  simp [plc_raw, hc, encI_nil]
end Go.Proofs.Ytfcedichoigbbaa.Am

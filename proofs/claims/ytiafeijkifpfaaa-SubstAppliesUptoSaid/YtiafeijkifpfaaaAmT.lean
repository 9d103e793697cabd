/-
  Terms: what the program's functions and the document's compute of them, as the abstract machine runs them. No condition.
-/
import Derived.Test.YtiafeijkifpfaaaAmPol
import Derived.Test.YtiafeijkifpfaaaAmTerm
namespace Go.Proofs.Ytiafeijkifpfaaa.Am
open Go Go.Proofs
set_option maxHeartbeats 4000000
set_option linter.unusedSimpArgs false

/-- A term's object. -/
def termH (v : Int) (fn : ByteArray) (args : List Term) : Hp := upd (fun _ => none) (0, 0) (.cells [.d (.int .i64 v), .d (.str fn), .d (.sl (encL args) args.length false none)])

/-! ### Size, depth -/
theorem size_loop (ts : List Term) (hn : ts.length ≤ 9223372036854775807) (H : Hp) (hH : below 7 H = H) (hrec : ∀ x ∈ ts, pcl Cp 42 [.agg x.enc] = some (.int .i64 x.sizeW)) :
    ∃ e t, aloop Try.prog plc b42_0 ⟨[false, false, true, true, false, false, false, true, true, true, false, false, false, false, false, false, false, false, true], some 7⟩ ⟨[.junk, .junk, .d (.int .i64 0), .d (.int .i64 1), .junk, .junk, .junk, .d (.sl (encL ts) ts.length false none), .d (.int .i64 ts.length), .d (.int .i64 0), .junk, .junk, .junk, .junk, .junk, .junk, .junk, .junk, .junk], H, 7⟩ = some (e, t) ∧
      AtExit 0 [.junk, .junk, .d (.int .i64 0), .d (.int .i64 (sizeWL 1 ts)), .junk, .junk, .junk, .d (.sl (encL ts) ts.length false none), .d (.int .i64 ts.length), .d (.int .i64 ts.length), .junk, .junk, .junk, .junk, .junk, .junk, .junk, .junk, .junk] H e t := by
  refine loop_rule (b := 7) (tm := fun (s : Nat × Int) => [.junk, .junk, .d (.int .i64 0), .d (.int .i64 s.2), .junk, .junk, .junk, .d (.sl (encL ts) ts.length false none), .d (.int .i64 ts.length), .d (.int .i64 s.1), .junk, .junk, .junk, .junk, .junk, .junk, .junk, .junk, .junk]) (Hf := fun _ => H)
    (I := fun s => s.1 ≤ ts.length) (μ := fun s => ts.length - s.1) (res := fun s => sizeWL s.2 (ts.drop s.1)) (R := fun r => AtExit 0 [.junk, .junk, .d (.int .i64 0), .d (.int .i64 r), .junk, .junk, .junk, .d (.sl (encL ts) ts.length false none), .d (.int .i64 ts.length), .d (.int .i64 ts.length), .junk, .junk, .junk, .junk, .junk, .junk, .junk, .junk, .junk] H) (fun s nx hi => ?_) (0, 1) (Nat.zero_le _)
  obtain ⟨i, acc⟩ := s
  rcases Nat.lt_or_ge i ts.length with hl | hl
  · obtain ⟨v, fn, args, a⟩ := at_ok hn hl
    have hcall := hrec _ a.mem
    simp [Term.enc] at hcall
    conv => arg 9; arg 4; unfold b42_0
    simp [a.lti, a.sz, a.ltm, a.cells, a.le3, plc_raw, hcall, a.w, hH]
    exact .next (i + 1, IntKind.i64.wrap (acc + (Term.mk v fn args).sizeW)) (by omega) rfl rfl hl (by simp; omega) (by simp only [a.dr, sizeWL])
  · obtain rfl : i = ts.length := Nat.le_antisymm hi hl
    simp [b42_0, hH]
    exact .fin _ _ (by simp [sizeWL]; exact .mk)
theorem size_ok (t : Term) : t.ok → pcl Cp 42 [.agg t.enc] = some (.int .i64 t.sizeW) := by
  refine Term.ind (p := fun t => t.ok → pcl Cp 42 [.agg t.enc] = some (.int .i64 t.sizeW)) (fun v fn args ih h => ?_) t
  obtain ⟨e, t, hrun, rfl, nx, rfl⟩ := size_loop args h.1 (termH v fn args) (by simp [termH]) (fun x hx => ih x hx (okL_mem h.2 x hx))
  refine pcl_body code42 ?_
  simp [Term.enc, termH] at hrun ⊢
  simp [hrun, Term.sizeW]

theorem rsize_loop (v0 : Int) (fn0 : ByteArray) (ts : List Term) (hn : ts.length ≤ 9223372036854775807) (hrec : ∀ x ∈ ts, pcl Cp 45 [.agg x.enc] = some (.int .i64 x.sizeW)) :
    ∃ e t, aloop Try.prog plc b45_0 ⟨[false, true, true, true, true, false, false, false, false, false, false, false, false, false, false, false, false, false, false, false, true], some 4⟩ ⟨[.junk, .ptr (0, 0) 0 3, .d (.int .i64 0), .d (.int .i64 1), .d (.int .i64 0), .junk, .junk, .junk, .junk, .junk, .junk, .junk, .junk, .junk, .junk, .junk, .junk, .junk, .junk, .junk, .junk], termH v0 fn0 ts, 4⟩ = some (e, t) ∧
      AtExit 0 [.junk, .ptr (0, 0) 0 3, .d (.int .i64 0), .d (.int .i64 (sizeWL 1 ts)), .d (.int .i64 ts.length), .junk, .junk, .junk, .junk, .junk, .junk, .junk, .junk, .junk, .junk, .junk, .junk, .junk, .junk, .junk, .junk] (termH v0 fn0 ts) e t := by
  refine loop_rule (b := 4) (tm := fun (s : Nat × Int) => [.junk, .ptr (0, 0) 0 3, .d (.int .i64 0), .d (.int .i64 s.2), .d (.int .i64 s.1), .junk, .junk, .junk, .junk, .junk, .junk, .junk, .junk, .junk, .junk, .junk, .junk, .junk, .junk, .junk, .junk]) (Hf := fun _ => termH v0 fn0 ts)
    (I := fun s => s.1 ≤ ts.length) (μ := fun s => ts.length - s.1) (res := fun s => sizeWL s.2 (ts.drop s.1)) (R := fun r => AtExit 0 [.junk, .ptr (0, 0) 0 3, .d (.int .i64 0), .d (.int .i64 r), .d (.int .i64 ts.length), .junk, .junk, .junk, .junk, .junk, .junk, .junk, .junk, .junk, .junk, .junk, .junk, .junk, .junk, .junk, .junk] (termH v0 fn0 ts)) (fun s nx hi => ?_) (0, 1) (Nat.zero_le _)
  obtain ⟨i, acc⟩ := s
  rcases Nat.lt_or_ge i ts.length with hl | hl
  · obtain ⟨v, fn, args, a⟩ := at_ok hn hl
    have hcall := hrec _ a.mem
    simp [Term.enc] at hcall
    conv => arg 9; arg 4; unfold b45_0
    simp [a.lti, a.sz, a.ltm, a.cells, a.le3, plc_raw, hcall, a.w, termH]
    exact .next (i + 1, IntKind.i64.wrap (acc + (Term.mk v fn args).sizeW)) (by omega) rfl rfl hl (by simp; omega) (by simp only [a.dr, sizeWL])
  · obtain rfl : i = ts.length := Nat.le_antisymm hi hl
    simp [b45_0, termH]
    exact .fin _ _ (by simp [sizeWL, termH]; exact .mk)
theorem rsize_ok (t : Term) : t.ok → pcl Cp 45 [.agg t.enc] = some (.int .i64 t.sizeW) := by
  refine Term.ind (p := fun t => t.ok → pcl Cp 45 [.agg t.enc] = some (.int .i64 t.sizeW)) (fun v fn args ih h => ?_) t
  obtain ⟨e, t, hrun, rfl, nx, rfl⟩ := rsize_loop v fn args h.1 (fun x hx => ih x hx (okL_mem h.2 x hx))
  refine pcl_body code45 ?_
  simp [Term.enc, termH] at hrun ⊢
  simp [hrun, Term.sizeW]

theorem depth_loop (ts : List Term) (hn : ts.length ≤ 9223372036854775807) (H : Hp) (hH : below 7 H = H) (hrec : ∀ x ∈ ts, pcl Cp 44 [.agg x.enc] = some (.int .i64 x.depthW)) :
    ∃ e t, aloop Try.prog plc b44_0 ⟨[false, false, true, true, false, false, false, true, true, true, false, false, false, false, false, false, false, false, true, true], some 7⟩ ⟨[.junk, .junk, .d (.int .i64 0), .d (.int .i64 0), .junk, .junk, .junk, .d (.sl (encL ts) ts.length false none), .d (.int .i64 ts.length), .d (.int .i64 0), .junk, .junk, .junk, .junk, .junk, .junk, .junk, .junk, .junk, .junk], H, 7⟩ = some (e, t) ∧
      AtExit 0 [.junk, .junk, .d (.int .i64 0), .d (.int .i64 (depthWL 0 ts)), .junk, .junk, .junk, .d (.sl (encL ts) ts.length false none), .d (.int .i64 ts.length), .d (.int .i64 ts.length), .junk, .junk, .junk, .junk, .junk, .junk, .junk, .junk, .junk, .junk] H e t := by
  refine loop_rule (b := 7) (tm := fun (s : Nat × Int) => [.junk, .junk, .d (.int .i64 0), .d (.int .i64 s.2), .junk, .junk, .junk, .d (.sl (encL ts) ts.length false none), .d (.int .i64 ts.length), .d (.int .i64 s.1), .junk, .junk, .junk, .junk, .junk, .junk, .junk, .junk, .junk, .junk]) (Hf := fun _ => H)
    (I := fun s => s.1 ≤ ts.length) (μ := fun s => ts.length - s.1) (res := fun s => depthWL s.2 (ts.drop s.1)) (R := fun r => AtExit 0 [.junk, .junk, .d (.int .i64 0), .d (.int .i64 r), .junk, .junk, .junk, .d (.sl (encL ts) ts.length false none), .d (.int .i64 ts.length), .d (.int .i64 ts.length), .junk, .junk, .junk, .junk, .junk, .junk, .junk, .junk, .junk, .junk] H) (fun s nx hi => ?_) (0, 0) (Nat.zero_le _)
  obtain ⟨i, acc⟩ := s
  rcases Nat.lt_or_ge i ts.length with hl | hl
  · obtain ⟨v, fn, args, a⟩ := at_ok hn hl
    have hcall := hrec _ a.mem
    simp [Term.enc] at hcall
    conv => arg 9; arg 4; unfold b44_0
    simp [a.lti, a.sz, a.ltm, a.cells, a.le3, plc_raw, hcall, a.w, hH]
    exact .next (i + 1, if (Term.mk v fn args).depthW > acc then (Term.mk v fn args).depthW else acc) (by omega) rfl rfl hl (by simp; omega) (by simp only [a.dr, depthWL])
  · obtain rfl : i = ts.length := Nat.le_antisymm hi hl
    simp [b44_0, hH]
    exact .fin _ _ (by simp [depthWL]; exact .mk)
theorem depth_ok (t : Term) : t.ok → pcl Cp 44 [.agg t.enc] = some (.int .i64 t.depthW) := by
  refine Term.ind (p := fun t => t.ok → pcl Cp 44 [.agg t.enc] = some (.int .i64 t.depthW)) (fun v fn args ih h => ?_) t
  obtain ⟨e, t, hrun, rfl, nx, rfl⟩ := depth_loop args h.1 (termH v fn args) (by simp [termH]) (fun x hx => ih x hx (okL_mem h.2 x hx))
  refine pcl_body code44 ?_
  simp [Term.enc, termH] at hrun ⊢
  simp [hrun, Term.depthW]

theorem rdepth_loop (v0 : Int) (fn0 : ByteArray) (ts : List Term) (hn : ts.length ≤ 9223372036854775807) (hrec : ∀ x ∈ ts, pcl Cp 46 [.agg x.enc] = some (.int .i64 x.depthW)) :
    ∃ e t, aloop Try.prog plc b46_0 ⟨[false, true, true, true, true, false, false, false, false, false, false, false, false, false, false, false, false, false, false, false, true, true], some 4⟩ ⟨[.junk, .ptr (0, 0) 0 3, .d (.int .i64 0), .d (.int .i64 0), .d (.int .i64 0), .junk, .junk, .junk, .junk, .junk, .junk, .junk, .junk, .junk, .junk, .junk, .junk, .junk, .junk, .junk, .junk, .junk], termH v0 fn0 ts, 4⟩ = some (e, t) ∧
      AtExit 0 [.junk, .ptr (0, 0) 0 3, .d (.int .i64 0), .d (.int .i64 (depthWL 0 ts)), .d (.int .i64 ts.length), .junk, .junk, .junk, .junk, .junk, .junk, .junk, .junk, .junk, .junk, .junk, .junk, .junk, .junk, .junk, .junk, .junk] (termH v0 fn0 ts) e t := by
  refine loop_rule (b := 4) (tm := fun (s : Nat × Int) => [.junk, .ptr (0, 0) 0 3, .d (.int .i64 0), .d (.int .i64 s.2), .d (.int .i64 s.1), .junk, .junk, .junk, .junk, .junk, .junk, .junk, .junk, .junk, .junk, .junk, .junk, .junk, .junk, .junk, .junk, .junk]) (Hf := fun _ => termH v0 fn0 ts)
    (I := fun s => s.1 ≤ ts.length) (μ := fun s => ts.length - s.1) (res := fun s => depthWL s.2 (ts.drop s.1)) (R := fun r => AtExit 0 [.junk, .ptr (0, 0) 0 3, .d (.int .i64 0), .d (.int .i64 r), .d (.int .i64 ts.length), .junk, .junk, .junk, .junk, .junk, .junk, .junk, .junk, .junk, .junk, .junk, .junk, .junk, .junk, .junk, .junk, .junk] (termH v0 fn0 ts)) (fun s nx hi => ?_) (0, 0) (Nat.zero_le _)
  obtain ⟨i, acc⟩ := s
  rcases Nat.lt_or_ge i ts.length with hl | hl
  · obtain ⟨v, fn, args, a⟩ := at_ok hn hl
    have hcall := hrec _ a.mem
    simp [Term.enc] at hcall
    conv => arg 9; arg 4; unfold b46_0
    simp [a.lti, a.sz, a.ltm, a.cells, a.le3, plc_raw, hcall, a.w, termH]
    exact .next (i + 1, if (Term.mk v fn args).depthW > acc then (Term.mk v fn args).depthW else acc) (by omega) rfl rfl hl (by simp; omega) (by simp only [a.dr, depthWL])
  · obtain rfl : i = ts.length := Nat.le_antisymm hi hl
    simp [b46_0, termH]
    exact .fin _ _ (by simp [depthWL, termH]; exact .mk)
theorem rdepth_ok (t : Term) : t.ok → pcl Cp 46 [.agg t.enc] = some (.int .i64 t.depthW) := by
  refine Term.ind (p := fun t => t.ok → pcl Cp 46 [.agg t.enc] = some (.int .i64 t.depthW)) (fun v fn args ih h => ?_) t
  obtain ⟨e, t, hrun, rfl, nx, rfl⟩ := rdepth_loop v fn args h.1 (fun x hx => ih x hx (okL_mem h.2 x hx))
  refine pcl_body code46 ?_
  simp [Term.enc, termH] at hrun ⊢
  simp [hrun, Term.depthW]

/-! ### Shape -/
theorem right_ok (v : Int) (fn : ByteArray) (cs : List D) (n : Nat) : pcl Cp 94 [.agg [.int .i64 v, .str fn, .sl cs n false none]] = some (.bool (rightB v fn n)) := by
  refine pcl_body code94 ?_
  simp
  repeat' ((try simp only [condP_ite]); split <;> (try simp only [holdE]) <;> (try simp [*, plc_raw]))
  all_goals (simp_all [rightB, noName])
  all_goals (first | omega | grind)

/-- IndexFunc over terms. -/
theorem index_loop (g : FuncId) (p : Term → Bool) (ts : List Term) (hn : ts.length ≤ 9223372036854775807) (hg : plc.raw g = false ∧ plc.weak g = false) (hrec : ∀ x ∈ ts, pcl Cp g [.agg x.enc] = some (.bool (p x))) :
    ∃ e t, aloop Try.prog plc b101_0 ⟨[true, true, false, false, true, false, false, true, true, false, false, false, false, false, false, false, false, false, false], some 4⟩ ⟨[.d (.sl (encL ts) ts.length false none), .d (.fn g []), .junk, .junk, .d (.int .i64 0), .junk, .junk, .d (.int .i64 ts.length), .d (.int .i64 0), .junk, .junk, .junk, .junk, .junk, .junk, .junk, .junk, .junk, .junk], fun _ => none, 4⟩ = some (e, t) ∧
      (match fromI p ts 0 with | some k => AtRet 4 (.d (.int .i64 k)) e t | none => AtExit 0 [.d (.sl (encL ts) ts.length false none), .d (.fn g []), .junk, .junk, .d (.int .i64 0), .junk, .junk, .d (.int .i64 ts.length), .d (.int .i64 ts.length), .junk, .junk, .junk, .junk, .junk, .junk, .junk, .junk, .junk, .junk] (fun _ => none) e t) := by
  refine loop_rule (b := 4) (tm := fun (i : Nat) => [.d (.sl (encL ts) ts.length false none), .d (.fn g []), .junk, .junk, .d (.int .i64 0), .junk, .junk, .d (.int .i64 ts.length), .d (.int .i64 i), .junk, .junk, .junk, .junk, .junk, .junk, .junk, .junk, .junk, .junk]) (Hf := fun _ => fun _ => none)
    (I := fun i => i ≤ ts.length) (μ := fun i => ts.length - i) (res := fun i => fromI p ts i) (R := fun o e t => match o with | some k => AtRet 4 (.d (.int .i64 k)) e t | none => AtExit 0 [.d (.sl (encL ts) ts.length false none), .d (.fn g []), .junk, .junk, .d (.int .i64 0), .junk, .junk, .d (.int .i64 ts.length), .d (.int .i64 ts.length), .junk, .junk, .junk, .junk, .junk, .junk, .junk, .junk, .junk, .junk] (fun _ => none) e t)
    (fun i nx hi => ?_) 0 (Nat.zero_le _)
  rcases Nat.lt_or_ge i ts.length with hl | hl
  · obtain ⟨v, fn, args, a⟩ := at_ok hn hl
    have hcall := hrec _ a.mem
    have hget : ts[i] = .mk v fn args := a.get
    simp [Term.enc] at hcall
    conv => arg 9; arg 4; unfold b101_0
    cases hp : p (.mk v fn args) <;> rw [hp] at hcall <;> simp [a.lti, a.sz, a.ltm, a.cells, a.le3, hg.1, hg.2, -plc_weak, hcall, a.w]
    · exact .next (i + 1) (by omega) rfl rfl hl (by omega) (by rw [fromI_step hl, hget, hp]; rfl)
    · exact .fin _ _ (by rw [fromI_step hl, hget, hp]; exact ⟨rfl, rfl⟩)
  · obtain rfl : i = ts.length := Nat.le_antisymm hi hl
    simp [b101_0]
    exact .fin _ _ (by rw [fromI_end]; exact .mk)
theorem index_ok {g : FuncId} {p : Term → Bool} {ts : List Term} (hn : ts.length ≤ 9223372036854775807) (hg : plc.raw g = false ∧ plc.weak g = false) (hrec : ∀ x ∈ ts, pcl Cp g [.agg x.enc] = some (.bool (p x))) :
    pcl Cp 101 [.sl (encL ts) ts.length false none, .fn g []] = some (.int .i64 (match ts.findIdx? p with | some k => k | none => -1)) := by
  obtain ⟨e, t, h1, h2⟩ := index_loop g p ts hn hg hrec
  refine pcl_body code101 ?_
  simp [fromI_zero] at h1 h2
  simp [h1]
  revert h2
  cases ts.findIdx? p with
  | some k => rintro ⟨rfl, h⟩; simp [h]
  | none => rintro ⟨rfl, nx, rfl⟩; simp
theorem any_findIdx {α : Type} (p : α → Bool) (l : List α) : l.any p = (l.findIdx? p).isSome := by
  induction l with
  | nil => rfl
  | cons x l ih => rw [List.any_cons, List.findIdx?_cons, ih]; cases p x <;> simp
theorem contains_ok {g : FuncId} {p : Term → Bool} {ts : List Term} (hn : ts.length ≤ 9223372036854775807) (hg : plc.raw g = false ∧ plc.weak g = false) (hrec : ∀ x ∈ ts, pcl Cp g [.agg x.enc] = some (.bool (p x))) :
    pcl Cp 95 [.sl (encL ts) ts.length false none, .fn g []] = some (.bool (ts.any p)) := by
  refine pcl_body code95 ?_
  have h := index_ok hn hg hrec
  rw [any_findIdx]
  cases hq : ts.findIdx? p <;> rw [hq] at h <;> simp [plc_raw, h]
theorem shapeBL_all : ∀ (ts : List Term), shapeBL ts = !ts.any (fun x => !x.shapeB)
  | [] => rfl
  | t :: r => by simp [shapeBL, shapeBL_all r]
theorem shaped_ok (t : Term) : t.ok → pcl Cp 76 [.agg t.enc] = some (.bool t.shapeB) := by
  refine Term.ind (p := fun t => t.ok → pcl Cp 76 [.agg t.enc] = some (.bool t.shapeB)) (fun v fn args ih h => ?_) t
  have hc := contains_ok (g := 96) (p := fun x => !x.shapeB) h.1 ⟨rfl, rfl⟩ (fun x hx => by
    have := ih x hx (okL_mem h.2 x hx)
    refine pcl_body code96 ?_
    obtain ⟨v, fn, a⟩ := x
    simp [Term.enc] at this
    simp [Term.enc, plc_raw, this])
  have hr := right_ok v fn (encL args) args.length
  refine pcl_body code76 ?_
  cases hb : rightB v fn args.length <;> rw [hb] at hr <;> simp [Term.enc, plc_raw, hr, hc, Term.shapeB, hb, shapeBL_all]

theorem rshape_loop (v0 : Int) (fn0 : ByteArray) (ts : List Term) (hn : ts.length ≤ 9223372036854775807) (hrec : ∀ x ∈ ts, pcl Cp 56 [.agg x.enc] = some (.bool x.shapeB)) :
    ∃ e t, aloop Try.prog plc b56_0 ⟨[false, true, true, true, false, false, false, false, false, false, false, false, false, false, false, false, false, false, false, false, false, false, false, false, false, false, false, false, false, false, false, false, false, false, false, false, false, false, false, false, false, false, false, false, false, false, false, false, false, false], some 21⟩ ⟨[.junk, .ptr (0, 0) 0 3, .d (.bool false), .d (.int .i64 0), .junk, .junk, .junk, .junk, .junk, .junk, .junk, .junk, .junk, .junk, .junk, .junk, .junk, .junk, .junk, .junk, .junk, .junk, .junk, .junk, .junk, .junk, .junk, .junk, .junk, .junk, .junk, .junk, .junk, .junk, .junk, .junk, .junk, .junk, .junk, .junk, .junk, .junk, .junk, .junk, .junk, .junk, .junk, .junk, .junk, .junk], termH v0 fn0 ts, 21⟩ = some (e, t) ∧
      (if shapeBL ts then AtExit 0 [.junk, .ptr (0, 0) 0 3, .d (.bool false), .d (.int .i64 ts.length), .junk, .junk, .junk, .junk, .junk, .junk, .junk, .junk, .junk, .junk, .junk, .junk, .junk, .junk, .junk, .junk, .junk, .junk, .junk, .junk, .junk, .junk, .junk, .junk, .junk, .junk, .junk, .junk, .junk, .junk, .junk, .junk, .junk, .junk, .junk, .junk, .junk, .junk, .junk, .junk, .junk, .junk, .junk, .junk, .junk, .junk] (termH v0 fn0 ts) e t else AtRet 2 (.d (.bool false)) e t) := by
  refine loop_rule (b := 21) (tm := fun (i : Nat) => [.junk, .ptr (0, 0) 0 3, .d (.bool false), .d (.int .i64 i), .junk, .junk, .junk, .junk, .junk, .junk, .junk, .junk, .junk, .junk, .junk, .junk, .junk, .junk, .junk, .junk, .junk, .junk, .junk, .junk, .junk, .junk, .junk, .junk, .junk, .junk, .junk, .junk, .junk, .junk, .junk, .junk, .junk, .junk, .junk, .junk, .junk, .junk, .junk, .junk, .junk, .junk, .junk, .junk, .junk, .junk]) (Hf := fun _ => termH v0 fn0 ts)
    (I := fun i => i ≤ ts.length) (μ := fun i => ts.length - i) (res := fun i => shapeBL (ts.drop i)) (R := fun b e t => if b then AtExit 0 [.junk, .ptr (0, 0) 0 3, .d (.bool false), .d (.int .i64 ts.length), .junk, .junk, .junk, .junk, .junk, .junk, .junk, .junk, .junk, .junk, .junk, .junk, .junk, .junk, .junk, .junk, .junk, .junk, .junk, .junk, .junk, .junk, .junk, .junk, .junk, .junk, .junk, .junk, .junk, .junk, .junk, .junk, .junk, .junk, .junk, .junk, .junk, .junk, .junk, .junk, .junk, .junk, .junk, .junk, .junk, .junk] (termH v0 fn0 ts) e t else AtRet 2 (.d (.bool false)) e t)
    (fun i nx hi => ?_) 0 (Nat.zero_le _)
  rcases Nat.lt_or_ge i ts.length with hl | hl
  · obtain ⟨v, fn, args, a⟩ := at_ok hn hl
    have hcall := hrec _ a.mem
    simp [Term.enc] at hcall
    conv => arg 9; arg 4; unfold b56_0
    cases hp : (Term.mk v fn args).shapeB <;> rw [hp] at hcall <;> simp [a.lti, a.sz, a.ltm, a.cells, a.le3, plc_raw, hcall, a.w, termH]
    · exact .fin _ _ (by simp only [a.dr, shapeBL, hp]; exact ⟨rfl, rfl⟩)
    · exact .next (i + 1) (by omega) rfl rfl hl (by omega) (by simp [a.dr, shapeBL, hp])
  · obtain rfl : i = ts.length := Nat.le_antisymm hi hl
    simp [b56_0, termH]
    exact .fin _ _ (by simp [shapeBL, termH]; exact .mk)
theorem rshape_ok (t : Term) : t.ok → pcl Cp 56 [.agg t.enc] = some (.bool t.shapeB) := by
  refine Term.ind (p := fun t => t.ok → pcl Cp 56 [.agg t.enc] = some (.bool t.shapeB)) (fun v fn args ih h => ?_) t
  refine pcl_body code56 ?_
  obtain ⟨e, t, hrun, hR⟩ := rshape_loop v fn args h.1 (fun x hx => ih x hx (okL_mem h.2 x hx))
  simp [Term.enc, termH] at hrun ⊢
  have hz : args.length = 0 → args = [] := List.eq_nil_of_length_eq_zero
  cases hs : shapeBL args <;> simp only [hs, if_true, Bool.false_eq_true, if_false] at hR
  · obtain ⟨rfl, hv⟩ := hR
    have hne : args ≠ [] := by rintro rfl; simp [shapeBL] at hs
    repeat' ((try simp only [condP_ite]); split <;> (try simp only [holdE]) <;> (try simp [*, plc_raw]))
    all_goals (simp_all [Term.shapeB, rightB, noName, shapeBL])
    all_goals (clear hrun ih; first | omega | grind)
  · obtain ⟨rfl, nx, rfl⟩ := hR
    repeat' ((try simp only [condP_ite]); split <;> (try simp only [holdE]) <;> (try simp [*, plc_raw]))
    all_goals (simp_all [Term.shapeB, rightB, noName, shapeBL])
    all_goals (clear hrun ih; first | omega | grind)

/-! ### Sameness -/
theorem equal_loop (g : FuncId) (p : Term → Term → Bool) (hg : plc.raw g = false ∧ plc.weak g = false) (ts us : List Term) (hn : ts.length ≤ 9223372036854775807) (hlen : us.length = ts.length) (hrec : ∀ x ∈ ts, ∀ y ∈ us, pcl Cp g [.agg x.enc, .agg y.enc] = some (.bool (p x y))) :
    ∃ e t, aloop Try.prog plc b55_0 ⟨[false, true, true, false, false, false, true, false, false, false, false, false, false, false, false, true, true, true, false, false, false, false, false, false, false, false, false, false, false, false, false, false], some 9⟩ ⟨[.junk, .d (.sl (encL us) us.length false none), .d (.fn g []), .junk, .junk, .junk, .d (.bool false), .junk, .junk, .junk, .junk, .junk, .junk, .junk, .junk, .d (.sl (encL ts) us.length false none), .d (.int .i64 us.length), .d (.int .i64 0), .junk, .junk, .junk, .junk, .junk, .junk, .junk, .junk, .junk, .junk, .junk, .junk, .junk, .junk], fun _ => none, 9⟩ = some (e, t) ∧
      (if all2 p ts us then AtExit 0 [.junk, .d (.sl (encL us) us.length false none), .d (.fn g []), .junk, .junk, .junk, .d (.bool false), .junk, .junk, .junk, .junk, .junk, .junk, .junk, .junk, .d (.sl (encL ts) us.length false none), .d (.int .i64 us.length), .d (.int .i64 ts.length), .junk, .junk, .junk, .junk, .junk, .junk, .junk, .junk, .junk, .junk, .junk, .junk, .junk, .junk] (fun _ => none) e t else AtRet 6 (.d (.bool false)) e t) := by
  refine loop_rule (b := 9) (tm := fun (i : Nat) => [.junk, .d (.sl (encL us) us.length false none), .d (.fn g []), .junk, .junk, .junk, .d (.bool false), .junk, .junk, .junk, .junk, .junk, .junk, .junk, .junk, .d (.sl (encL ts) us.length false none), .d (.int .i64 us.length), .d (.int .i64 i), .junk, .junk, .junk, .junk, .junk, .junk, .junk, .junk, .junk, .junk, .junk, .junk, .junk, .junk]) (Hf := fun _ => fun _ => none)
    (I := fun i => i ≤ ts.length) (μ := fun i => ts.length - i) (res := fun i => all2 p (ts.drop i) (us.drop i)) (R := fun b e t => if b then AtExit 0 [.junk, .d (.sl (encL us) us.length false none), .d (.fn g []), .junk, .junk, .junk, .d (.bool false), .junk, .junk, .junk, .junk, .junk, .junk, .junk, .junk, .d (.sl (encL ts) us.length false none), .d (.int .i64 us.length), .d (.int .i64 ts.length), .junk, .junk, .junk, .junk, .junk, .junk, .junk, .junk, .junk, .junk, .junk, .junk, .junk, .junk] (fun _ => none) e t else AtRet 6 (.d (.bool false)) e t)
    (fun i nx hi => ?_) 0 (Nat.zero_le _)
  rcases Nat.lt_or_ge i ts.length with hl | hl
  · obtain ⟨v, fn, args, a⟩ := at_ok hn hl
    obtain ⟨v2, fn2, args2, b⟩ := at_ok (ts := us) (by omega) (i := i) (by omega)
    have hcall := hrec _ a.mem _ b.mem
    simp [Term.enc] at hcall
    have asz := a.sz
    have altm := a.ltm
    have ale3 := a.le3
    have alti := a.lti
    rw [← hlen] at asz altm ale3 alti
    conv => arg 9; arg 4; unfold b55_0
    cases hp : p (.mk v fn args) (.mk v2 fn2 args2) <;> rw [hp] at hcall <;> simp [alti, asz, altm, a.cells, ale3, b.cells, b.sz, b.ltm, b.le3, hg.1, hg.2, -plc_weak, hcall, a.w]
    · exact .fin _ _ (by simp only [a.dr, b.dr, all2, hp]; exact ⟨rfl, rfl⟩)
    · exact .next (i + 1) (by omega) rfl rfl hl (by omega) (by simp [a.dr, b.dr, all2, hp])
  · obtain rfl : i = ts.length := Nat.le_antisymm hi hl
    simp [b55_0, hlen]
    exact .fin _ _ (by simp [all2, hlen]; exact .mk)
theorem equal_ok {g : FuncId} {p : Term → Term → Bool} (hg : plc.raw g = false ∧ plc.weak g = false) {ts us : List Term} (hn : ts.length ≤ 9223372036854775807) (hrec : ∀ x ∈ ts, ∀ y ∈ us, pcl Cp g [.agg x.enc, .agg y.enc] = some (.bool (p x y))) :
    pcl Cp 55 [.sl (encL ts) ts.length false none, .sl (encL us) us.length false none, .fn g []] = some (.bool (decide (ts.length = us.length) && all2 p ts us)) := by
  refine pcl_body code55 ?_
  by_cases hl : ts.length = us.length
  · obtain ⟨e, t, hrun, hR⟩ := equal_loop g p hg ts us hn hl.symm hrec
    try simp at hrun
    simp [hl, hrun]
    cases hs : all2 p ts us <;> simp only [hs, if_true, Bool.false_eq_true, if_false] at hR
    · obtain ⟨rfl, hv⟩ := hR; simp [hv]
    · obtain ⟨rfl, nx, rfl⟩ := hR; simp
  · have : ¬ ((ts.length : Int) = (us.length : Int)) := by omega
    simp [hl, this]
theorem same_ok (t : Term) : t.ok → ∀ u : Term, u.ok → pcl Cp 24 [.agg t.enc, .agg u.enc] = some (.bool (t.sameB u)) := by
  refine Term.ind (p := fun t => t.ok → ∀ u : Term, u.ok → pcl Cp 24 [.agg t.enc, .agg u.enc] = some (.bool (t.sameB u))) (fun v fn args ih h => ?_) t
  intro u hu
  obtain ⟨v2, fn2, args2⟩ := u
  have he := equal_ok (g := 24) (p := Term.sameB) ⟨rfl, rfl⟩ (ts := args) (us := args2) h.1 (fun x hx y hy => ih x hx (okL_mem h.2 x hx) y (okL_mem hu.2 y hy))
  refine pcl_body code24 ?_
  simp [Term.enc, plc_raw, he]
  repeat' ((try simp only [condP_ite]); split <;> (try simp only [holdE]) <;> (try simp [*, plc_raw]))
  all_goals (simp_all [Term.sameB, sameBL_all2])

/-- Two terms' objects. -/
def termH2 (v : Int) (fn : ByteArray) (args : List Term) (v2 : Int) (fn2 : ByteArray) (args2 : List Term) : Hp :=
  upd (upd (fun _ => none) (0, 0) (.cells [.d (.int .i64 v), .d (.str fn), .d (.sl (encL args) args.length false none)])) (1, 0) (.cells [.d (.int .i64 v2), .d (.str fn2), .d (.sl (encL args2) args2.length false none)])
theorem rsame_loop (v0 : Int) (fn0 : ByteArray) (v00 : Int) (fn00 : ByteArray) (ts us : List Term) (hn : ts.length ≤ 9223372036854775807) (hlen : us.length = ts.length) (hrec : ∀ x ∈ ts, ∀ y ∈ us, pcl Cp 22 [.agg x.enc, .agg y.enc] = some (.bool (x.sameB y))) :
    ∃ e t, aloop Try.prog plc b22_0 ⟨[false, false, true, true, true, true, false, false, false, false, false, false, false, false, false, false, false, false, false, false, false, false, false, false, false, false, false, false, false, false, false, false, false, false, false, false, false, false, false, false, false, false, false, false, false, false], some 25⟩ ⟨[.junk, .junk, .ptr (0, 0) 0 3, .ptr (1, 0) 0 3, .d (.bool false), .d (.int .i64 0), .junk, .junk, .junk, .junk, .junk, .junk, .junk, .junk, .junk, .junk, .junk, .junk, .junk, .junk, .junk, .junk, .junk, .junk, .junk, .junk, .junk, .junk, .junk, .junk, .junk, .junk, .junk, .junk, .junk, .junk, .junk, .junk, .junk, .junk, .junk, .junk, .junk, .junk, .junk, .junk], termH2 v0 fn0 ts v00 fn00 us, 25⟩ = some (e, t) ∧
      (if sameBL ts us then AtExit 0 [.junk, .junk, .ptr (0, 0) 0 3, .ptr (1, 0) 0 3, .d (.bool false), .d (.int .i64 ts.length), .junk, .junk, .junk, .junk, .junk, .junk, .junk, .junk, .junk, .junk, .junk, .junk, .junk, .junk, .junk, .junk, .junk, .junk, .junk, .junk, .junk, .junk, .junk, .junk, .junk, .junk, .junk, .junk, .junk, .junk, .junk, .junk, .junk, .junk, .junk, .junk, .junk, .junk, .junk, .junk] (termH2 v0 fn0 ts v00 fn00 us) e t else AtRet 4 (.d (.bool false)) e t) := by
  refine loop_rule (b := 25) (tm := fun (i : Nat) => [.junk, .junk, .ptr (0, 0) 0 3, .ptr (1, 0) 0 3, .d (.bool false), .d (.int .i64 i), .junk, .junk, .junk, .junk, .junk, .junk, .junk, .junk, .junk, .junk, .junk, .junk, .junk, .junk, .junk, .junk, .junk, .junk, .junk, .junk, .junk, .junk, .junk, .junk, .junk, .junk, .junk, .junk, .junk, .junk, .junk, .junk, .junk, .junk, .junk, .junk, .junk, .junk, .junk, .junk]) (Hf := fun _ => termH2 v0 fn0 ts v00 fn00 us)
    (I := fun i => i ≤ ts.length) (μ := fun i => ts.length - i) (res := fun i => sameBL (ts.drop i) (us.drop i)) (R := fun b e t => if b then AtExit 0 [.junk, .junk, .ptr (0, 0) 0 3, .ptr (1, 0) 0 3, .d (.bool false), .d (.int .i64 ts.length), .junk, .junk, .junk, .junk, .junk, .junk, .junk, .junk, .junk, .junk, .junk, .junk, .junk, .junk, .junk, .junk, .junk, .junk, .junk, .junk, .junk, .junk, .junk, .junk, .junk, .junk, .junk, .junk, .junk, .junk, .junk, .junk, .junk, .junk, .junk, .junk, .junk, .junk, .junk, .junk] (termH2 v0 fn0 ts v00 fn00 us) e t else AtRet 4 (.d (.bool false)) e t)
    (fun i nx hi => ?_) 0 (Nat.zero_le _)
  rcases Nat.lt_or_ge i ts.length with hl | hl
  · obtain ⟨v, fn, args, a⟩ := at_ok hn hl
    obtain ⟨v2, fn2, args2, b⟩ := at_ok (ts := us) (by omega) (i := i) (by omega)
    have hcall := hrec _ a.mem _ b.mem
    simp [Term.enc] at hcall
    have bsz := b.sz
    have bltm := b.ltm
    have ble3 := b.le3
    rw [hlen] at bsz bltm ble3
    conv => arg 9; arg 4; unfold b22_0
    cases hp : (Term.mk v fn args).sameB (.mk v2 fn2 args2) <;> rw [hp] at hcall <;> simp [a.lti, a.sz, a.ltm, a.cells, a.le3, b.cells, bsz, bltm, ble3, hlen, plc_raw, hcall, a.w, termH2]
    · exact .fin _ _ (by simp only [a.dr, b.dr, sameBL, hp]; exact ⟨rfl, rfl⟩)
    · exact .next (i + 1) (by simp) (by simp) (by simp [termH2, hlen]) hl (by omega) (by simp [a.dr, b.dr, sameBL, hp])
  · obtain rfl : i = ts.length := Nat.le_antisymm hi hl
    simp [b22_0, termH2, hlen]
    exact .fin _ _ (by simp [sameBL, termH2, hlen]; exact .mk)
theorem rsame_ok (t : Term) : t.ok → ∀ u : Term, u.ok → pcl Cp 22 [.agg t.enc, .agg u.enc] = some (.bool (t.sameB u)) := by
  refine Term.ind (p := fun t => t.ok → ∀ u : Term, u.ok → pcl Cp 22 [.agg t.enc, .agg u.enc] = some (.bool (t.sameB u))) (fun v fn args ih h => ?_) t
  intro u hu
  obtain ⟨v2, fn2, args2⟩ := u
  refine pcl_body code22 ?_
  by_cases h3 : args.length = args2.length
  · obtain ⟨e, t, hrun, hR⟩ := rsame_loop v fn v2 fn2 args args2 h.1 h3.symm (fun x hx y hy => ih x hx (okL_mem h.2 x hx) y (okL_mem hu.2 y hy))
    simp [Term.enc, termH2, h3] at hrun ⊢
    cases hs : sameBL args args2 <;> simp only [hs, if_true, Bool.false_eq_true, if_false] at hR
    · obtain ⟨rfl, hv⟩ := hR
      repeat' ((try simp only [condP_ite]); split <;> (try simp only [holdE]) <;> (try simp [*, plc_raw]))
      all_goals (simp_all [Term.sameB])
    · obtain ⟨rfl, nx, rfl⟩ := hR
      repeat' ((try simp only [condP_ite]); split <;> (try simp only [holdE]) <;> (try simp [*, plc_raw]))
      all_goals (simp_all [Term.sameB])
  · have h3' : ¬ ((args.length : Int) = (args2.length : Int)) := by omega
    simp [Term.enc, h3, h3']
    repeat' ((try simp only [condP_ite]); split <;> (try simp only [holdE]) <;> (try simp [*, plc_raw]))
    all_goals (simp_all [Term.sameB])

/-! ### Right terms -/
theorem tright_ok (t : Term) (h : t.ok) : pcl Cp 47 [.agg t.enc] = some (.int .i64 t.rightE) := by
  have h1 := shaped_ok t h
  have h2 := depth_ok t h
  have h3 := size_ok t h
  refine pcl_body code47 ?_
  unfold Term.rightE
  generalize hs : t.shapeB = b at h1
  generalize hd : t.depthW = d at h2
  generalize hz : t.sizeW = z at h3
  obtain ⟨v, fn, args⟩ := t
  simp [Term.enc] at h1 h2 h3 ⊢
  simp [plc_raw, h1, h2, h3]
  repeat' ((try simp only [condP_ite]); split <;> (try simp only [holdE]) <;> (try simp [*, plc_raw]))
  all_goals (simp_all)
theorem rright_ok (t : Term) (h : t.ok) : pcl Cp 25 [.agg t.enc] = some (.int .i64 t.rightE) := by
  have h1 := rshape_ok t h
  have h2 := rdepth_ok t h
  have h3 := rsize_ok t h
  refine pcl_body code25 ?_
  unfold Term.rightE
  generalize hs : t.shapeB = b at h1
  generalize hd : t.depthW = d at h2
  generalize hz : t.sizeW = z at h3
  obtain ⟨v, fn, args⟩ := t
  simp [Term.enc] at h1 h2 h3 ⊢
  simp [plc_raw, h1, h2, h3]
  repeat' ((try simp only [condP_ite]); split <;> (try simp only [holdE]) <;> (try simp [*, plc_raw]))
  all_goals (simp_all)
end Go.Proofs.Ytiafeijkifpfaaa.Am

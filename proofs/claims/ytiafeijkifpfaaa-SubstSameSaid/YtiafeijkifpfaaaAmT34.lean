/-
  Terms: what the program's functions and the document's compute of them, as the abstract machine runs them. No condition.
-/
import Derived.Test.YtiafeijkifpfaaaAmC34
import Derived.Test.YtiafeijkifpfaaaAmTerm
namespace Go.Proofs.Ytiafeijkifpfaaa.Am
open Go Go.Proofs
set_option maxHeartbeats 4000000
set_option linter.unusedSimpArgs false
def pol34 : Pol := fun f => f == 87 || f == 65
noncomputable abbrev C34 := acall Try.prog pol34

/-- A term's object. -/
def termH (v : Int) (fn : ByteArray) (args : List Term) : Hp := upd (fun _ => none) (0, 0) (.cells [.d (.int .i64 v), .d (.str fn), .d (.sl (encL args) args.length false none)])

/-! ### Size, depth -/
theorem size_loop (x0 : AV) (ts : List Term) (hn : ts.length ≤ 9223372036854775807) (H : Hp) (hH : below 7 H = H) (hrec : ∀ x ∈ ts, pcl C34 42 [.agg x.enc] = some (.int .i64 x.sizeW)) : ∀ (m i : Nat) (acc : Int) (nx : Nat), i + m = ts.length →
    Ends (aloop Try.prog pol34 b42_0 ⟨[true, true, true, true, false, false, true, true, true, true, false, false, false, false, false, false, false, false, false], 7⟩
      ⟨[x0, .ptr (0, 0) 0 3, .d (.int .i64 0), .d (.int .i64 acc), .junk, .junk, .ptr (0, 0) 2 3, .d (.sl (encL ts) ts.length false none), .d (.int .i64 ts.length), .d (.int .i64 i), .junk, .junk, .junk, .junk, .junk, .junk, .junk, .junk, .junk], H, nx + 7⟩)
      (.exit 0) [x0, .ptr (0, 0) 0 3, .d (.int .i64 0), .d (.int .i64 (sizeWL acc (ts.drop i))), .junk, .junk, .ptr (0, 0) 2 3, .d (.sl (encL ts) ts.length false none), .d (.int .i64 ts.length), .d (.int .i64 ts.length), .d (.bool false), .junk, .junk, .junk, .junk, .junk, .junk, .junk, .junk] H := by
  intro m
  induction m with
  | zero =>
    intro i acc nx hi
    obtain rfl : i = ts.length := by omega
    refine .body ?_
    simp [b42_0, sizeWL]
    exact .mk
  | succ m ih =>
    intro i acc nx hi
    obtain ⟨v, fn, args, a⟩ := at_ok hn (i := i) (by omega)
    have hih := fun acc nx => ih (i + 1) acc nx (by omega)
    have hcall := hrec _ a.mem
    rw [a.dr]
    simp [Term.enc] at hcall
    refine .body ?_
    conv => arg 1; arg 4; unfold b42_0
    simp [a.lti, a.sz, a.ltm, a.cells, a.le3, pol34, hcall, a.w, hH, sizeWL]
    exact hih _ _
theorem size_ok (t : Term) : t.ok → pcl C34 42 [.agg t.enc] = some (.int .i64 t.sizeW) := by
  refine Term.ind (p := fun t => t.ok → pcl C34 42 [.agg t.enc] = some (.int .i64 t.sizeW)) (fun v fn args ih h => ?_) t
  obtain ⟨nx, hrun⟩ := size_loop (.d (.agg (Term.mk v fn args).enc)) args h.1 (termH v fn args) (by simp [termH]) (fun x hx => ih x hx (okL_mem h.2 x hx)) args.length 0 1 0 (by omega)
  refine pcl_body code42 ?_
  simp [Term.enc, termH] at hrun ⊢
  simp [hrun, Term.sizeW]

theorem rsize_loop (x0 : AV) (v0 : Int) (fn0 : ByteArray) (ts : List Term) (hn : ts.length ≤ 9223372036854775807) (hrec : ∀ x ∈ ts, pcl C34 45 [.agg x.enc] = some (.int .i64 x.sizeW)) : ∀ (m i : Nat) (acc : Int) (nx : Nat), i + m = ts.length →
    EndsP (aloop Try.prog pol34 b45_0 ⟨[true, true, true, true, true, false, false, false, false, false, false, false, false, false, false, false, false, false, false, false, false], 4⟩
      ⟨[x0, .ptr (0, 0) 0 3, .d (.int .i64 0), .d (.int .i64 acc), .d (.int .i64 i), .junk, .junk, .junk, .junk, .junk, .junk, .junk, .junk, .junk, .junk, .junk, .junk, .junk, .junk, .junk, .junk], termH v0 fn0 ts, nx + 4⟩)
      (.exit 0) [x0, .ptr (0, 0) 0 3, .d (.int .i64 0), .d (.int .i64 (sizeWL acc (ts.drop i)))] 17 (termH v0 fn0 ts) := by
  intro m
  induction m with
  | zero =>
    intro i acc nx hi
    obtain rfl : i = ts.length := by omega
    refine .body ?_
    simp [b45_0, sizeWL, termH]
    exact .mk rfl rfl
  | succ m ih =>
    intro i acc nx hi
    obtain ⟨v, fn, args, a⟩ := at_ok hn (i := i) (by omega)
    have hcall := hrec _ a.mem
    have hih := fun acc nx => ih (i + 1) acc nx (by omega)
    simp [Term.enc] at hcall
    rw [a.dr]
    refine .body ?_
    conv => arg 1; arg 4; unfold b45_0
    simp [a.lti, a.sz, a.ltm, a.cells, a.le3, pol34, hcall, a.w, sizeWL, termH]
    exact hih _ _
theorem rsize_ok (t : Term) : t.ok → pcl C34 45 [.agg t.enc] = some (.int .i64 t.sizeW) := by
  refine Term.ind (p := fun t => t.ok → pcl C34 45 [.agg t.enc] = some (.int .i64 t.sizeW)) (fun v fn args ih h => ?_) t
  obtain ⟨tl, nx, hl, hrun⟩ := rsize_loop (.d (.agg (Term.mk v fn args).enc)) v fn args h.1 (fun x hx => ih x hx (okL_mem h.2 x hx)) args.length 0 1 0 (by omega)
  refine pcl_body code45 ?_
  simp [Term.enc, termH] at hrun ⊢
  simp [hrun, hl, Term.sizeW]

theorem depth_loop (x0 : AV) (v0 : Int) (fn0 : ByteArray) (ts : List Term) (hn : ts.length ≤ 9223372036854775807) (hrec : ∀ x ∈ ts, pcl C34 44 [.agg x.enc] = some (.int .i64 x.depthW)) : ∀ (m i : Nat) (acc : Int) (nx : Nat), i + m = ts.length →
    EndsP (aloop Try.prog pol34 b44_0 ⟨[true, true, true, true, false, false, true, true, true, true, false, false, false, false, false, false, false, false, false, false], 7⟩
      ⟨[x0, .ptr (0, 0) 0 3, .d (.int .i64 0), .d (.int .i64 acc), .junk, .junk, .ptr (0, 0) 2 3, .d (.sl (encL ts) ts.length false none), .d (.int .i64 ts.length), .d (.int .i64 i), .junk, .junk, .junk, .junk, .junk, .junk, .junk, .junk, .junk, .junk], termH v0 fn0 ts, nx + 7⟩)
      (.exit 0) [x0, .ptr (0, 0) 0 3, .d (.int .i64 0), .d (.int .i64 (depthWL acc (ts.drop i)))] 16 (termH v0 fn0 ts) := by
  intro m
  induction m with
  | zero =>
    intro i acc nx hi
    obtain rfl : i = ts.length := by omega
    refine .body ?_
    simp [b44_0, depthWL]
    exact .mk rfl rfl
  | succ m ih =>
    intro i acc nx hi
    obtain ⟨v, fn, args, a⟩ := at_ok hn (i := i) (by omega)
    have hih := fun acc nx => ih (i + 1) acc nx (by omega)
    have hcall := hrec _ a.mem
    rw [a.dr]
    simp [Term.enc, termH] at hcall hih ⊢
    refine .body ?_
    conv => arg 1; arg 4; unfold b44_0
    simp [a.lti, a.sz, a.ltm, a.cells, a.le3, pol34, hcall, a.w, depthWL]
    exact hih _ _
theorem depth_ok (t : Term) : t.ok → pcl C34 44 [.agg t.enc] = some (.int .i64 t.depthW) := by
  refine Term.ind (p := fun t => t.ok → pcl C34 44 [.agg t.enc] = some (.int .i64 t.depthW)) (fun v fn args ih h => ?_) t
  obtain ⟨tl, nx, hl, hrun⟩ := depth_loop (.d (.agg (Term.mk v fn args).enc)) v fn args h.1 (fun x hx => ih x hx (okL_mem h.2 x hx)) args.length 0 0 0 (by omega)
  refine pcl_body code44 ?_
  simp [Term.enc, termH] at hrun ⊢
  simp [hrun, hl, Term.depthW]
theorem rdepth_loop (x0 : AV) (v0 : Int) (fn0 : ByteArray) (ts : List Term) (hn : ts.length ≤ 9223372036854775807) (hrec : ∀ x ∈ ts, pcl C34 46 [.agg x.enc] = some (.int .i64 x.depthW)) : ∀ (m i : Nat) (acc : Int) (nx : Nat), i + m = ts.length →
    EndsP (aloop Try.prog pol34 b46_0 ⟨[true, true, true, true, true, false, false, false, false, false, false, false, false, false, false, false, false, false, false, false, false, false], 4⟩
      ⟨[x0, .ptr (0, 0) 0 3, .d (.int .i64 0), .d (.int .i64 acc), .d (.int .i64 i), .junk, .junk, .junk, .junk, .junk, .junk, .junk, .junk, .junk, .junk, .junk, .junk, .junk, .junk, .junk, .junk, .junk], termH v0 fn0 ts, nx + 4⟩)
      (.exit 0) [x0, .ptr (0, 0) 0 3, .d (.int .i64 0), .d (.int .i64 (depthWL acc (ts.drop i)))] 18 (termH v0 fn0 ts) := by
  intro m
  induction m with
  | zero =>
    intro i acc nx hi
    obtain rfl : i = ts.length := by omega
    refine .body ?_
    simp [b46_0, depthWL, termH]
    exact .mk rfl rfl
  | succ m ih =>
    intro i acc nx hi
    obtain ⟨v, fn, args, a⟩ := at_ok hn (i := i) (by omega)
    have hcall := hrec _ a.mem
    have hih := fun acc nx => ih (i + 1) acc nx (by omega)
    simp [Term.enc] at hcall
    rw [a.dr]
    refine .body ?_
    conv => arg 1; arg 4; unfold b46_0
    simp [a.lti, a.sz, a.ltm, a.cells, a.le3, pol34, hcall, a.w, depthWL, termH]
    exact hih _ _
theorem rdepth_ok (t : Term) : t.ok → pcl C34 46 [.agg t.enc] = some (.int .i64 t.depthW) := by
  refine Term.ind (p := fun t => t.ok → pcl C34 46 [.agg t.enc] = some (.int .i64 t.depthW)) (fun v fn args ih h => ?_) t
  obtain ⟨tl, nx, hl, hrun⟩ := rdepth_loop (.d (.agg (Term.mk v fn args).enc)) v fn args h.1 (fun x hx => ih x hx (okL_mem h.2 x hx)) args.length 0 0 0 (by omega)
  refine pcl_body code46 ?_
  simp [Term.enc, termH] at hrun ⊢
  simp [hrun, hl, Term.depthW]

/-! ### Shape -/
theorem right_ok (v : Int) (fn : ByteArray) (cs : List D) (n : Nat) : pcl C34 94 [.agg [.int .i64 v, .str fn, .sl cs n false none]] = some (.bool (rightB v fn n)) := by
  refine pcl_body code94 ?_
  by_cases h0 : fn.toList = (ByteArray.mk #[]).toList
  · by_cases h1 : 0 ≤ v
    · by_cases h2 : v < 1000000
      · by_cases h3 : n = 0 <;> simp [h0, h1, h2, h3, rightB, noName]
      · simp [h0, h1, h2, rightB, noName]
    · simp [h0, h1, rightB, noName]
  · by_cases h1 : v = 0
    · by_cases h2 : (fn.size : Int) ≤ 64
      · by_cases h3 : (n : Int) ≤ 16 <;> simp [h0, h1, h2, h3, rightB, noName]
      · simp [h0, h1, h2, rightB, noName]
    · simp [h0, h1, rightB, noName]

/-- IndexFunc over terms. -/
theorem index_loop (g : FuncId) (p : Term → Bool) (ts : List Term) (hn : ts.length ≤ 9223372036854775807) (hg : pol34 g = false) (hrec : ∀ x ∈ ts, pcl C34 g [.agg x.enc] = some (.bool (p x))) : ∀ (m i : Nat) (nx : Nat), i + m = ts.length →
    (∀ k, (ts.drop i).findIdx? p = some k → RetAt (aloop Try.prog pol34 b101_0 ⟨[true, true, false, false, true, false, true, true, true, false, false, false, false, false, false, false, false, false, false], 4⟩
      ⟨[.d (.sl (encL ts) ts.length false none), .d (.fn g []), .junk, .junk, .d (.int .i64 0), .junk, .d (.sl (encL ts) ts.length false none), .d (.int .i64 ts.length), .d (.int .i64 i), .junk, .junk, .junk, .junk, .junk, .junk, .junk, .junk, .junk, .junk], fun _ => none, nx + 4⟩) 4 (.d (.int .i64 (i + k)))) ∧
    ((ts.drop i).findIdx? p = none → EndsP (aloop Try.prog pol34 b101_0 ⟨[true, true, false, false, true, false, true, true, true, false, false, false, false, false, false, false, false, false, false], 4⟩
      ⟨[.d (.sl (encL ts) ts.length false none), .d (.fn g []), .junk, .junk, .d (.int .i64 0), .junk, .d (.sl (encL ts) ts.length false none), .d (.int .i64 ts.length), .d (.int .i64 i), .junk, .junk, .junk, .junk, .junk, .junk, .junk, .junk, .junk, .junk], fun _ => none, nx + 4⟩)
      (.exit 0) [.d (.sl (encL ts) ts.length false none), .d (.fn g []), .junk, .junk, .d (.int .i64 0)] 14 (fun _ => none)) := by
  intro m
  induction m with
  | zero =>
    intro i nx hi
    obtain rfl : i = ts.length := by omega
    refine ⟨fun k hk => by simp at hk, fun _ => .body ?_⟩
    simp [b101_0]
    exact .mk rfl rfl
  | succ m ih =>
    intro i nx hi
    obtain ⟨v, fn, args, a⟩ := at_ok hn (i := i) (by omega)
    have hcall := hrec _ a.mem
    have hih := fun nx => ih (i + 1) nx (by omega)
    simp [Term.enc] at hcall
    rw [a.dr]
    cases hp : p (.mk v fn args) with
    | true =>
      rw [hp] at hcall
      refine ⟨fun k hk => ?_, fun hk => by simp [List.findIdx?_cons, hp] at hk⟩
      simp [List.findIdx?_cons, hp] at hk
      subst hk
      refine .body ?_
      conv => arg 1; arg 4; unfold b101_0
      simp [a.lti, a.sz, a.ltm, a.cells, a.le3, hg, hcall, a.w]
      exact .mk rfl
    | false =>
      rw [hp] at hcall
      have hk1 : ∀ k, List.findIdx? p (Term.mk v fn args :: ts.drop (i + 1)) = some k → ∃ j, List.findIdx? p (ts.drop (i + 1)) = some j ∧ k = j + 1 := fun k hk => by
        simp [List.findIdx?_cons, hp] at hk
        obtain ⟨j, hj, rfl⟩ := hk
        exact ⟨j, hj, rfl⟩
      refine ⟨fun k hk => ?_, fun hk => ?_⟩
      · obtain ⟨j, hj, rfl⟩ := hk1 k hk
        have h2 := fun nx => (hih nx).1 j hj
        refine .body ?_
        conv => arg 1; arg 4; unfold b101_0
        simp [a.lti, a.sz, a.ltm, a.cells, a.le3, hg, hcall, a.w]
        have e : ((i : Int) + ((j : Int) + 1)) = ((i + 1 : Nat) : Int) + (j : Int) := by omega
        rw [e]
        exact h2 _
      · have h2 := fun nx => (hih nx).2 (by simpa [List.findIdx?_cons, hp] using hk)
        refine .body ?_
        conv => arg 1; arg 4; unfold b101_0
        simp [a.lti, a.sz, a.ltm, a.cells, a.le3, hg, hcall, a.w]
        exact h2 _
theorem index_ok {g : FuncId} {p : Term → Bool} {ts : List Term} (hn : ts.length ≤ 9223372036854775807) (hg : pol34 g = false) (hrec : ∀ x ∈ ts, pcl C34 g [.agg x.enc] = some (.bool (p x))) :
    pcl C34 101 [.sl (encL ts) ts.length false none, .fn g []] = some (.int .i64 (match ts.findIdx? p with | some k => k | none => -1)) := by
  obtain ⟨h1, h2⟩ := index_loop g p ts hn hg hrec ts.length 0 0 (by omega)
  simp at h1 h2
  refine pcl_body code101 ?_
  cases hq : ts.findIdx? p with
  | some k =>
    obtain ⟨tm, H, nx, hrun, htm⟩ := h1 k hq
    simp [hrun, htm]
  | none =>
    obtain ⟨tl, nx, hl, hrun⟩ := h2 (by simpa using hq)
    simp [hrun]
theorem contains_ok {g : FuncId} {p : Term → Bool} {ts : List Term} (hn : ts.length ≤ 9223372036854775807) (hg : pol34 g = false) (hrec : ∀ x ∈ ts, pcl C34 g [.agg x.enc] = some (.bool (p x))) :
    pcl C34 95 [.sl (encL ts) ts.length false none, .fn g []] = some (.bool (ts.any p)) := by
  refine pcl_body code95 ?_
  have h := index_ok hn hg hrec
  cases hq : ts.findIdx? p with
  | some k =>
    have ha : ts.any p = true := by
      rw [List.findIdx?_eq_some_iff_getElem] at hq
      obtain ⟨hk, hp, _⟩ := hq
      exact List.any_eq_true.2 ⟨_, List.getElem_mem hk, hp⟩
    rw [hq] at h
    simp [pol34, h, ha]
  | none =>
    have ha : ts.any p = false := by
      rw [List.findIdx?_eq_none_iff] at hq
      rw [List.any_eq_false]
      intro x hx; simp [hq x hx]
    rw [hq] at h
    simp [pol34, h, ha]
theorem shapeBL_all : ∀ (ts : List Term), shapeBL ts = !ts.any (fun x => !x.shapeB)
  | [] => rfl
  | t :: r => by simp [shapeBL, shapeBL_all r]
theorem shaped_ok (t : Term) : t.ok → pcl C34 76 [.agg t.enc] = some (.bool t.shapeB) := by
  refine Term.ind (p := fun t => t.ok → pcl C34 76 [.agg t.enc] = some (.bool t.shapeB)) (fun v fn args ih h => ?_) t
  have hc := contains_ok (g := 96) (p := fun x => !x.shapeB) h.1 rfl (fun x hx => by
    have := ih x hx (okL_mem h.2 x hx)
    refine pcl_body code96 ?_
    obtain ⟨v, fn, a⟩ := x
    simp [Term.enc] at this
    simp [Term.enc, pol34, this])
  have hr := right_ok v fn (encL args) args.length
  refine pcl_body code76 ?_
  cases hb : rightB v fn args.length <;> rw [hb] at hr <;> simp [Term.enc, pol34, hr, hc, Term.shapeB, hb, shapeBL_all]

theorem rshape_loop (x0 : AV) (v0 : Int) (fn0 : ByteArray) (ts : List Term) (hn : ts.length ≤ 9223372036854775807) (hrec : ∀ x ∈ ts, pcl C34 56 [.agg x.enc] = some (.bool x.shapeB)) (y4 y5 y6 y21 y22 y23 y24 y25 y26 y27 y28 y29 y30 y31 y32 y33 y34 y35 : AV) : ∀ (m i : Nat) (nx : Nat), i + m = ts.length →
    (shapeBL (ts.drop i) = true → EndsP (aloop Try.prog pol34 b56_0 ⟨[true, true, true, true, true, true, true, false, false, false, false, false, false, false, false, false, false, false, false, false, false, true, true, true, true, true, true, true, true, true, true, true, true, true, true, true, false, false, false, false, false, false, false, false, false, false, false, false, false, false], 21⟩
      ⟨[x0, .ptr (0, 0) 0 3, .d (.bool false), .d (.int .i64 i), y4, y5, y6, .junk, .junk, .junk, .junk, .junk, .junk, .junk, .junk, .junk, .junk, .junk, .junk, .junk, .junk, y21, y22, y23, y24, y25, y26, y27, y28, y29, y30, y31, y32, y33, y34, y35, .junk, .junk, .junk, .junk, .junk, .junk, .junk, .junk, .junk, .junk, .junk, .junk, .junk, .junk], termH v0 fn0 ts, nx + 21⟩)
      (.exit 0) [x0, .ptr (0, 0) 0 3, .d (.bool false)] 47 (termH v0 fn0 ts)) ∧
    (shapeBL (ts.drop i) = false → RetAt (aloop Try.prog pol34 b56_0 ⟨[true, true, true, true, true, true, true, false, false, false, false, false, false, false, false, false, false, false, false, false, false, true, true, true, true, true, true, true, true, true, true, true, true, true, true, true, false, false, false, false, false, false, false, false, false, false, false, false, false, false], 21⟩
      ⟨[x0, .ptr (0, 0) 0 3, .d (.bool false), .d (.int .i64 i), y4, y5, y6, .junk, .junk, .junk, .junk, .junk, .junk, .junk, .junk, .junk, .junk, .junk, .junk, .junk, .junk, y21, y22, y23, y24, y25, y26, y27, y28, y29, y30, y31, y32, y33, y34, y35, .junk, .junk, .junk, .junk, .junk, .junk, .junk, .junk, .junk, .junk, .junk, .junk, .junk, .junk], termH v0 fn0 ts, nx + 21⟩) 2 (.d (.bool false))) := by
  intro m
  induction m with
  | zero =>
    intro i nx hi
    obtain rfl : i = ts.length := by omega
    refine ⟨fun _ => .body ?_, fun h => by simp [shapeBL] at h⟩
    simp [b56_0, termH]
    exact .mk rfl rfl
  | succ m ih =>
    intro i nx hi
    obtain ⟨v, fn, args, a⟩ := at_ok hn (i := i) (by omega)
    have hcall := hrec _ a.mem
    have hih := fun nx => ih (i + 1) nx (by omega)
    simp [Term.enc] at hcall
    rw [a.dr]
    cases hp : (Term.mk v fn args).shapeB with
    | true =>
      rw [hp] at hcall
      have hs : shapeBL (.mk v fn args :: ts.drop (i + 1)) = shapeBL (ts.drop (i + 1)) := by simp [shapeBL, hp]
      rw [hs]
      refine ⟨fun h => .body ?_, fun h => .body ?_⟩
      · have h2 := fun nx => (hih nx).1 h
        conv => arg 1; arg 4; unfold b56_0
        simp [a.lti, a.sz, a.ltm, a.cells, a.le3, pol34, hcall, a.w, termH]
        exact h2 _
      · have h2 := fun nx => (hih nx).2 h
        conv => arg 1; arg 4; unfold b56_0
        simp [a.lti, a.sz, a.ltm, a.cells, a.le3, pol34, hcall, a.w, termH]
        exact h2 _
    | false =>
      rw [hp] at hcall
      refine ⟨fun h => by simp [shapeBL, hp] at h, fun h => .body ?_⟩
      conv => arg 1; arg 4; unfold b56_0
      simp [a.lti, a.sz, a.ltm, a.cells, a.le3, pol34, hcall, a.w, termH]
      exact .mk rfl
theorem rshape_ok (t : Term) : t.ok → pcl C34 56 [.agg t.enc] = some (.bool t.shapeB) := by
  refine Term.ind (p := fun t => t.ok → pcl C34 56 [.agg t.enc] = some (.bool t.shapeB)) (fun v fn args ih h => ?_) t
  refine pcl_body code56 ?_
  by_cases h0 : fn.toList = (ByteArray.mk #[]).toList
  · by_cases h1 : 0 ≤ v
    · by_cases h2 : v < 1000000
      · by_cases h3 : args.length = 0
        · obtain rfl : args = [] := List.eq_nil_of_length_eq_zero h3
          simp [Term.enc, h0, h1, h2, Term.shapeB, shapeBL, rightB, noName]
        · simp [Term.enc, h0, h1, h2, h3, Term.shapeB, rightB, noName]
      · simp [Term.enc, h0, h1, h2, Term.shapeB, rightB, noName]
    · simp [Term.enc, h0, h1, Term.shapeB, rightB, noName]
  · by_cases h1 : v = 0
    · by_cases h2 : (fn.size : Int) ≤ 64
      · by_cases h3 : (args.length : Int) ≤ 16
        · have h2' : ¬ (64 < (fn.size : Int)) := by omega
          have h3' : ¬ (16 < (args.length : Int)) := by omega
          have hl := fun y4 y5 y6 y21 y22 y23 y24 y25 y26 y27 y28 y29 y30 y31 y32 y33 y34 y35 => rshape_loop (.d (.agg (Term.mk v fn args).enc)) v fn args h.1 (fun x hx => ih x hx (okL_mem h.2 x hx)) y4 y5 y6 y21 y22 y23 y24 y25 y26 y27 y28 y29 y30 y31 y32 y33 y34 y35 args.length 0 0 (by omega)
          simp [Term.enc, termH, h1] at hl
          simp [Term.enc, h0, h1, h2, h3, h2', h3', Term.shapeB, rightB, noName]
          generalize hx : aloop _ _ _ _ _ = X
          cases hs : shapeBL args with
          | true =>
            obtain ⟨tl, nx, hl2, rfl⟩ : EndsP X (.exit 0) [.d (.agg (Term.mk 0 fn args).enc), .ptr (0, 0) 0 3, .d (.bool false)] 47 (termH 0 fn args) := by
              rw [← hx]
              exact (hl _ _ _ _ _ _ _ _ _ _ _ _ _ _ _ _ _ _).1 hs
            simp [hl2]
          | false =>
            obtain ⟨tm, H, nx, rfl, htm⟩ : RetAt X 2 (.d (.bool false)) := by
              rw [← hx]
              exact (hl _ _ _ _ _ _ _ _ _ _ _ _ _ _ _ _ _ _).2 hs
            simp [htm]
        · have h3' : (16 < (args.length : Int)) := by omega
          have h2' : ¬ (64 < (fn.size : Int)) := by omega
          simp [Term.enc, h0, h1, h2, h3, h2', h3', Term.shapeB, rightB, noName]
      · have h2' : (64 < (fn.size : Int)) := by omega
        simp [Term.enc, h0, h1, h2, h2', Term.shapeB, rightB, noName]
    · simp [Term.enc, h0, h1, Term.shapeB, rightB, noName]

/-! ### Sameness -/
theorem equal_loop (g : FuncId) (p : Term → Term → Bool) (hg : pol34 g = false) (ts us : List Term) (hn : ts.length ≤ 9223372036854775807) (hlen : us.length = ts.length) (hrec : ∀ x ∈ ts, ∀ y ∈ us, pcl C34 g [.agg x.enc, .agg y.enc] = some (.bool (p x y))) (y10 y11 y12 y13 y14 : AV) : ∀ (m i : Nat) (nx : Nat), i + m = ts.length →
    (all2 p (ts.drop i) (us.drop i) = true → EndsP (aloop Try.prog pol34 b55_0 ⟨[true, true, true, false, false, false, true, false, false, false, true, true, true, true, true, true, true, true, false, false, false, false, false, false, false, false, false, false, false, false, false, false], 9⟩
      ⟨[.d (.sl (encL ts) ts.length false none), .d (.sl (encL us) ts.length false none), .d (.fn g []), .junk, .junk, .junk, .d (.bool false), .junk, .junk, .junk, y10, y11, y12, y13, y14, .d (.sl (encL ts) ts.length false none), .d (.int .i64 ts.length), .d (.int .i64 i), .junk, .junk, .junk, .junk, .junk, .junk, .junk, .junk, .junk, .junk, .junk, .junk, .junk, .junk], fun _ => none, nx + 9⟩)
      (.exit 0) [.d (.sl (encL ts) ts.length false none), .d (.sl (encL us) ts.length false none), .d (.fn g []), .junk, .junk, .junk, .d (.bool false)] 25 (fun _ => none)) ∧
    (all2 p (ts.drop i) (us.drop i) = false → RetAt (aloop Try.prog pol34 b55_0 ⟨[true, true, true, false, false, false, true, false, false, false, true, true, true, true, true, true, true, true, false, false, false, false, false, false, false, false, false, false, false, false, false, false], 9⟩
      ⟨[.d (.sl (encL ts) ts.length false none), .d (.sl (encL us) ts.length false none), .d (.fn g []), .junk, .junk, .junk, .d (.bool false), .junk, .junk, .junk, y10, y11, y12, y13, y14, .d (.sl (encL ts) ts.length false none), .d (.int .i64 ts.length), .d (.int .i64 i), .junk, .junk, .junk, .junk, .junk, .junk, .junk, .junk, .junk, .junk, .junk, .junk, .junk, .junk], fun _ => none, nx + 9⟩) 6 (.d (.bool false))) := by
  intro m
  induction m with
  | zero =>
    intro i nx hi
    obtain rfl : i = ts.length := by omega
    refine ⟨fun _ => .body ?_, fun h => by simp [all2] at h⟩
    simp [b55_0]
    exact .mk rfl rfl
  | succ m ih =>
    intro i nx hi
    obtain ⟨v, fn, args, a⟩ := at_ok hn (i := i) (by omega)
    obtain ⟨v2, fn2, args2, b⟩ := at_ok (ts := us) (by omega) (i := i) (by omega)
    have hcall := hrec _ a.mem _ b.mem
    have hih := fun nx => ih (i + 1) nx (by omega)
    simp [Term.enc] at hcall
    rw [a.dr, b.dr]
    have bsz := b.sz
    have bltm := b.ltm
    have ble3 := b.le3
    rw [hlen] at bsz bltm ble3
    cases hp : p (Term.mk v fn args) (Term.mk v2 fn2 args2) with
    | true =>
      rw [hp] at hcall
      have hs : all2 p (.mk v fn args :: ts.drop (i + 1)) (.mk v2 fn2 args2 :: us.drop (i + 1)) = all2 p (ts.drop (i + 1)) (us.drop (i + 1)) := by simp [all2, hp]
      rw [hs]
      refine ⟨fun h => .body ?_, fun h => .body ?_⟩
      · have h2 := fun nx => (hih nx).1 h
        conv => arg 1; arg 4; unfold b55_0
        simp [a.lti, a.sz, a.ltm, a.cells, a.le3, b.cells, bsz, bltm, ble3, hg, hcall, a.w]
        exact h2 _
      · have h2 := fun nx => (hih nx).2 h
        conv => arg 1; arg 4; unfold b55_0
        simp [a.lti, a.sz, a.ltm, a.cells, a.le3, b.cells, bsz, bltm, ble3, hg, hcall, a.w]
        exact h2 _
    | false =>
      rw [hp] at hcall
      refine ⟨fun h => by simp [all2, hp] at h, fun h => .body ?_⟩
      conv => arg 1; arg 4; unfold b55_0
      simp [a.lti, a.sz, a.ltm, a.cells, a.le3, b.cells, bsz, bltm, ble3, hg, hcall, a.w]
      exact .mk rfl
theorem equal_ok {g : FuncId} {p : Term → Term → Bool} (hg : pol34 g = false) {ts us : List Term} (hn : ts.length ≤ 9223372036854775807) (hrec : ∀ x ∈ ts, ∀ y ∈ us, pcl C34 g [.agg x.enc, .agg y.enc] = some (.bool (p x y))) :
    pcl C34 55 [.sl (encL ts) ts.length false none, .sl (encL us) us.length false none, .fn g []] = some (.bool (decide (ts.length = us.length) && all2 p ts us)) := by
  refine pcl_body code55 ?_
  by_cases hl : ts.length = us.length
  · have hloop := fun y10 y11 y12 y13 y14 => equal_loop g p hg ts us hn hl.symm hrec y10 y11 y12 y13 y14 ts.length 0 0 (by omega)
    simp at hloop
    rw [← hl]
    simp
    generalize hx : aloop _ _ _ _ _ = X
    cases hs : all2 p ts us with
    | true =>
      obtain ⟨tl, nx, hl2, rfl⟩ : EndsP X (.exit 0) [.d (.sl (encL ts) ts.length false none), .d (.sl (encL us) ts.length false none), .d (.fn g []), .junk, .junk, .junk, .d (.bool false)] 25 (fun _ => none) := by
        rw [← hx]
        exact (hloop _ _ _ _ _).1 hs
      simp [hl2]
    | false =>
      obtain ⟨tm, H, nx, rfl, htm⟩ : RetAt X 6 (.d (.bool false)) := by
        rw [← hx]
        exact (hloop _ _ _ _ _).2 hs
      simp [htm]
  · have : ¬ ((ts.length : Int) = (us.length : Int)) := by omega
    simp [hl, this]
theorem same_ok (t : Term) : t.ok → ∀ u : Term, u.ok → pcl C34 24 [.agg t.enc, .agg u.enc] = some (.bool (t.sameB u)) := by
  refine Term.ind (p := fun t => t.ok → ∀ u : Term, u.ok → pcl C34 24 [.agg t.enc, .agg u.enc] = some (.bool (t.sameB u))) (fun v fn args ih h => ?_) t
  intro u hu
  obtain ⟨v2, fn2, args2⟩ := u
  have he := equal_ok (g := 24) (p := Term.sameB) rfl (ts := args) (us := args2) h.1 (fun x hx y hy => ih x hx (okL_mem h.2 x hx) y (okL_mem hu.2 y hy))
  refine pcl_body code24 ?_
  by_cases h1 : v = v2
  · by_cases h2 : fn.toList = fn2.toList
    · simp [Term.enc, h1, h2, pol34, he, Term.sameB, sameBL_all2]
    · simp [Term.enc, h1, h2, pol34, Term.sameB]
  · simp [Term.enc, h1, pol34, Term.sameB]

/-- Two terms' objects. -/
def termH2 (v : Int) (fn : ByteArray) (args : List Term) (v2 : Int) (fn2 : ByteArray) (args2 : List Term) : Hp :=
  upd (upd (fun _ => none) (0, 0) (.cells [.d (.int .i64 v), .d (.str fn), .d (.sl (encL args) args.length false none)])) (1, 0) (.cells [.d (.int .i64 v2), .d (.str fn2), .d (.sl (encL args2) args2.length false none)])
theorem rsame_loop (x0 x1 : AV) (v0 : Int) (fn0 : ByteArray) (v00 : Int) (fn00 : ByteArray) (ts us : List Term) (hn : ts.length ≤ 9223372036854775807) (hlen : us.length = ts.length) (hrec : ∀ x ∈ ts, ∀ y ∈ us, pcl C34 22 [.agg x.enc, .agg y.enc] = some (.bool (x.sameB y))) (y6 y7 y8 y9 y10 y11 y12 y13 y14 y15 y16 y17 y18 y19 y20 y21 y22 y23 y24 y25 y26 : AV) : ∀ (m i : Nat) (nx : Nat), i + m = ts.length →
    (sameBL (ts.drop i) (us.drop i) = true → EndsP (aloop Try.prog pol34 b22_0 ⟨[true, true, true, true, true, true, true, true, true, true, true, true, true, true, true, true, true, true, true, true, true, true, true, true, true, true, true, false, false, false, false, false, false, false, false, false, false, false, false, false, false, false, false, false, false, false], 25⟩
      ⟨[x0, x1, .ptr (0, 0) 0 3, .ptr (1, 0) 0 3, .d (.bool false), .d (.int .i64 i), y6, y7, y8, y9, y10, y11, y12, y13, y14, y15, y16, y17, y18, y19, y20, y21, y22, y23, y24, y25, y26, .junk, .junk, .junk, .junk, .junk, .junk, .junk, .junk, .junk, .junk, .junk, .junk, .junk, .junk, .junk, .junk, .junk, .junk, .junk], termH2 v0 fn0 ts v00 fn00 us, nx + 25⟩)
      (.exit 0) [x0, x1, .ptr (0, 0) 0 3, .ptr (1, 0) 0 3, .d (.bool false)] 41 (termH2 v0 fn0 ts v00 fn00 us)) ∧
    (sameBL (ts.drop i) (us.drop i) = false → RetAt (aloop Try.prog pol34 b22_0 ⟨[true, true, true, true, true, true, true, true, true, true, true, true, true, true, true, true, true, true, true, true, true, true, true, true, true, true, true, false, false, false, false, false, false, false, false, false, false, false, false, false, false, false, false, false, false, false], 25⟩
      ⟨[x0, x1, .ptr (0, 0) 0 3, .ptr (1, 0) 0 3, .d (.bool false), .d (.int .i64 i), y6, y7, y8, y9, y10, y11, y12, y13, y14, y15, y16, y17, y18, y19, y20, y21, y22, y23, y24, y25, y26, .junk, .junk, .junk, .junk, .junk, .junk, .junk, .junk, .junk, .junk, .junk, .junk, .junk, .junk, .junk, .junk, .junk, .junk, .junk], termH2 v0 fn0 ts v00 fn00 us, nx + 25⟩) 4 (.d (.bool false))) := by
  intro m
  induction m with
  | zero =>
    intro i nx hi
    obtain rfl : i = ts.length := by omega
    refine ⟨fun _ => .body ?_, fun h => by simp [sameBL] at h⟩
    simp [b22_0, termH2]
    exact .mk rfl rfl
  | succ m ih =>
    intro i nx hi
    obtain ⟨v, fn, args, a⟩ := at_ok hn (i := i) (by omega)
    obtain ⟨v2, fn2, args2, b⟩ := at_ok (ts := us) (by omega) (i := i) (by omega)
    have hcall := hrec _ a.mem _ b.mem
    have hih := fun nx => ih (i + 1) nx (by omega)
    simp [Term.enc] at hcall
    rw [a.dr, b.dr]
    have bsz := b.sz
    have bltm := b.ltm
    have ble3 := b.le3
    rw [hlen] at bsz bltm ble3
    cases hp : (Term.mk v fn args).sameB (Term.mk v2 fn2 args2) with
    | true =>
      rw [hp] at hcall
      have hs : sameBL (.mk v fn args :: ts.drop (i + 1)) (.mk v2 fn2 args2 :: us.drop (i + 1)) = sameBL (ts.drop (i + 1)) (us.drop (i + 1)) := by simp [sameBL, hp]
      rw [hs]
      refine ⟨fun h => .body ?_, fun h => .body ?_⟩
      · have h2 := fun nx => (hih nx).1 h
        conv => arg 1; arg 4; unfold b22_0
        simp [a.lti, a.sz, a.ltm, a.cells, a.le3, b.cells, bsz, bltm, ble3, hlen, pol34, hcall, a.w, termH2]
        simp [termH2, hlen] at h2
        exact h2 _
      · have h2 := fun nx => (hih nx).2 h
        conv => arg 1; arg 4; unfold b22_0
        simp [a.lti, a.sz, a.ltm, a.cells, a.le3, b.cells, bsz, bltm, ble3, hlen, pol34, hcall, a.w, termH2]
        simp [termH2, hlen] at h2
        exact h2 _
    | false =>
      rw [hp] at hcall
      refine ⟨fun h => by simp [sameBL, hp] at h, fun h => .body ?_⟩
      conv => arg 1; arg 4; unfold b22_0
      simp [a.lti, a.sz, a.ltm, a.cells, a.le3, b.cells, bsz, bltm, ble3, hlen, pol34, hcall, a.w, termH2]
      exact .mk rfl
theorem rsame_ok (t : Term) : t.ok → ∀ u : Term, u.ok → pcl C34 22 [.agg t.enc, .agg u.enc] = some (.bool (t.sameB u)) := by
  refine Term.ind (p := fun t => t.ok → ∀ u : Term, u.ok → pcl C34 22 [.agg t.enc, .agg u.enc] = some (.bool (t.sameB u))) (fun v fn args ih h => ?_) t
  intro u hu
  obtain ⟨v2, fn2, args2⟩ := u
  refine pcl_body code22 ?_
  by_cases h1 : v = v2
  · by_cases h2 : fn.toList = fn2.toList
    · by_cases h3 : args.length = args2.length
      · have hl := fun y6 y7 y8 y9 y10 y11 y12 y13 y14 y15 y16 y17 y18 y19 y20 y21 y22 y23 y24 y25 y26 => rsame_loop (.d (.agg (Term.mk v fn args).enc)) (.d (.agg (Term.mk v2 fn2 args2).enc)) v fn v2 fn2 args args2 h.1 h3.symm (fun x hx y hy => ih x hx (okL_mem h.2 x hx) y (okL_mem hu.2 y hy)) y6 y7 y8 y9 y10 y11 y12 y13 y14 y15 y16 y17 y18 y19 y20 y21 y22 y23 y24 y25 y26 args.length 0 0 (by omega)
        simp [Term.enc, termH2, h1, h3] at hl
        simp [Term.enc, h1, h2, h3, Term.sameB]
        generalize hx : aloop _ _ _ _ _ = X
        cases hs : sameBL args args2 with
        | true =>
          obtain ⟨tl, nx, hl2, rfl⟩ : EndsP X (.exit 0) [.d (.agg [.int .i64 v2, .str fn, .sl (encL args) args2.length false none]), .d (.agg (Term.mk v2 fn2 args2).enc), .ptr (0, 0) 0 3, .ptr (1, 0) 0 3, .d (.bool false)] 41 (upd (upd (fun _ => none) (0, 0) (.cells [.d (.int .i64 v2), .d (.str fn), .d (.sl (encL args) args2.length false none)])) (1, 0) (.cells [.d (.int .i64 v2), .d (.str fn2), .d (.sl (encL args2) args2.length false none)])) := by
            rw [← hx]
            exact (hl _ _ _ _ _ _ _ _ _ _ _ _ _ _ _ _ _ _ _ _ _).1 hs
          simp [hl2]
        | false =>
          obtain ⟨tm, H, nx, rfl, htm⟩ : RetAt X 4 (.d (.bool false)) := by
            rw [← hx]
            exact (hl _ _ _ _ _ _ _ _ _ _ _ _ _ _ _ _ _ _ _ _ _).2 hs
          simp [htm]
      · have h3' : ¬ ((args.length : Int) = (args2.length : Int)) := by omega
        simp [Term.enc, h1, h2, h3, h3', Term.sameB]
    · simp [Term.enc, h1, h2, Term.sameB]
  · simp [Term.enc, h1, Term.sameB]

/-! ### Right terms -/
theorem tright_ok (t : Term) (h : t.ok) : pcl C34 47 [.agg t.enc] = some (.int .i64 t.rightE) := by
  have h1 := shaped_ok t h
  have h2 := depth_ok t h
  have h3 := size_ok t h
  refine pcl_body code47 ?_
  unfold Term.rightE
  generalize hs : t.shapeB = b at h1
  generalize hd : t.depthW = d at h2
  generalize hz : t.sizeW = z at h3
  obtain ⟨v, fn, args⟩ := t
  simp [Term.enc] at h1 h2 h3 ⊢
  cases b with
  | false => simp [pol34, h1]
  | true =>
    by_cases c1 : 60 < d
    · simp [pol34, h1, h2, c1]
    · by_cases c2 : 4000 < z
      · simp [pol34, h1, h2, h3, c1, c2]
      · simp [pol34, h1, h2, h3, c1, c2]
theorem rright_ok (t : Term) (h : t.ok) : pcl C34 25 [.agg t.enc] = some (.int .i64 t.rightE) := by
  have h1 := rshape_ok t h
  have h2 := rdepth_ok t h
  have h3 := rsize_ok t h
  refine pcl_body code25 ?_
  unfold Term.rightE
  generalize hs : t.shapeB = b at h1
  generalize hd : t.depthW = d at h2
  generalize hz : t.sizeW = z at h3
  obtain ⟨v, fn, args⟩ := t
  simp [Term.enc] at h1 h2 h3 ⊢
  cases b with
  | false => simp [pol34, h1]
  | true =>
    by_cases c1 : 60 < d
    · simp [pol34, h1, h2, c1]
    · by_cases c2 : 4000 < z
      · simp [pol34, h1, h2, h3, c1, c2]
      · simp [pol34, h1, h2, h3, c1, c2]
end Go.Proofs.Ytiafeijkifpfaaa.Am

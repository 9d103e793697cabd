/-
  Joined texts: AmRow, AmT, AmCq, AmCr, AmCs. No condition.
-/
import Derived.Test.YtiafeijkifpfaaaAmPan
import Derived.WalkKit
import Derived.ProofKit
import Derived.OpenShut
import Derived.ShutString
import Derived.ChangeOld
import Derived.Below
import Derived.JoinedCond
/-
  What the statements' arguments are read as: terms, binds. No condition.
-/
namespace Go.Proofs.Ytiafeijkifpfaaa.Am
open Go Go.Proofs
open Go.ChangeShapes Go.WideShapes Go.ChangeAt Go.RowKit
open Go.ChangeMaps (open_string shut_string)
set_option linter.unusedVariables false

theorem row_own : ownKnob Try.prog.godebug = none := by kernel_rfl
theorem row_laidOut : laidOutB Try.prog = true := by kernel_rfl
theorem encL_flat : ∀ (ts : List Am.Term), encL ts = ts.flatMap Am.Term.enc
  | [] => rfl
  | t :: r => by simp [encL, encL_flat r]
theorem okL_of : ∀ {ts : List Am.Term}, (∀ x ∈ ts, x.ok) → okL ts
  | [], _ => trivial
  | t :: r, h => ⟨h t (by simp), okL_of fun x hx => h x (by simp [hx])⟩
theorem sizeL_sum : ∀ (ts : List Am.Term), sizeL ts = (ts.map Am.Term.size).sum
  | [] => rfl
  | t :: r => by simp [sizeL, sizeL_sum r]
theorem reads_term : ∀ n, ReadsB Try.prog 32 n Am.Term.enc Am.Term.ok Am.Term.size
  | 0 => .zero
  | n + 1 => by
    have hs : ReadsB Try.prog 30 n (fun xs : List Am.Term => [D.sl (xs.flatMap Am.Term.enc) xs.length false none]) (fun xs => xs.length ≤ maxLen ∧ ∀ x ∈ xs, x.ok) (fun xs => (xs.map Am.Term.size).sum + 1) := by
      cases n with
      | zero => exact .zero
      | succ m => exact .slice Try.underlying30 (by rw [show Try.prog.cellsOf 32 = 3 from by kernel_rfl]; decide) ((reads_term (m + 1)).le (by omega))
    exact (ReadsB.struct3 (s0 := 1) (s1 := 1) (s2 := 1) Try.underlying32 (by kernel_rfl) ⟨by kernel_rfl, rfl⟩ ⟨by kernel_rfl, rfl⟩ ⟨by kernel_rfl, rfl⟩ (ReadsB.int Try.underlying3) (ReadsB.str Try.underlying9) hs).map (fun x => .mk x.1 x.2.1 x.2.2)
      (fun x => by simp [Am.Term.enc, encL_flat]) (fun x hx => ⟨by have := hx.2.2.1; simp [maxLen] at this; omega, okL_of hx.2.2.2⟩) (fun x => by simp only [Am.Term.size, sizeL_sum]; omega)
theorem sum_one {α : Type} (l : List α) : (l.map fun _ => 1).sum = l.length := by induction l <;> simp_all <;> omega
def okBz (bs : List Bd) : Prop := okB bs
theorem encB_flat (l : List Bd) : encB l = l.flatMap Bd.enc := rfl
theorem reads_bind (m : Nat) : ReadsB Try.prog 61 m Bd.enc (fun b => b.t.ok) (fun b => b.t.size) := by
  cases m with
  | zero => exact .zero
  | succ k =>
    exact (ReadsB.struct2 (s0 := 1) (s1 := 3) Try.underlying61 (by kernel_rfl) ⟨by kernel_rfl, rfl⟩ ⟨by kernel_rfl, rfl⟩ (ReadsB.int Try.underlying3) (reads_term k)).map (fun x => ⟨x.1, x.2⟩) (fun x => rfl) (fun x hx => hx.2) (fun x => by show x.2.size ≤ 1 + x.2.size + 1; omega)
theorem reads_binds (n : Nat) : ReadsB Try.prog 55 n (fun bs : List Bd => [D.sl (encB bs) bs.length false none]) okB (fun bs => (bs.map fun b => b.t.size).sum) := by
  cases n with
  | zero => exact .zero
  | succ m =>
    exact (ReadsB.slice Try.underlying55 (by rw [show Try.prog.cellsOf 61 = 4 from by kernel_rfl]; decide) (reads_bind m)).map (fun xs => xs) (fun xs => rfl) (fun xs hx => ⟨by have := hx.1; simp [maxLen] at this; omega, hx.2⟩) (fun xs => Nat.le_succ _)
theorem binds_le {bs : List Bd} {n : Nat} (h : (bs.map fun b => b.t.size).sum ≤ n) : ∀ x ∈ bs, x.t.size ≤ n := by
  induction bs with
  | nil => intro x hx; simp at hx
  | cons b r ih =>
    intro x hx
    simp only [List.map_cons, List.sum_cons] at h
    rcases List.mem_cons.1 hx with rfl | hx
    · omega
    · have := ih (by omega) x hx; omega
theorem binds_len {bs : List Bd} {n : Nat} (h : (bs.map fun b => b.t.size).sum ≤ n) : bs.length ≤ n := by
  have : bs.length ≤ (bs.map fun b => b.t.size).sum := by
    clear h
    induction bs with
    | nil => simp
    | cons b r ih => have := b.t.size_pos; simp only [List.map_cons, List.sum_cons, List.length_cons]; omega
  omega

/-- An argument is what was read. -/
theorem arg_slice {w : World} {a : Option Addr} {l c : Nat} {x : D} (h : CD w [x] (Value.slice a l c).cells.toList) : RepD (· < w.heap.size) w x (.slice a l c) := by
  have := h.rep 0 x rfl
  simpa [Value.cells] using this
theorem arg_agg {w : World} {cs : Array Value} {ds : List D} (h : CD w ds (Value.agg cs).cells.toList) : RepD (· < w.heap.size) w (.agg ds) (.agg cs) := by
  have hl := h.len
  simp only [Value.cells, Array.length_toList] at hl
  refine .agg ds cs hl (fun j hj => ?_) (fun j x hx => ?_)
  · have := h.one j (by simpa [Value.cells] using hj)
    simpa [Value.cells] using this
  · have := h.rep j x hx
    simpa [Value.cells] using this
end Go.Proofs.Ytiafeijkifpfaaa.Am

/-
  Terms: what the program's functions and the document's compute of them, as the abstract machine runs them. No condition.
-/
namespace Go.Proofs.Ytiafeijkifpfaaa.Am
open Go Go.Proofs
set_option maxHeartbeats 4000000
set_option linter.unusedSimpArgs false

/-- A term's object. -/
def termH (v : Int) (fn : ByteArray) (args : List Term) : Hp := upd (fun _ => none) (0, 0) (.cells [.d (.int .i64 v), .d (.str fn), .d (.sl (encL args) args.length false none)])

/-! ### Size, depth -/
theorem size_loop (ts : List Term) (hn : ts.length ≤ 9223372036854775807) (H : Hp) (hH : below 7 H = H) (hrec : ∀ x ∈ ts, pcl Cp 42 [.agg x.enc] = some (.int .i64 x.sizeW)) :
    ∃ e t, aloop Try.prog plc b42_0 ⟨[false, false, true, true, false, false, false, true, true, true, false, false, false, false, false, false, false, false, true], some 7⟩ ⟨[.junk, .junk, .d (.int .i64 0), .d (.int .i64 1), .junk, .junk, .junk, .d (.sl (encL ts) ts.length false none), .d (.int .i64 ts.length), .d (.int .i64 0), .junk, .junk, .junk, .junk, .junk, .junk, .junk, .junk, .junk], H, 7⟩ = some (e, t) ∧
      AtExit 0 [.junk, .junk, .d (.int .i64 0), .d (.int .i64 (sizeWL 1 ts)), .junk, .junk, .junk, .d (.sl (encL ts) ts.length false none), .d (.int .i64 ts.length), .d (.int .i64 ts.length), .junk, .junk, .junk, .junk, .junk, .junk, .junk, .junk, .junk] H e t := by
  refine loop_rule (b := 7) (tm := fun (s : Nat × Int) => [.junk, .junk, .d (.int .i64 0), .d (.int .i64 s.2), .junk, .junk, .junk, .d (.sl (encL ts) ts.length false none), .d (.int .i64 ts.length), .d (.int .i64 s.1), .junk, .junk, .junk, .junk, .junk, .junk, .junk, .junk, .junk]) (Hf := fun _ => H)
    (I := fun s => s.1 ≤ ts.length) (μ := fun s => ts.length - s.1) (res := fun s => sizeWL s.2 (ts.drop s.1)) (R := fun r => AtExit 0 [.junk, .junk, .d (.int .i64 0), .d (.int .i64 r), .junk, .junk, .junk, .d (.sl (encL ts) ts.length false none), .d (.int .i64 ts.length), .d (.int .i64 ts.length), .junk, .junk, .junk, .junk, .junk, .junk, .junk, .junk, .junk] H) (fun s nx hi => ?_) (0, 1) (Nat.zero_le _)
  obtain ⟨i, acc⟩ := s
  rcases Nat.lt_or_ge i ts.length with hl | hl
  · obtain ⟨v, fn, args, a⟩ := at_ok hn hl
    have hcall := hrec _ a.mem
    simp [Term.enc] at hcall
    conv => arg 9; arg 4; unfold b42_0
    simp [a.lti, a.sz, a.ltm, a.cells, a.le3, plc_raw, hcall, a.w, hH]
    exact .next (i + 1, IntKind.i64.wrap (acc + (Term.mk v fn args).sizeW)) (by omega) rfl rfl hl (by simp; omega) (by simp only [a.dr, sizeWL])
  · obtain rfl : i = ts.length := Nat.le_antisymm hi hl
    simp [b42_0, hH]
    exact .fin _ _ (by simp [sizeWL]; exact .mk)
theorem size_ok (t : Term) : t.ok → pcl Cp 42 [.agg t.enc] = some (.int .i64 t.sizeW) := by
  refine Term.ind (p := fun t => t.ok → pcl Cp 42 [.agg t.enc] = some (.int .i64 t.sizeW)) (fun v fn args ih h => ?_) t
  obtain ⟨e, t, hrun, rfl, nx, rfl⟩ := size_loop args h.1 (termH v fn args) (by simp [termH]) (fun x hx => ih x hx (okL_mem h.2 x hx))
  refine pcl_body code42 ?_
  simp [Term.enc, termH] at hrun ⊢
  simp [hrun, Term.sizeW]

theorem rsize_loop (v0 : Int) (fn0 : ByteArray) (ts : List Term) (hn : ts.length ≤ 9223372036854775807) (hrec : ∀ x ∈ ts, pcl Cp 45 [.agg x.enc] = some (.int .i64 x.sizeW)) :
    ∃ e t, aloop Try.prog plc b45_0 ⟨[false, true, true, true, true, false, false, false, false, false, false, false, false, false, false, false, false, false, false, false, true], some 4⟩ ⟨[.junk, .ptr (0, 0) 0 3, .d (.int .i64 0), .d (.int .i64 1), .d (.int .i64 0), .junk, .junk, .junk, .junk, .junk, .junk, .junk, .junk, .junk, .junk, .junk, .junk, .junk, .junk, .junk, .junk], termH v0 fn0 ts, 4⟩ = some (e, t) ∧
      AtExit 0 [.junk, .ptr (0, 0) 0 3, .d (.int .i64 0), .d (.int .i64 (sizeWL 1 ts)), .d (.int .i64 ts.length), .junk, .junk, .junk, .junk, .junk, .junk, .junk, .junk, .junk, .junk, .junk, .junk, .junk, .junk, .junk, .junk] (termH v0 fn0 ts) e t := by
  refine loop_rule (b := 4) (tm := fun (s : Nat × Int) => [.junk, .ptr (0, 0) 0 3, .d (.int .i64 0), .d (.int .i64 s.2), .d (.int .i64 s.1), .junk, .junk, .junk, .junk, .junk, .junk, .junk, .junk, .junk, .junk, .junk, .junk, .junk, .junk, .junk, .junk]) (Hf := fun _ => termH v0 fn0 ts)
    (I := fun s => s.1 ≤ ts.length) (μ := fun s => ts.length - s.1) (res := fun s => sizeWL s.2 (ts.drop s.1)) (R := fun r => AtExit 0 [.junk, .ptr (0, 0) 0 3, .d (.int .i64 0), .d (.int .i64 r), .d (.int .i64 ts.length), .junk, .junk, .junk, .junk, .junk, .junk, .junk, .junk, .junk, .junk, .junk, .junk, .junk, .junk, .junk, .junk] (termH v0 fn0 ts)) (fun s nx hi => ?_) (0, 1) (Nat.zero_le _)
  obtain ⟨i, acc⟩ := s
  rcases Nat.lt_or_ge i ts.length with hl | hl
  · obtain ⟨v, fn, args, a⟩ := at_ok hn hl
    have hcall := hrec _ a.mem
    simp [Term.enc] at hcall
    conv => arg 9; arg 4; unfold b45_0
    simp [a.lti, a.sz, a.ltm, a.cells, a.le3, plc_raw, hcall, a.w, termH]
    exact .next (i + 1, IntKind.i64.wrap (acc + (Term.mk v fn args).sizeW)) (by omega) rfl rfl hl (by simp; omega) (by simp only [a.dr, sizeWL])
  · obtain rfl : i = ts.length := Nat.le_antisymm hi hl
    simp [b45_0, termH]
    exact .fin _ _ (by simp [sizeWL, termH]; exact .mk)
theorem rsize_ok (t : Term) : t.ok → pcl Cp 45 [.agg t.enc] = some (.int .i64 t.sizeW) := by
  refine Term.ind (p := fun t => t.ok → pcl Cp 45 [.agg t.enc] = some (.int .i64 t.sizeW)) (fun v fn args ih h => ?_) t
  obtain ⟨e, t, hrun, rfl, nx, rfl⟩ := rsize_loop v fn args h.1 (fun x hx => ih x hx (okL_mem h.2 x hx))
  refine pcl_body code45 ?_
  simp [Term.enc, termH] at hrun ⊢
  simp [hrun, Term.sizeW]

theorem depth_loop (ts : List Term) (hn : ts.length ≤ 9223372036854775807) (H : Hp) (hH : below 7 H = H) (hrec : ∀ x ∈ ts, pcl Cp 44 [.agg x.enc] = some (.int .i64 x.depthW)) :
    ∃ e t, aloop Try.prog plc b44_0 ⟨[false, false, true, true, false, false, false, true, true, true, false, false, false, false, false, false, false, false, true, true], some 7⟩ ⟨[.junk, .junk, .d (.int .i64 0), .d (.int .i64 0), .junk, .junk, .junk, .d (.sl (encL ts) ts.length false none), .d (.int .i64 ts.length), .d (.int .i64 0), .junk, .junk, .junk, .junk, .junk, .junk, .junk, .junk, .junk, .junk], H, 7⟩ = some (e, t) ∧
      AtExit 0 [.junk, .junk, .d (.int .i64 0), .d (.int .i64 (depthWL 0 ts)), .junk, .junk, .junk, .d (.sl (encL ts) ts.length false none), .d (.int .i64 ts.length), .d (.int .i64 ts.length), .junk, .junk, .junk, .junk, .junk, .junk, .junk, .junk, .junk, .junk] H e t := by
  refine loop_rule (b := 7) (tm := fun (s : Nat × Int) => [.junk, .junk, .d (.int .i64 0), .d (.int .i64 s.2), .junk, .junk, .junk, .d (.sl (encL ts) ts.length false none), .d (.int .i64 ts.length), .d (.int .i64 s.1), .junk, .junk, .junk, .junk, .junk, .junk, .junk, .junk, .junk, .junk]) (Hf := fun _ => H)
    (I := fun s => s.1 ≤ ts.length) (μ := fun s => ts.length - s.1) (res := fun s => depthWL s.2 (ts.drop s.1)) (R := fun r => AtExit 0 [.junk, .junk, .d (.int .i64 0), .d (.int .i64 r), .junk, .junk, .junk, .d (.sl (encL ts) ts.length false none), .d (.int .i64 ts.length), .d (.int .i64 ts.length), .junk, .junk, .junk, .junk, .junk, .junk, .junk, .junk, .junk, .junk] H) (fun s nx hi => ?_) (0, 0) (Nat.zero_le _)
  obtain ⟨i, acc⟩ := s
  rcases Nat.lt_or_ge i ts.length with hl | hl
  · obtain ⟨v, fn, args, a⟩ := at_ok hn hl
    have hcall := hrec _ a.mem
    simp [Term.enc] at hcall
    conv => arg 9; arg 4; unfold b44_0
    simp [a.lti, a.sz, a.ltm, a.cells, a.le3, plc_raw, hcall, a.w, hH]
    exact .next (i + 1, if (Term.mk v fn args).depthW > acc then (Term.mk v fn args).depthW else acc) (by omega) rfl rfl hl (by simp; omega) (by simp only [a.dr, depthWL])
  · obtain rfl : i = ts.length := Nat.le_antisymm hi hl
    simp [b44_0, hH]
    exact .fin _ _ (by simp [depthWL]; exact .mk)
theorem depth_ok (t : Term) : t.ok → pcl Cp 44 [.agg t.enc] = some (.int .i64 t.depthW) := by
  refine Term.ind (p := fun t => t.ok → pcl Cp 44 [.agg t.enc] = some (.int .i64 t.depthW)) (fun v fn args ih h => ?_) t
  obtain ⟨e, t, hrun, rfl, nx, rfl⟩ := depth_loop args h.1 (termH v fn args) (by simp [termH]) (fun x hx => ih x hx (okL_mem h.2 x hx))
  refine pcl_body code44 ?_
  simp [Term.enc, termH] at hrun ⊢
  simp [hrun, Term.depthW]

theorem rdepth_loop (v0 : Int) (fn0 : ByteArray) (ts : List Term) (hn : ts.length ≤ 9223372036854775807) (hrec : ∀ x ∈ ts, pcl Cp 46 [.agg x.enc] = some (.int .i64 x.depthW)) :
    ∃ e t, aloop Try.prog plc b46_0 ⟨[false, true, true, true, true, false, false, false, false, false, false, false, false, false, false, false, false, false, false, false, true, true], some 4⟩ ⟨[.junk, .ptr (0, 0) 0 3, .d (.int .i64 0), .d (.int .i64 0), .d (.int .i64 0), .junk, .junk, .junk, .junk, .junk, .junk, .junk, .junk, .junk, .junk, .junk, .junk, .junk, .junk, .junk, .junk, .junk], termH v0 fn0 ts, 4⟩ = some (e, t) ∧
      AtExit 0 [.junk, .ptr (0, 0) 0 3, .d (.int .i64 0), .d (.int .i64 (depthWL 0 ts)), .d (.int .i64 ts.length), .junk, .junk, .junk, .junk, .junk, .junk, .junk, .junk, .junk, .junk, .junk, .junk, .junk, .junk, .junk, .junk, .junk] (termH v0 fn0 ts) e t := by
  refine loop_rule (b := 4) (tm := fun (s : Nat × Int) => [.junk, .ptr (0, 0) 0 3, .d (.int .i64 0), .d (.int .i64 s.2), .d (.int .i64 s.1), .junk, .junk, .junk, .junk, .junk, .junk, .junk, .junk, .junk, .junk, .junk, .junk, .junk, .junk, .junk, .junk, .junk]) (Hf := fun _ => termH v0 fn0 ts)
    (I := fun s => s.1 ≤ ts.length) (μ := fun s => ts.length - s.1) (res := fun s => depthWL s.2 (ts.drop s.1)) (R := fun r => AtExit 0 [.junk, .ptr (0, 0) 0 3, .d (.int .i64 0), .d (.int .i64 r), .d (.int .i64 ts.length), .junk, .junk, .junk, .junk, .junk, .junk, .junk, .junk, .junk, .junk, .junk, .junk, .junk, .junk, .junk, .junk, .junk] (termH v0 fn0 ts)) (fun s nx hi => ?_) (0, 0) (Nat.zero_le _)
  obtain ⟨i, acc⟩ := s
  rcases Nat.lt_or_ge i ts.length with hl | hl
  · obtain ⟨v, fn, args, a⟩ := at_ok hn hl
    have hcall := hrec _ a.mem
    simp [Term.enc] at hcall
    conv => arg 9; arg 4; unfold b46_0
    simp [a.lti, a.sz, a.ltm, a.cells, a.le3, plc_raw, hcall, a.w, termH]
    exact .next (i + 1, if (Term.mk v fn args).depthW > acc then (Term.mk v fn args).depthW else acc) (by omega) rfl rfl hl (by simp; omega) (by simp only [a.dr, depthWL])
  · obtain rfl : i = ts.length := Nat.le_antisymm hi hl
    simp [b46_0, termH]
    exact .fin _ _ (by simp [depthWL, termH]; exact .mk)
theorem rdepth_ok (t : Term) : t.ok → pcl Cp 46 [.agg t.enc] = some (.int .i64 t.depthW) := by
  refine Term.ind (p := fun t => t.ok → pcl Cp 46 [.agg t.enc] = some (.int .i64 t.depthW)) (fun v fn args ih h => ?_) t
  obtain ⟨e, t, hrun, rfl, nx, rfl⟩ := rdepth_loop v fn args h.1 (fun x hx => ih x hx (okL_mem h.2 x hx))
  refine pcl_body code46 ?_
  simp [Term.enc, termH] at hrun ⊢
  simp [hrun, Term.depthW]

/-! ### Shape -/
theorem right_ok (v : Int) (fn : ByteArray) (cs : List D) (n : Nat) : pcl Cp 94 [.agg [.int .i64 v, .str fn, .sl cs n false none]] = some (.bool (rightB v fn n)) := by
  refine pcl_body code94 ?_
  simp
  repeat' ((try simp only [condP_ite]); split <;> (try simp only [holdE]) <;> (try simp [*, plc_raw]))
  all_goals (simp_all [rightB, noName])
  all_goals (first | omega | grind)

/-- IndexFunc over terms. -/
theorem index_loop (g : FuncId) (p : Term → Bool) (ts : List Term) (hn : ts.length ≤ 9223372036854775807) (hg : plc.raw g = false ∧ plc.weak g = false ∧ g ≠ 1000000000) (hrec : ∀ x ∈ ts, pcl Cp g [.agg x.enc] = some (.bool (p x))) :
    ∃ e t, aloop Try.prog plc b101_0 ⟨[true, true, false, false, true, false, false, true, true, false, false, false, false, false, false, false, false, false, false], some 4⟩ ⟨[.d (.sl (encL ts) ts.length false none), .d (.fn g []), .junk, .junk, .d (.int .i64 0), .junk, .junk, .d (.int .i64 ts.length), .d (.int .i64 0), .junk, .junk, .junk, .junk, .junk, .junk, .junk, .junk, .junk, .junk], fun _ => none, 4⟩ = some (e, t) ∧
      (match fromI p ts 0 with | some k => AtRet 4 (.d (.int .i64 k)) e t | none => AtExit 0 [.d (.sl (encL ts) ts.length false none), .d (.fn g []), .junk, .junk, .d (.int .i64 0), .junk, .junk, .d (.int .i64 ts.length), .d (.int .i64 ts.length), .junk, .junk, .junk, .junk, .junk, .junk, .junk, .junk, .junk, .junk] (fun _ => none) e t) := by
  refine loop_rule (b := 4) (tm := fun (i : Nat) => [.d (.sl (encL ts) ts.length false none), .d (.fn g []), .junk, .junk, .d (.int .i64 0), .junk, .junk, .d (.int .i64 ts.length), .d (.int .i64 i), .junk, .junk, .junk, .junk, .junk, .junk, .junk, .junk, .junk, .junk]) (Hf := fun _ => fun _ => none)
    (I := fun i => i ≤ ts.length) (μ := fun i => ts.length - i) (res := fun i => fromI p ts i) (R := fun o e t => match o with | some k => AtRet 4 (.d (.int .i64 k)) e t | none => AtExit 0 [.d (.sl (encL ts) ts.length false none), .d (.fn g []), .junk, .junk, .d (.int .i64 0), .junk, .junk, .d (.int .i64 ts.length), .d (.int .i64 ts.length), .junk, .junk, .junk, .junk, .junk, .junk, .junk, .junk, .junk, .junk] (fun _ => none) e t)
    (fun i nx hi => ?_) 0 (Nat.zero_le _)
  rcases Nat.lt_or_ge i ts.length with hl | hl
  · obtain ⟨v, fn, args, a⟩ := at_ok hn hl
    have hcall := hrec _ a.mem
    have hget : ts[i] = .mk v fn args := a.get
    simp [Term.enc] at hcall
    conv => arg 9; arg 4; unfold b101_0
    cases hp : p (.mk v fn args) <;> rw [hp] at hcall <;> simp [a.lti, a.sz, a.ltm, a.cells, a.le3, hg.1, hg.2.1, hg.2.2, -plc_weak, hcall, a.w]
    · exact .next (i + 1) (by omega) rfl rfl hl (by omega) (by rw [fromI_step hl, hget, hp]; rfl)
    · exact .fin _ _ (by rw [fromI_step hl, hget, hp]; exact ⟨rfl, rfl⟩)
  · obtain rfl : i = ts.length := Nat.le_antisymm hi hl
    simp [b101_0]
    exact .fin _ _ (by rw [fromI_end]; exact .mk)
theorem index_ok {g : FuncId} {p : Term → Bool} {ts : List Term} (hn : ts.length ≤ 9223372036854775807) (hg : plc.raw g = false ∧ plc.weak g = false ∧ g ≠ 1000000000) (hrec : ∀ x ∈ ts, pcl Cp g [.agg x.enc] = some (.bool (p x))) :
    pcl Cp 101 [.sl (encL ts) ts.length false none, .fn g []] = some (.int .i64 (match ts.findIdx? p with | some k => k | none => -1)) := by
  obtain ⟨e, t, h1, h2⟩ := index_loop g p ts hn hg hrec
  refine pcl_body code101 ?_
  simp [fromI_zero] at h1 h2
  simp [h1]
  revert h2
  cases ts.findIdx? p with
  | some k => rintro ⟨rfl, h⟩; simp [h]
  | none => rintro ⟨rfl, nx, rfl⟩; simp
theorem any_findIdx {α : Type} (p : α → Bool) (l : List α) : l.any p = (l.findIdx? p).isSome := by
  induction l with
  | nil => rfl
  | cons x l ih => rw [List.any_cons, List.findIdx?_cons, ih]; cases p x <;> simp
theorem contains_ok {g : FuncId} {p : Term → Bool} {ts : List Term} (hn : ts.length ≤ 9223372036854775807) (hg : plc.raw g = false ∧ plc.weak g = false ∧ g ≠ 1000000000) (hrec : ∀ x ∈ ts, pcl Cp g [.agg x.enc] = some (.bool (p x))) :
    pcl Cp 95 [.sl (encL ts) ts.length false none, .fn g []] = some (.bool (ts.any p)) := by
  refine pcl_body code95 ?_
  have h := index_ok hn hg hrec
  rw [any_findIdx]
  cases hq : ts.findIdx? p <;> rw [hq] at h <;> simp [plc_raw, h]
theorem shapeBL_all : ∀ (ts : List Term), shapeBL ts = !ts.any (fun x => !x.shapeB)
  | [] => rfl
  | t :: r => by simp [shapeBL, shapeBL_all r]
theorem shaped_ok (t : Term) : t.ok → pcl Cp 76 [.agg t.enc] = some (.bool t.shapeB) := by
  refine Term.ind (p := fun t => t.ok → pcl Cp 76 [.agg t.enc] = some (.bool t.shapeB)) (fun v fn args ih h => ?_) t
  have hc := contains_ok (g := 96) (p := fun x => !x.shapeB) h.1 ⟨rfl, rfl, by decide⟩ (fun x hx => by
    have := ih x hx (okL_mem h.2 x hx)
    refine pcl_body code96 ?_
    obtain ⟨v, fn, a⟩ := x
    simp [Term.enc] at this
    simp [Term.enc, plc_raw, this])
  have hr := right_ok v fn (encL args) args.length
  refine pcl_body code76 ?_
  cases hb : rightB v fn args.length <;> rw [hb] at hr <;> simp [Term.enc, plc_raw, hr, hc, Term.shapeB, hb, shapeBL_all]

theorem rshape_loop (v0 : Int) (fn0 : ByteArray) (ts : List Term) (hn : ts.length ≤ 9223372036854775807) (hrec : ∀ x ∈ ts, pcl Cp 56 [.agg x.enc] = some (.bool x.shapeB)) :
    ∃ e t, aloop Try.prog plc b56_0 ⟨[false, true, true, true, false, false, false, false, false, false, false, false, false, false, false, false, false, false, false, false, false, false, false, false, false, false, false, false, false, false, false, false, false, false, false, false, false, false, false, false, false, false, false, false, false, false, false, false, false, false], some 21⟩ ⟨[.junk, .ptr (0, 0) 0 3, .d (.bool false), .d (.int .i64 0), .junk, .junk, .junk, .junk, .junk, .junk, .junk, .junk, .junk, .junk, .junk, .junk, .junk, .junk, .junk, .junk, .junk, .junk, .junk, .junk, .junk, .junk, .junk, .junk, .junk, .junk, .junk, .junk, .junk, .junk, .junk, .junk, .junk, .junk, .junk, .junk, .junk, .junk, .junk, .junk, .junk, .junk, .junk, .junk, .junk, .junk], termH v0 fn0 ts, 21⟩ = some (e, t) ∧
      (if shapeBL ts then AtExit 0 [.junk, .ptr (0, 0) 0 3, .d (.bool false), .d (.int .i64 ts.length), .junk, .junk, .junk, .junk, .junk, .junk, .junk, .junk, .junk, .junk, .junk, .junk, .junk, .junk, .junk, .junk, .junk, .junk, .junk, .junk, .junk, .junk, .junk, .junk, .junk, .junk, .junk, .junk, .junk, .junk, .junk, .junk, .junk, .junk, .junk, .junk, .junk, .junk, .junk, .junk, .junk, .junk, .junk, .junk, .junk, .junk] (termH v0 fn0 ts) e t else AtRet 2 (.d (.bool false)) e t) := by
  refine loop_rule (b := 21) (tm := fun (i : Nat) => [.junk, .ptr (0, 0) 0 3, .d (.bool false), .d (.int .i64 i), .junk, .junk, .junk, .junk, .junk, .junk, .junk, .junk, .junk, .junk, .junk, .junk, .junk, .junk, .junk, .junk, .junk, .junk, .junk, .junk, .junk, .junk, .junk, .junk, .junk, .junk, .junk, .junk, .junk, .junk, .junk, .junk, .junk, .junk, .junk, .junk, .junk, .junk, .junk, .junk, .junk, .junk, .junk, .junk, .junk, .junk]) (Hf := fun _ => termH v0 fn0 ts)
    (I := fun i => i ≤ ts.length) (μ := fun i => ts.length - i) (res := fun i => shapeBL (ts.drop i)) (R := fun b e t => if b then AtExit 0 [.junk, .ptr (0, 0) 0 3, .d (.bool false), .d (.int .i64 ts.length), .junk, .junk, .junk, .junk, .junk, .junk, .junk, .junk, .junk, .junk, .junk, .junk, .junk, .junk, .junk, .junk, .junk, .junk, .junk, .junk, .junk, .junk, .junk, .junk, .junk, .junk, .junk, .junk, .junk, .junk, .junk, .junk, .junk, .junk, .junk, .junk, .junk, .junk, .junk, .junk, .junk, .junk, .junk, .junk, .junk, .junk] (termH v0 fn0 ts) e t else AtRet 2 (.d (.bool false)) e t)
    (fun i nx hi => ?_) 0 (Nat.zero_le _)
  rcases Nat.lt_or_ge i ts.length with hl | hl
  · obtain ⟨v, fn, args, a⟩ := at_ok hn hl
    have hcall := hrec _ a.mem
    simp [Term.enc] at hcall
    conv => arg 9; arg 4; unfold b56_0
    cases hp : (Term.mk v fn args).shapeB <;> rw [hp] at hcall <;> simp [a.lti, a.sz, a.ltm, a.cells, a.le3, plc_raw, hcall, a.w, termH]
    · exact .fin _ _ (by simp only [a.dr, shapeBL, hp]; exact ⟨rfl, rfl⟩)
    · exact .next (i + 1) (by omega) rfl rfl hl (by omega) (by simp [a.dr, shapeBL, hp])
  · obtain rfl : i = ts.length := Nat.le_antisymm hi hl
    simp [b56_0, termH]
    exact .fin _ _ (by simp [shapeBL, termH]; exact .mk)
theorem rshape_ok (t : Term) : t.ok → pcl Cp 56 [.agg t.enc] = some (.bool t.shapeB) := by
  refine Term.ind (p := fun t => t.ok → pcl Cp 56 [.agg t.enc] = some (.bool t.shapeB)) (fun v fn args ih h => ?_) t
  refine pcl_body code56 ?_
  obtain ⟨e, t, hrun, hR⟩ := rshape_loop v fn args h.1 (fun x hx => ih x hx (okL_mem h.2 x hx))
  simp [Term.enc, termH] at hrun ⊢
  have hz : args.length = 0 → args = [] := List.eq_nil_of_length_eq_zero
  cases hs : shapeBL args <;> simp only [hs, if_true, Bool.false_eq_true, if_false] at hR
  · obtain ⟨rfl, hv⟩ := hR
    have hne : args ≠ [] := by rintro rfl; simp [shapeBL] at hs
    repeat' ((try simp only [condP_ite]); split <;> (try simp only [holdE]) <;> (try simp [*, plc_raw]))
    all_goals (simp_all [Term.shapeB, rightB, noName, shapeBL])
    all_goals (clear hrun ih; first | omega | grind)
  · obtain ⟨rfl, nx, rfl⟩ := hR
    repeat' ((try simp only [condP_ite]); split <;> (try simp only [holdE]) <;> (try simp [*, plc_raw]))
    all_goals (simp_all [Term.shapeB, rightB, noName, shapeBL])
    all_goals (clear hrun ih; first | omega | grind)

/-! ### Sameness -/
theorem equal_loop (g : FuncId) (p : Term → Term → Bool) (hg : plc.raw g = false ∧ plc.weak g = false ∧ g ≠ 1000000000) (ts us : List Term) (hn : ts.length ≤ 9223372036854775807) (hlen : us.length = ts.length) (hrec : ∀ x ∈ ts, ∀ y ∈ us, pcl Cp g [.agg x.enc, .agg y.enc] = some (.bool (p x y))) :
    ∃ e t, aloop Try.prog plc b55_0 ⟨[false, true, true, false, false, false, true, false, false, false, false, false, false, false, false, true, true, true, false, false, false, false, false, false, false, false, false, false, false, false, false, false], some 9⟩ ⟨[.junk, .d (.sl (encL us) us.length false none), .d (.fn g []), .junk, .junk, .junk, .d (.bool false), .junk, .junk, .junk, .junk, .junk, .junk, .junk, .junk, .d (.sl (encL ts) us.length false none), .d (.int .i64 us.length), .d (.int .i64 0), .junk, .junk, .junk, .junk, .junk, .junk, .junk, .junk, .junk, .junk, .junk, .junk, .junk, .junk], fun _ => none, 9⟩ = some (e, t) ∧
      (if all2 p ts us then AtExit 0 [.junk, .d (.sl (encL us) us.length false none), .d (.fn g []), .junk, .junk, .junk, .d (.bool false), .junk, .junk, .junk, .junk, .junk, .junk, .junk, .junk, .d (.sl (encL ts) us.length false none), .d (.int .i64 us.length), .d (.int .i64 ts.length), .junk, .junk, .junk, .junk, .junk, .junk, .junk, .junk, .junk, .junk, .junk, .junk, .junk, .junk] (fun _ => none) e t else AtRet 6 (.d (.bool false)) e t) := by
  refine loop_rule (b := 9) (tm := fun (i : Nat) => [.junk, .d (.sl (encL us) us.length false none), .d (.fn g []), .junk, .junk, .junk, .d (.bool false), .junk, .junk, .junk, .junk, .junk, .junk, .junk, .junk, .d (.sl (encL ts) us.length false none), .d (.int .i64 us.length), .d (.int .i64 i), .junk, .junk, .junk, .junk, .junk, .junk, .junk, .junk, .junk, .junk, .junk, .junk, .junk, .junk]) (Hf := fun _ => fun _ => none)
    (I := fun i => i ≤ ts.length) (μ := fun i => ts.length - i) (res := fun i => all2 p (ts.drop i) (us.drop i)) (R := fun b e t => if b then AtExit 0 [.junk, .d (.sl (encL us) us.length false none), .d (.fn g []), .junk, .junk, .junk, .d (.bool false), .junk, .junk, .junk, .junk, .junk, .junk, .junk, .junk, .d (.sl (encL ts) us.length false none), .d (.int .i64 us.length), .d (.int .i64 ts.length), .junk, .junk, .junk, .junk, .junk, .junk, .junk, .junk, .junk, .junk, .junk, .junk, .junk, .junk] (fun _ => none) e t else AtRet 6 (.d (.bool false)) e t)
    (fun i nx hi => ?_) 0 (Nat.zero_le _)
  rcases Nat.lt_or_ge i ts.length with hl | hl
  · obtain ⟨v, fn, args, a⟩ := at_ok hn hl
    obtain ⟨v2, fn2, args2, b⟩ := at_ok (ts := us) (by omega) (i := i) (by omega)
    have hcall := hrec _ a.mem _ b.mem
    simp [Term.enc] at hcall
    have asz := a.sz
    have altm := a.ltm
    have ale3 := a.le3
    have alti := a.lti
    rw [← hlen] at asz altm ale3 alti
    conv => arg 9; arg 4; unfold b55_0
    cases hp : p (.mk v fn args) (.mk v2 fn2 args2) <;> rw [hp] at hcall <;> simp [alti, asz, altm, a.cells, ale3, b.cells, b.sz, b.ltm, b.le3, hg.1, hg.2.1, hg.2.2, -plc_weak, hcall, a.w]
    · exact .fin _ _ (by simp only [a.dr, b.dr, all2, hp]; exact ⟨rfl, rfl⟩)
    · exact .next (i + 1) (by omega) rfl rfl hl (by omega) (by simp [a.dr, b.dr, all2, hp])
  · obtain rfl : i = ts.length := Nat.le_antisymm hi hl
    simp [b55_0, hlen]
    exact .fin _ _ (by simp [all2, hlen]; exact .mk)
theorem equal_ok {g : FuncId} {p : Term → Term → Bool} (hg : plc.raw g = false ∧ plc.weak g = false ∧ g ≠ 1000000000) {ts us : List Term} (hn : ts.length ≤ 9223372036854775807) (hrec : ∀ x ∈ ts, ∀ y ∈ us, pcl Cp g [.agg x.enc, .agg y.enc] = some (.bool (p x y))) :
    pcl Cp 55 [.sl (encL ts) ts.length false none, .sl (encL us) us.length false none, .fn g []] = some (.bool (decide (ts.length = us.length) && all2 p ts us)) := by
  refine pcl_body code55 ?_
  by_cases hl : ts.length = us.length
  · obtain ⟨e, t, hrun, hR⟩ := equal_loop g p hg ts us hn hl.symm hrec
    try simp at hrun
    simp [hl, hrun]
    cases hs : all2 p ts us <;> simp only [hs, if_true, Bool.false_eq_true, if_false] at hR
    · obtain ⟨rfl, hv⟩ := hR; simp [hv]
    · obtain ⟨rfl, nx, rfl⟩ := hR; simp
  · have : ¬ ((ts.length : Int) = (us.length : Int)) := by omega
    simp [hl, this]
theorem same_ok (t : Term) : t.ok → ∀ u : Term, u.ok → pcl Cp 24 [.agg t.enc, .agg u.enc] = some (.bool (t.sameB u)) := by
  refine Term.ind (p := fun t => t.ok → ∀ u : Term, u.ok → pcl Cp 24 [.agg t.enc, .agg u.enc] = some (.bool (t.sameB u))) (fun v fn args ih h => ?_) t
  intro u hu
  obtain ⟨v2, fn2, args2⟩ := u
  have he := equal_ok (g := 24) (p := Term.sameB) ⟨rfl, rfl, by decide⟩ (ts := args) (us := args2) h.1 (fun x hx y hy => ih x hx (okL_mem h.2 x hx) y (okL_mem hu.2 y hy))
  refine pcl_body code24 ?_
  simp [Term.enc, plc_raw, he]
  repeat' ((try simp only [condP_ite]); split <;> (try simp only [holdE]) <;> (try simp [*, plc_raw]))
  all_goals (simp_all [Term.sameB, sameBL_all2])

/-- Two terms' objects. -/
def termH2 (v : Int) (fn : ByteArray) (args : List Term) (v2 : Int) (fn2 : ByteArray) (args2 : List Term) : Hp :=
  upd (upd (fun _ => none) (0, 0) (.cells [.d (.int .i64 v), .d (.str fn), .d (.sl (encL args) args.length false none)])) (1, 0) (.cells [.d (.int .i64 v2), .d (.str fn2), .d (.sl (encL args2) args2.length false none)])
theorem rsame_loop (v0 : Int) (fn0 : ByteArray) (v00 : Int) (fn00 : ByteArray) (ts us : List Term) (hn : ts.length ≤ 9223372036854775807) (hlen : us.length = ts.length) (hrec : ∀ x ∈ ts, ∀ y ∈ us, pcl Cp 22 [.agg x.enc, .agg y.enc] = some (.bool (x.sameB y))) :
    ∃ e t, aloop Try.prog plc b22_0 ⟨[false, false, true, true, true, true, false, false, false, false, false, false, false, false, false, false, false, false, false, false, false, false, false, false, false, false, false, false, false, false, false, false, false, false, false, false, false, false, false, false, false, false, false, false, false, false], some 25⟩ ⟨[.junk, .junk, .ptr (0, 0) 0 3, .ptr (1, 0) 0 3, .d (.bool false), .d (.int .i64 0), .junk, .junk, .junk, .junk, .junk, .junk, .junk, .junk, .junk, .junk, .junk, .junk, .junk, .junk, .junk, .junk, .junk, .junk, .junk, .junk, .junk, .junk, .junk, .junk, .junk, .junk, .junk, .junk, .junk, .junk, .junk, .junk, .junk, .junk, .junk, .junk, .junk, .junk, .junk, .junk], termH2 v0 fn0 ts v00 fn00 us, 25⟩ = some (e, t) ∧
      (if sameBL ts us then AtExit 0 [.junk, .junk, .ptr (0, 0) 0 3, .ptr (1, 0) 0 3, .d (.bool false), .d (.int .i64 ts.length), .junk, .junk, .junk, .junk, .junk, .junk, .junk, .junk, .junk, .junk, .junk, .junk, .junk, .junk, .junk, .junk, .junk, .junk, .junk, .junk, .junk, .junk, .junk, .junk, .junk, .junk, .junk, .junk, .junk, .junk, .junk, .junk, .junk, .junk, .junk, .junk, .junk, .junk, .junk, .junk] (termH2 v0 fn0 ts v00 fn00 us) e t else AtRet 4 (.d (.bool false)) e t) := by
  refine loop_rule (b := 25) (tm := fun (i : Nat) => [.junk, .junk, .ptr (0, 0) 0 3, .ptr (1, 0) 0 3, .d (.bool false), .d (.int .i64 i), .junk, .junk, .junk, .junk, .junk, .junk, .junk, .junk, .junk, .junk, .junk, .junk, .junk, .junk, .junk, .junk, .junk, .junk, .junk, .junk, .junk, .junk, .junk, .junk, .junk, .junk, .junk, .junk, .junk, .junk, .junk, .junk, .junk, .junk, .junk, .junk, .junk, .junk, .junk, .junk]) (Hf := fun _ => termH2 v0 fn0 ts v00 fn00 us)
    (I := fun i => i ≤ ts.length) (μ := fun i => ts.length - i) (res := fun i => sameBL (ts.drop i) (us.drop i)) (R := fun b e t => if b then AtExit 0 [.junk, .junk, .ptr (0, 0) 0 3, .ptr (1, 0) 0 3, .d (.bool false), .d (.int .i64 ts.length), .junk, .junk, .junk, .junk, .junk, .junk, .junk, .junk, .junk, .junk, .junk, .junk, .junk, .junk, .junk, .junk, .junk, .junk, .junk, .junk, .junk, .junk, .junk, .junk, .junk, .junk, .junk, .junk, .junk, .junk, .junk, .junk, .junk, .junk, .junk, .junk, .junk, .junk, .junk, .junk] (termH2 v0 fn0 ts v00 fn00 us) e t else AtRet 4 (.d (.bool false)) e t)
    (fun i nx hi => ?_) 0 (Nat.zero_le _)
  rcases Nat.lt_or_ge i ts.length with hl | hl
  · obtain ⟨v, fn, args, a⟩ := at_ok hn hl
    obtain ⟨v2, fn2, args2, b⟩ := at_ok (ts := us) (by omega) (i := i) (by omega)
    have hcall := hrec _ a.mem _ b.mem
    simp [Term.enc] at hcall
    have bsz := b.sz
    have bltm := b.ltm
    have ble3 := b.le3
    rw [hlen] at bsz bltm ble3
    conv => arg 9; arg 4; unfold b22_0
    cases hp : (Term.mk v fn args).sameB (.mk v2 fn2 args2) <;> rw [hp] at hcall <;> simp [a.lti, a.sz, a.ltm, a.cells, a.le3, b.cells, bsz, bltm, ble3, hlen, plc_raw, hcall, a.w, termH2]
    · exact .fin _ _ (by simp only [a.dr, b.dr, sameBL, hp]; exact ⟨rfl, rfl⟩)
    · exact .next (i + 1) (by simp) (by simp) (by simp [termH2, hlen]) hl (by omega) (by simp [a.dr, b.dr, sameBL, hp])
  · obtain rfl : i = ts.length := Nat.le_antisymm hi hl
    simp [b22_0, termH2, hlen]
    exact .fin _ _ (by simp [sameBL, termH2, hlen]; exact .mk)
theorem rsame_ok (t : Term) : t.ok → ∀ u : Term, u.ok → pcl Cp 22 [.agg t.enc, .agg u.enc] = some (.bool (t.sameB u)) := by
  refine Term.ind (p := fun t => t.ok → ∀ u : Term, u.ok → pcl Cp 22 [.agg t.enc, .agg u.enc] = some (.bool (t.sameB u))) (fun v fn args ih h => ?_) t
  intro u hu
  obtain ⟨v2, fn2, args2⟩ := u
  refine pcl_body code22 ?_
  by_cases h3 : args.length = args2.length
  · obtain ⟨e, t, hrun, hR⟩ := rsame_loop v fn v2 fn2 args args2 h.1 h3.symm (fun x hx y hy => ih x hx (okL_mem h.2 x hx) y (okL_mem hu.2 y hy))
    simp [Term.enc, termH2, h3] at hrun ⊢
    cases hs : sameBL args args2 <;> simp only [hs, if_true, Bool.false_eq_true, if_false] at hR
    · obtain ⟨rfl, hv⟩ := hR
      repeat' ((try simp only [condP_ite]); split <;> (try simp only [holdE]) <;> (try simp [*, plc_raw]))
      all_goals (simp_all [Term.sameB])
    · obtain ⟨rfl, nx, rfl⟩ := hR
      repeat' ((try simp only [condP_ite]); split <;> (try simp only [holdE]) <;> (try simp [*, plc_raw]))
      all_goals (simp_all [Term.sameB])
  · have h3' : ¬ ((args.length : Int) = (args2.length : Int)) := by omega
    simp [Term.enc, h3, h3']
    repeat' ((try simp only [condP_ite]); split <;> (try simp only [holdE]) <;> (try simp [*, plc_raw]))
    all_goals (simp_all [Term.sameB])

/-! ### Right terms -/
theorem tright_ok (t : Term) (h : t.ok) : pcl Cp 47 [.agg t.enc] = some (.int .i64 t.rightE) := by
  have h1 := shaped_ok t h
  have h2 := depth_ok t h
  have h3 := size_ok t h
  refine pcl_body code47 ?_
  unfold Term.rightE
  generalize hs : t.shapeB = b at h1
  generalize hd : t.depthW = d at h2
  generalize hz : t.sizeW = z at h3
  obtain ⟨v, fn, args⟩ := t
  simp [Term.enc] at h1 h2 h3 ⊢
  simp [plc_raw, h1, h2, h3]
  repeat' ((try simp only [condP_ite]); split <;> (try simp only [holdE]) <;> (try simp [*, plc_raw]))
  all_goals (simp_all)
theorem rright_ok (t : Term) (h : t.ok) : pcl Cp 25 [.agg t.enc] = some (.int .i64 t.rightE) := by
  have h1 := rshape_ok t h
  have h2 := rdepth_ok t h
  have h3 := rsize_ok t h
  refine pcl_body code25 ?_
  unfold Term.rightE
  generalize hs : t.shapeB = b at h1
  generalize hd : t.depthW = d at h2
  generalize hz : t.sizeW = z at h3
  obtain ⟨v, fn, args⟩ := t
  simp [Term.enc] at h1 h2 h3 ⊢
  simp [plc_raw, h1, h2, h3]
  repeat' ((try simp only [condP_ite]); split <;> (try simp only [holdE]) <;> (try simp [*, plc_raw]))
  all_goals (simp_all)
end Go.Proofs.Ytiafeijkifpfaaa.Am

/-
  The order of terms as mathematics. No condition.
-/
namespace Go.Proofs.Ytiafeijkifpfaaa.Am
open Go Go.Proofs
set_option linter.unusedSimpArgs false
set_option linter.unusedVariables false
def cmpI (a b : Int) : Int := if a < b then -1 else if b < a then 1 else 0
def cmpS (a b : List UInt8) : Int := if Op.bytesLess a b then -1 else if a = b then 0 else 1
mutual
def Term.cmp : Term → Term → Int
  | .mk v fn args, .mk v2 fn2 args2 =>
    if fn.toList = [] ∧ fn2.toList = [] then cmpI v v2
    else if fn.toList = fn2.toList then (if args.length = args2.length then cmpL args args2 else cmpI args.length args2.length)
    else cmpS fn.toList fn2.toList
def cmpL : List Term → List Term → Int
  | t :: r, u :: s => if t.cmp u = 0 then cmpL r s else t.cmp u
  | _, _ => 0
end
theorem less_irrefl : ∀ a : List UInt8, Op.bytesLess a a = false
  | [] => rfl
  | x :: r => by simp [Op.bytesLess, less_irrefl r]
theorem less_trans : ∀ a b c : List UInt8, Op.bytesLess a b = true → Op.bytesLess b c = true → Op.bytesLess a c = true
  | _, [], _, h, _ => by simp [Op.bytesLess] at h
  | _, _ :: _, [], _, h => by simp [Op.bytesLess] at h
  | [], _ :: _, _ :: _, _, _ => by simp [Op.bytesLess]
  | x :: a, y :: b, z :: c, h, k => by
    simp only [Op.bytesLess, Bool.or_eq_true, Bool.and_eq_true, decide_eq_true_eq, beq_iff_eq] at h k ⊢
    rcases h with h | ⟨rfl, h⟩
    · rcases k with k | ⟨rfl, k⟩
      · exact .inl (UInt8.lt_trans h k)
      · exact .inl h
    · rcases k with k | ⟨rfl, k⟩
      · exact .inl k
      · exact .inr ⟨rfl, less_trans a b c h k⟩
theorem less_total : ∀ a b : List UInt8, Op.bytesLess a b = false → a ≠ b → Op.bytesLess b a = true
  | [], [], _, h => absurd rfl h
  | _ :: _, [], _, _ => by simp [Op.bytesLess]
  | [], _ :: _, h, _ => by simp [Op.bytesLess] at h
  | x :: a, y :: b, h, k => by
    simp only [Op.bytesLess, Bool.or_eq_false_iff, Bool.and_eq_false_iff, decide_eq_false_iff_not, beq_eq_false_iff_ne] at h
    simp only [Op.bytesLess, Bool.or_eq_true, Bool.and_eq_true, decide_eq_true_eq, beq_iff_eq]
    by_cases hxy : x = y
    · subst hxy
      exact .inr ⟨rfl, less_total a b (h.2.resolve_left fun q => q rfl) fun e => k (by rw [e])⟩
    · have h1 := h.1
      rw [UInt8.not_lt] at h1
      exact .inl (UInt8.lt_of_le_of_ne h1 (Ne.symm hxy))
theorem less_asymm {a b : List UInt8} (h : Op.bytesLess a b = true) : Op.bytesLess b a = false := by
  cases k : Op.bytesLess b a with
  | false => rfl
  | true => have := less_trans a b a h k; rw [less_irrefl] at this; cases this
theorem cmpS_neg (a b : List UInt8) : cmpS a b = - cmpS b a := by
  unfold cmpS
  by_cases e : a = b
  · subst e; simp [less_irrefl]
  · cases h : Op.bytesLess a b with
    | true => simp [less_asymm h, Ne.symm e]
    | false => simp [less_total a b h e, e]
theorem cmpS_zero {a b : List UInt8} : cmpS a b = 0 ↔ a = b := by
  unfold cmpS
  by_cases e : a = b
  · subst e; simp [less_irrefl]
  · simp only [e, if_false, iff_false]
    split <;> simp
theorem cmpS_neg1 {a b : List UInt8} (h : a ≠ b) : cmpS a b ≤ 0 ↔ Op.bytesLess a b = true := by
  unfold cmpS
  rw [if_neg h]
  split <;> simp_all
theorem cmpI_neg (a b : Int) : cmpI a b = - cmpI b a := by unfold cmpI; repeat' split
                                                           all_goals omega
theorem cmpI_zero {a b : Int} : cmpI a b = 0 ↔ a = b := by
  unfold cmpI
  split
  · constructor
    · intro h; cases h
    · intro h; omega
  · split
    · constructor
      · intro h; cases h
      · intro h; omega
    · constructor
      · intro _; omega
      · intro _; rfl
theorem cmpI_le {a b : Int} : cmpI a b ≤ 0 ↔ a ≤ b := by
  unfold cmpI
  split
  · constructor
    · intro _; omega
    · intro _; decide
  · split
    · constructor
      · intro h; exact absurd h (by decide)
      · intro h; omega
    · constructor
      · intro _; omega
      · intro _; decide
theorem cmpL_neg : ∀ (ts us : List Term), (∀ x ∈ ts, ∀ u, x.cmp u = - u.cmp x) → cmpL ts us = - cmpL us ts
  | [], [], _ => by simp [cmpL]
  | [], _ :: _, _ => by simp [cmpL]
  | _ :: _, [], _ => by simp [cmpL]
  | t :: r, u :: s, h => by
    simp only [cmpL]
    rw [h t (by simp) u, cmpL_neg r s fun x hx => h x (by simp [hx])]
    by_cases e : u.cmp t = 0
    · simp [e]
    · rw [if_neg (by omega), if_neg e]
theorem cmp_neg (t : Term) : ∀ u : Term, t.cmp u = - u.cmp t := by
  refine Term.ind (p := fun t => ∀ u : Term, t.cmp u = - u.cmp t) (fun v fn args ih u => ?_) t
  obtain ⟨v2, fn2, args2⟩ := u
  simp only [Term.cmp]
  by_cases h1 : fn.toList = [] ∧ fn2.toList = []
  · rw [if_pos h1, if_pos (And.symm h1)]; exact cmpI_neg _ _
  · rw [if_neg h1, if_neg (show ¬(fn2.toList = [] ∧ fn.toList = []) from fun h => h1 (And.symm h))]
    by_cases h2 : fn.toList = fn2.toList
    · rw [if_pos h2, if_pos (Eq.symm h2)]
      by_cases h3 : args.length = args2.length
      · rw [if_pos h3, if_pos h3.symm]; exact cmpL_neg args args2 ih
      · rw [if_neg h3, if_neg (Ne.symm h3)]; exact cmpI_neg _ _
    · rw [if_neg h2, if_neg (Ne.symm h2)]; exact cmpS_neg _ _
theorem cmpL_zero : ∀ (ts us : List Term), (∀ x ∈ ts, x.shapeB = true → ∀ u : Term, u.shapeB = true → (x.cmp u = 0 ↔ x = u)) → shapeBL ts = true → shapeBL us = true → ts.length = us.length → (cmpL ts us = 0 ↔ ts = us)
  | [], [], _, _, _, _ => by simp [cmpL]
  | [], _ :: _, _, _, _, h => by simp at h
  | _ :: _, [], _, _, _, h => by simp at h
  | t :: r, u :: s, h, h1, h2, h3 => by
    simp only [shapeBL, Bool.and_eq_true] at h1 h2
    have ht := h t (by simp) h1.1 u h2.1
    have hr := cmpL_zero r s (fun x hx => h x (by simp [hx])) h1.2 h2.2 (by simpa using h3)
    simp only [cmpL, List.cons.injEq]
    by_cases e : t.cmp u = 0
    · rw [if_pos e, hr]; simp [ht.1 e]
    · rw [if_neg e]
      constructor
      · intro q; exact absurd q e
      · rintro ⟨q, _⟩; exact absurd (ht.2 q) e
theorem cmp_zero (t : Term) : t.shapeB = true → ∀ u : Term, u.shapeB = true → (t.cmp u = 0 ↔ t = u) := by
  refine Term.ind (p := fun t => t.shapeB = true → ∀ u : Term, u.shapeB = true → (t.cmp u = 0 ↔ t = u)) (fun v fn args ih hs u hu => ?_) t
  obtain ⟨v2, fn2, args2⟩ := u
  have hsa : shapeBL args = true := by simp only [Term.shapeB, Bool.and_eq_true] at hs; exact hs.2
  have hua : shapeBL args2 = true := by simp only [Term.shapeB, Bool.and_eq_true] at hu; exact hu.2
  simp only [Term.cmp]
  by_cases h1 : fn.toList = [] ∧ fn2.toList = []
  · rw [if_pos h1, cmpI_zero]
    have e1 := shape_var hs h1.1
    have e2 := shape_var hu h1.2
    have e3 : fn = fn2 := bytes_ext (by rw [h1.1, h1.2])
    subst e1; subst e2; subst e3
    simp
  · rw [if_neg h1]
    by_cases h2 : fn.toList = fn2.toList
    · have e3 : fn = fn2 := bytes_ext h2
      subst e3
      have hne : fn.toList ≠ [] := fun e => h1 ⟨e, e⟩
      have e1 := shapeB_v' hs hne
      have e2 := shapeB_v' hu hne
      subst e1; subst e2
      rw [if_pos rfl]
      by_cases h3 : args.length = args2.length
      · rw [if_pos h3, cmpL_zero args args2 ih hsa hua h3]; simp
      · rw [if_neg h3, cmpI_zero]
        constructor
        · intro q; exact absurd (by omega) h3
        · intro q; simp only [Term.mk.injEq, true_and] at q; exact absurd (by rw [q]) h3
    · rw [if_neg h2, cmpS_zero]
      constructor
      · intro q; exact absurd q h2
      · intro q; simp only [Term.mk.injEq] at q; exact absurd (by rw [q.2.1]) h2
theorem cmpL_le : ∀ (ts us ws : List Term), (∀ x ∈ ts, x.shapeB = true → ∀ u : Term, u.shapeB = true → ∀ w : Term, w.shapeB = true → x.cmp u ≤ 0 → u.cmp w ≤ 0 → x.cmp w ≤ 0) → shapeBL ts = true → shapeBL us = true → shapeBL ws = true → ts.length = us.length → us.length = ws.length → cmpL ts us ≤ 0 → cmpL us ws ≤ 0 → cmpL ts ws ≤ 0
  | [], _, _, _, _, _, _, _, _, _, _ => by simp [cmpL]
  | _ :: _, [], _, _, _, _, _, h, _, _, _ => by simp at h
  | _ :: _, _ :: _, [], _, _, _, _, _, h, _, _ => by simp at h
  | x :: r, y :: s, z :: q, h, h1, h2, h3, l1, l2, c1, c2 => by
    simp only [shapeBL, Bool.and_eq_true] at h1 h2 h3
    simp only [cmpL] at c1 c2 ⊢
    have hr := cmpL_le r s q (fun x hx => h x (by simp [hx])) h1.2 h2.2 h3.2 (by simpa using l1) (by simpa using l2)
    have hx := h x (by simp) h1.1 y h2.1 z h3.1
    by_cases e1 : x.cmp y = 0
    · rw [if_pos e1] at c1
      have exy := (cmp_zero x h1.1 y h2.1).1 e1
      subst exy
      by_cases e2 : x.cmp z = 0
      · rw [if_pos e2] at c2 ⊢; exact hr c1 c2
      · rw [if_neg e2] at c2 ⊢; exact c2
    · rw [if_neg e1] at c1
      by_cases e2 : y.cmp z = 0
      · have eyz := (cmp_zero y h2.1 z h3.1).1 e2
        subst eyz
        rw [if_neg e1]; exact c1
      · rw [if_neg e2] at c2
        have hxz := hx c1 c2
        have hne : x.cmp z ≠ 0 := fun e3 => by
          have exz := (cmp_zero x h1.1 z h3.1).1 e3
          subst exz
          have := cmp_neg x y
          omega
        rw [if_neg hne]; exact hxz
theorem cmp_le (t : Term) : t.shapeB = true → ∀ u : Term, u.shapeB = true → ∀ w : Term, w.shapeB = true → t.cmp u ≤ 0 → u.cmp w ≤ 0 → t.cmp w ≤ 0 := by
  refine Term.ind (p := fun t => t.shapeB = true → ∀ u : Term, u.shapeB = true → ∀ w : Term, w.shapeB = true → t.cmp u ≤ 0 → u.cmp w ≤ 0 → t.cmp w ≤ 0) (fun v fn args ih hs u hu w hw c1 c2 => ?_) t
  obtain ⟨v2, fn2, args2⟩ := u
  obtain ⟨v3, fn3, args3⟩ := w
  have hsa : shapeBL args = true := by simp only [Term.shapeB, Bool.and_eq_true] at hs; exact hs.2
  have hua : shapeBL args2 = true := by simp only [Term.shapeB, Bool.and_eq_true] at hu; exact hu.2
  have hwa : shapeBL args3 = true := by simp only [Term.shapeB, Bool.and_eq_true] at hw; exact hw.2
  have em : ∀ a : List UInt8, a ≠ [] → Op.bytesLess a [] = false ∧ Op.bytesLess [] a = true := fun a h => by
    cases a with
    | nil => exact absurd rfl h
    | cons => simp [Op.bytesLess]
  simp only [Term.cmp] at c1 c2 ⊢
  by_cases n1 : fn.toList = []
  · by_cases n3 : fn3.toList = []
    · by_cases n2 : fn2.toList = []
      · rw [if_pos ⟨n1, n2⟩, cmpI_le] at c1
        rw [if_pos ⟨n2, n3⟩, cmpI_le] at c2
        rw [if_pos ⟨n1, n3⟩, cmpI_le]; omega
      · rw [if_neg fun h => n2 h.1, if_neg fun h => n2 (by rw [h, n3]), cmpS_neg1 fun h => n2 (by rw [h, n3]), n3, (em _ n2).1] at c2
        cases c2
    · rw [if_neg fun h => n3 h.2, if_neg fun h => n3 (by rw [← h, n1]), cmpS_neg1 fun h => n3 (by rw [← h, n1]), n1]
      exact (em _ n3).2
  · have n2 : fn2.toList ≠ [] := fun n2 => by
      rw [if_neg fun h => n1 h.1, if_neg fun h => n1 (by rw [h, n2]), cmpS_neg1 fun h => n1 (by rw [h, n2]), n2, (em _ n1).1] at c1
      cases c1
    have n3 : fn3.toList ≠ [] := fun n3 => by
      rw [if_neg fun h => n2 h.1, if_neg fun h => n2 (by rw [h, n3]), cmpS_neg1 fun h => n2 (by rw [h, n3]), n3, (em _ n2).1] at c2
      cases c2
    rw [if_neg fun h => n1 h.1] at c1 ⊢
    rw [if_neg fun h => n2 h.1] at c2
    by_cases e1 : fn.toList = fn2.toList
    · by_cases e2 : fn2.toList = fn3.toList
      · rw [if_pos e1] at c1
        rw [if_pos e2] at c2
        rw [if_pos (e1.trans e2)]
        by_cases l1 : args.length = args2.length
        · by_cases l2 : args2.length = args3.length
          · rw [if_pos l1] at c1
            rw [if_pos l2] at c2
            rw [if_pos (l1.trans l2)]
            exact cmpL_le args args2 args3 (fun x hx a b c d e f g => ih x hx a b c d e f g) hsa hua hwa l1 l2 c1 c2
          · rw [if_neg l2, cmpI_le] at c2
            rw [if_neg (by omega), cmpI_le]; omega
        · rw [if_neg l1, cmpI_le] at c1
          by_cases l2 : args2.length = args3.length
          · rw [if_neg (by omega), cmpI_le]; omega
          · rw [if_neg l2, cmpI_le] at c2
            rw [if_neg (by omega), cmpI_le]; omega
      · rw [if_neg e2] at c2
        rw [if_neg (by rw [e1]; exact e2), e1]; exact c2
    · rw [if_neg e1, cmpS_neg1 e1] at c1
      by_cases e2 : fn2.toList = fn3.toList
      · rw [← e2, if_neg e1, cmpS_neg1 e1]; exact c1
      · rw [if_neg e2, cmpS_neg1 e2] at c2
        have h3 := less_trans _ _ _ c1 c2
        have e3 : fn.toList ≠ fn3.toList := fun e => by rw [e, less_irrefl] at h3; cases h3
        rw [if_neg e3, cmpS_neg1 e3]; exact h3
end Go.Proofs.Ytiafeijkifpfaaa.Am

/-
  The order of terms: what the program's function and the document's compute. No condition.
-/
namespace Go.Proofs.Ytiafeijkifpfaaa.Am
open Go Go.Proofs
set_option maxHeartbeats 4000000
set_option linter.unusedSimpArgs false
set_option linter.unusedVariables false

theorem sign_ok (a b : Int) : pcl Cp 60 [.int .i64 a, .int .i64 b] = some (.int .i64 (cmpI a b)) := by
  refine pcl_body code60 ?_
  unfold cmpI
  by_cases h1 : a < b
  · simp [h1]
  · by_cases h2 : b < a <;> simp [h1, h2]
theorem nanI_ok (a : Int) : pcl Cp 77 [.int .i64 a] = some (.bool false) := by
  refine pcl_body code77 ?_
  simp
theorem nanS_ok (a : ByteArray) : pcl Cp 78 [.str a] = some (.bool false) := by
  refine pcl_body code78 ?_
  simp
theorem cmpInt_ok (a b : Int) : pcl Cp 57 [.int .i64 a, .int .i64 b] = some (.int .i64 (cmpI a b)) := by
  refine pcl_body code57 ?_
  unfold cmpI
  by_cases h1 : a < b
  · simp [h1, nanI_ok, plc_raw]
  · by_cases h2 : b < a <;> simp [h1, h2, nanI_ok, plc_raw]
theorem cmpStr_ok (a b : ByteArray) : pcl Cp 58 [.str a, .str b] = some (.int .i64 (cmpS a.toList b.toList)) := by
  refine pcl_body code58 ?_
  unfold cmpS
  cases h1 : Op.bytesLess a.toList b.toList
  · by_cases h2 : a.toList = b.toList
    · simp [h1, h2, nanS_ok, plc_raw, less_irrefl]
    · simp [h1, h2, nanS_ok, plc_raw]
  · simp [h1, nanS_ok, plc_raw]

/-- The first that is not alike. -/
def first2 (p : Term → Term → Int) : List Term → List Term → Int
  | t :: r, u :: s => if p t u = 0 then first2 p r s else p t u
  | _, _ => 0
theorem cmpL_first : ∀ (ts us : List Term), cmpL ts us = first2 Term.cmp ts us
  | [], _ => by simp [cmpL, first2]
  | _ :: _, [] => by simp [cmpL, first2]
  | t :: r, u :: s => by simp only [cmpL, first2, cmpL_first r s]
theorem cmpF_loop (g : FuncId) (p : Term → Term → Int) (hg : plc.raw g = false ∧ plc.weak g = false ∧ g ≠ 1000000000) (ts us : List Term) (hn : ts.length ≤ 9223372036854775807) (hlen : us.length = ts.length) (hrec : ∀ x ∈ ts, ∀ y ∈ us, pcl Cp g [.agg x.enc, .agg y.enc] = some (.int .i64 (p x y))) :
    ∃ e t, aloop Try.prog plc b59_0 ⟨[true, true, true, false, false, false, true, false, false, false, false, true, true, true, false, false, false, false, false, false, false, false, false, false, false, false, false, false, false, false, false, false, false, false, true, true, true, true, true], some 4⟩ ⟨[.d (.sl (encL ts) ts.length false none), .d (.sl (encL us) us.length false none), .d (.fn g []), .junk, .junk, .junk, .d (.int .i64 0), .junk, .junk, .junk, .junk, .d (.sl (encL ts) ts.length false none), .d (.int .i64 ts.length), .d (.int .i64 0), .junk, .junk, .junk, .junk, .junk, .junk, .junk, .junk, .junk, .junk, .junk, .junk, .junk, .junk, .junk, .junk, .junk, .junk, .junk, .junk, .junk, .junk, .junk, .junk, .junk], fun _ => none, 4⟩ = some (e, t) ∧
      (if first2 p ts us = 0 then AtExit 0 [.d (.sl (encL ts) ts.length false none), .d (.sl (encL us) us.length false none), .d (.fn g []), .junk, .junk, .junk, .d (.int .i64 0), .junk, .junk, .junk, .junk, .d (.sl (encL ts) ts.length false none), .d (.int .i64 ts.length), .d (.int .i64 ts.length), .junk, .junk, .junk, .junk, .junk, .junk, .junk, .junk, .junk, .junk, .junk, .junk, .junk, .junk, .junk, .junk, .junk, .junk, .junk, .junk, .junk, .junk, .junk, .junk, .junk] (fun _ => none) e t else AtRet 6 (.d (.int .i64 (first2 p ts us))) e t) := by
  refine loop_rule (b := 4) (tm := fun (i : Nat) => [.d (.sl (encL ts) ts.length false none), .d (.sl (encL us) us.length false none), .d (.fn g []), .junk, .junk, .junk, .d (.int .i64 0), .junk, .junk, .junk, .junk, .d (.sl (encL ts) ts.length false none), .d (.int .i64 ts.length), .d (.int .i64 i), .junk, .junk, .junk, .junk, .junk, .junk, .junk, .junk, .junk, .junk, .junk, .junk, .junk, .junk, .junk, .junk, .junk, .junk, .junk, .junk, .junk, .junk, .junk, .junk, .junk]) (Hf := fun _ => fun _ => none)
    (I := fun i => i ≤ ts.length) (μ := fun i => ts.length - i) (res := fun i => first2 p (ts.drop i) (us.drop i)) (R := fun c e t => if c = 0 then AtExit 0 [.d (.sl (encL ts) ts.length false none), .d (.sl (encL us) us.length false none), .d (.fn g []), .junk, .junk, .junk, .d (.int .i64 0), .junk, .junk, .junk, .junk, .d (.sl (encL ts) ts.length false none), .d (.int .i64 ts.length), .d (.int .i64 ts.length), .junk, .junk, .junk, .junk, .junk, .junk, .junk, .junk, .junk, .junk, .junk, .junk, .junk, .junk, .junk, .junk, .junk, .junk, .junk, .junk, .junk, .junk, .junk, .junk, .junk] (fun _ => none) e t else AtRet 6 (.d (.int .i64 c)) e t)
    (fun i nx hi => ?_) 0 (Nat.zero_le _)
  rcases Nat.lt_or_ge i ts.length with hl | hl
  · obtain ⟨v, fn, args, a⟩ := at_ok hn hl
    obtain ⟨v2, fn2, args2, b⟩ := at_ok (ts := us) (by omega) (i := i) (by omega)
    have hcall := hrec _ a.mem _ b.mem
    simp [Term.enc] at hcall
    have hge := Int.not_le.2 b.lti
    have hge2 := Nat.not_le.2 b.lt
    conv => arg 9; arg 4; unfold b59_0
    by_cases hp : p (.mk v fn args) (.mk v2 fn2 args2) = 0
    · rw [hp] at hcall
      simp [a.lti, a.sz, a.ltm, a.cells, a.le3, b.lti, b.cells, b.sz, b.ltm, b.le3, hge, hge2, hg.1, hg.2.1, hg.2.2, -plc_weak, hcall, a.w]
      exact .next (i + 1) (by omega) rfl rfl hl (by omega) (by simp [a.dr, b.dr, first2, hp])
    · simp [a.lti, a.sz, a.ltm, a.cells, a.le3, b.lti, b.cells, b.sz, b.ltm, b.le3, hge, hge2, hg.1, hg.2.1, hg.2.2, -plc_weak, hcall, a.w, hp]
      exact .fin _ _ (by simp only [a.dr, b.dr, first2, if_neg hp]; exact ⟨rfl, rfl⟩)
  · obtain rfl : i = ts.length := Nat.le_antisymm hi hl
    simp [b59_0]
    exact .fin _ _ (by simp [first2]; exact .mk)
theorem cmpF_ok {g : FuncId} {p : Term → Term → Int} (hg : plc.raw g = false ∧ plc.weak g = false ∧ g ≠ 1000000000) {ts us : List Term} (hn : ts.length ≤ 9223372036854775807) (hlen : us.length = ts.length) (hrec : ∀ x ∈ ts, ∀ y ∈ us, pcl Cp g [.agg x.enc, .agg y.enc] = some (.int .i64 (p x y))) :
    pcl Cp 59 [.sl (encL ts) ts.length false none, .sl (encL us) us.length false none, .fn g []] = some (.int .i64 (first2 p ts us)) := by
  obtain ⟨e, t, hrun, hR⟩ := cmpF_loop g p hg ts us hn hlen hrec
  refine pcl_body code59 ?_
  try simp at hrun
  simp [hrun]
  by_cases hs : first2 p ts us = 0
  · rw [if_pos hs] at hR
    obtain ⟨rfl, nx, rfl⟩ := hR
    simp [hlen, hs]
  · rw [if_neg hs] at hR
    obtain ⟨rfl, hv⟩ := hR
    simp [hv]
theorem cmp_ok (t : Term) : t.ok → ∀ u : Term, u.ok → pcl Cp 26 [.agg t.enc, .agg u.enc] = some (.int .i64 (t.cmp u)) := by
  refine Term.ind (p := fun t => t.ok → ∀ u : Term, u.ok → pcl Cp 26 [.agg t.enc, .agg u.enc] = some (.int .i64 (t.cmp u))) (fun v fn args ih h => ?_) t
  intro u hu
  obtain ⟨v2, fn2, args2⟩ := u
  refine pcl_body code26 ?_
  by_cases e : fn.toList = fn2.toList
  · obtain rfl := bytes_ext e
    by_cases n : fn.toList = []
    · simp [Term.enc, Term.cmp, plc_raw, n, cmpInt_ok]
    · by_cases l : args.length = args2.length
      · have he := cmpF_ok (g := 26) (p := Term.cmp) ⟨rfl, rfl, by decide⟩ (ts := args) (us := args2) h.1 l.symm (fun x hx y hy => ih x hx (okL_mem h.2 x hx) y (okL_mem hu.2 y hy))
        rw [l] at he
        simp [Term.enc, Term.cmp, plc_raw, n, l, he, cmpL_first]
      · have l' : ¬ (args.length : Int) = (args2.length : Int) := by omega
        simp [Term.enc, Term.cmp, plc_raw, n, l, l', cmpInt_ok]
  · by_cases n : fn.toList = []
    · have n2 : ¬ fn2.toList = [] := fun n2 => e (by rw [n, n2])
      have n2' : ¬ [] = fn2.toList := fun q => n2 q.symm
      have hc := cmpStr_ok fn fn2
      rw [n] at hc
      simp [Term.enc, Term.cmp, plc_raw, n, n2, n2', hc]
    · simp [Term.enc, Term.cmp, plc_raw, n, e, cmpStr_ok]

theorem rcmp_loop (v0 : Int) (fn0 : ByteArray) (v00 : Int) (ts us : List Term) (hn : ts.length ≤ 9223372036854775807) (hlen : us.length = ts.length) (hrec : ∀ x ∈ ts, ∀ y ∈ us, pcl Cp 27 [.agg x.enc, .agg y.enc] = some (.int .i64 (x.cmp y))) :
    ∃ e t, aloop Try.prog plc b27_0 ⟨[false, false, true, true, true, true, false, false, false, false, false, false, false, false, false, false, false, false, false, false, false, false, false, false, false, false, false, false, false, false, false, false, false, false, false, false, false, false, false, false, false, false, false, false, false, false, false, false, false, false, false, false, false, false, false, false, false, false, false, false, false, false, false, false, false, false, false, false, false, false, false, false, false, false, false, false], some 29⟩ ⟨[.junk, .junk, .ptr (0, 0) 0 3, .ptr (1, 0) 0 3, .d (.int .i64 0), .d (.int .i64 0), .junk, .junk, .junk, .junk, .junk, .junk, .junk, .junk, .junk, .junk, .junk, .junk, .junk, .junk, .junk, .junk, .junk, .junk, .junk, .junk, .junk, .junk, .junk, .junk, .junk, .junk, .junk, .junk, .junk, .junk, .junk, .junk, .junk, .junk, .junk, .junk, .junk, .junk, .junk, .junk, .junk, .junk, .junk, .junk, .junk, .junk, .junk, .junk, .junk, .junk, .junk, .junk, .junk, .junk, .junk, .junk, .junk, .junk, .junk, .junk, .junk, .junk, .junk, .junk, .junk, .junk, .junk, .junk, .junk, .junk], termH2 v0 fn0 ts v00 fn0 us, 29⟩ = some (e, t) ∧
      (if cmpL ts us = 0 then AtExit 0 [.junk, .junk, .ptr (0, 0) 0 3, .ptr (1, 0) 0 3, .d (.int .i64 0), .d (.int .i64 ts.length), .junk, .junk, .junk, .junk, .junk, .junk, .junk, .junk, .junk, .junk, .junk, .junk, .junk, .junk, .junk, .junk, .junk, .junk, .junk, .junk, .junk, .junk, .junk, .junk, .junk, .junk, .junk, .junk, .junk, .junk, .junk, .junk, .junk, .junk, .junk, .junk, .junk, .junk, .junk, .junk, .junk, .junk, .junk, .junk, .junk, .junk, .junk, .junk, .junk, .junk, .junk, .junk, .junk, .junk, .junk, .junk, .junk, .junk, .junk, .junk, .junk, .junk, .junk, .junk, .junk, .junk, .junk, .junk, .junk, .junk] (termH2 v0 fn0 ts v00 fn0 us) e t else AtRet 4 (.d (.int .i64 (cmpL ts us))) e t) := by
  refine loop_rule (b := 29) (tm := fun (i : Nat) => [.junk, .junk, .ptr (0, 0) 0 3, .ptr (1, 0) 0 3, .d (.int .i64 0), .d (.int .i64 i), .junk, .junk, .junk, .junk, .junk, .junk, .junk, .junk, .junk, .junk, .junk, .junk, .junk, .junk, .junk, .junk, .junk, .junk, .junk, .junk, .junk, .junk, .junk, .junk, .junk, .junk, .junk, .junk, .junk, .junk, .junk, .junk, .junk, .junk, .junk, .junk, .junk, .junk, .junk, .junk, .junk, .junk, .junk, .junk, .junk, .junk, .junk, .junk, .junk, .junk, .junk, .junk, .junk, .junk, .junk, .junk, .junk, .junk, .junk, .junk, .junk, .junk, .junk, .junk, .junk, .junk, .junk, .junk, .junk, .junk]) (Hf := fun _ => termH2 v0 fn0 ts v00 fn0 us)
    (I := fun i => i ≤ ts.length) (μ := fun i => ts.length - i) (res := fun i => cmpL (ts.drop i) (us.drop i)) (R := fun c e t => if c = 0 then AtExit 0 [.junk, .junk, .ptr (0, 0) 0 3, .ptr (1, 0) 0 3, .d (.int .i64 0), .d (.int .i64 ts.length), .junk, .junk, .junk, .junk, .junk, .junk, .junk, .junk, .junk, .junk, .junk, .junk, .junk, .junk, .junk, .junk, .junk, .junk, .junk, .junk, .junk, .junk, .junk, .junk, .junk, .junk, .junk, .junk, .junk, .junk, .junk, .junk, .junk, .junk, .junk, .junk, .junk, .junk, .junk, .junk, .junk, .junk, .junk, .junk, .junk, .junk, .junk, .junk, .junk, .junk, .junk, .junk, .junk, .junk, .junk, .junk, .junk, .junk, .junk, .junk, .junk, .junk, .junk, .junk, .junk, .junk, .junk, .junk, .junk, .junk] (termH2 v0 fn0 ts v00 fn0 us) e t else AtRet 4 (.d (.int .i64 c)) e t)
    (fun i nx hi => ?_) 0 (Nat.zero_le _)
  rcases Nat.lt_or_ge i ts.length with hl | hl
  · obtain ⟨v, fn, args, a⟩ := at_ok hn hl
    obtain ⟨v2, fn2, args2, b⟩ := at_ok (ts := us) (by omega) (i := i) (by omega)
    have hcall := hrec _ a.mem _ b.mem
    simp [Term.enc] at hcall
    have bsz := b.sz
    have bltm := b.ltm
    have ble3 := b.le3
    rw [hlen] at bsz bltm ble3
    conv => arg 9; arg 4; unfold b27_0
    by_cases hp : (Term.mk v fn args).cmp (.mk v2 fn2 args2) = 0
    · rw [hp] at hcall
      simp [a.lti, a.sz, a.ltm, a.cells, a.le3, b.cells, bsz, bltm, ble3, hlen, plc_raw, hcall, a.w, termH2]
      exact .next (i + 1) (by simp) (by simp) (by simp [termH2, hlen]) hl (by omega) (by simp [a.dr, b.dr, cmpL, hp])
    · simp [a.lti, a.sz, a.ltm, a.cells, a.le3, b.cells, bsz, bltm, ble3, hlen, plc_raw, hcall, a.w, termH2, hp]
      exact .fin _ _ (by simp only [a.dr, b.dr, cmpL, if_neg hp]; exact ⟨rfl, rfl⟩)
  · obtain rfl : i = ts.length := Nat.le_antisymm hi hl
    simp [b27_0, termH2, hlen]
    exact .fin _ _ (by simp [cmpL, termH2, hlen]; exact .mk)
theorem rcmp_ok (t : Term) : t.ok → ∀ u : Term, u.ok → pcl Cp 27 [.agg t.enc, .agg u.enc] = some (.int .i64 (t.cmp u)) := by
  refine Term.ind (p := fun t => t.ok → ∀ u : Term, u.ok → pcl Cp 27 [.agg t.enc, .agg u.enc] = some (.int .i64 (t.cmp u))) (fun v fn args ih h => ?_) t
  intro u hu
  obtain ⟨v2, fn2, args2⟩ := u
  refine pcl_body code27 ?_
  by_cases e : fn.toList = fn2.toList
  · obtain rfl := bytes_ext e
    by_cases n : fn.toList = []
    · simp [Term.enc, Term.cmp, plc_raw, n, sign_ok]
    · by_cases l : args.length = args2.length
      · obtain ⟨e, t, hrun, hR⟩ := rcmp_loop v fn v2 args args2 h.1 l.symm (fun x hx y hy => ih x hx (okL_mem h.2 x hx) y (okL_mem hu.2 y hy))
        simp [Term.enc, termH2, l] at hrun ⊢
        by_cases hs : cmpL args args2 = 0
        · rw [if_pos hs] at hR
          obtain ⟨rfl, nx, rfl⟩ := hR
          simp [n, less_irrefl, hrun, Term.cmp, l, hs, plc_raw]
        · rw [if_neg hs] at hR
          obtain ⟨rfl, hv⟩ := hR
          simp [n, less_irrefl, hrun, Term.cmp, l, hv, plc_raw]
      · have l' : ¬ (args.length : Int) = (args2.length : Int) := by omega
        simp [Term.enc, Term.cmp, plc_raw, n, l, l', sign_ok, less_irrefl]
  · by_cases n : fn.toList = []
    · have n2 : ¬ fn2.toList = [] := fun n2 => e (by rw [n, n2])
      have n2' : ¬ [] = fn2.toList := fun q => n2 q.symm
      have hb : Op.bytesLess [] fn2.toList = true := by
        cases q : fn2.toList with
        | nil => exact absurd q n2
        | cons => simp [Op.bytesLess]
      simp [Term.enc, Term.cmp, plc_raw, n, n2, n2', cmpS, hb]
    · by_cases n2 : fn2.toList = []
      · have hb : Op.bytesLess fn.toList [] = false := by
          cases q : fn.toList <;> simp [Op.bytesLess]
        simp [Term.enc, Term.cmp, plc_raw, n, n2, cmpS, hb]
      · cases hb : Op.bytesLess fn.toList fn2.toList
        · simp [Term.enc, Term.cmp, plc_raw, n, n2, e, cmpS, hb]
        · simp [Term.enc, Term.cmp, plc_raw, n, n2, e, cmpS, hb]
end Go.Proofs.Ytiafeijkifpfaaa.Am

/-
  TermOrder, TermOrders: both sides agree; the order is one. No condition.
-/
namespace Go.Proofs.Ytiafeijkifpfaaa.Am
open Go Go.Proofs
set_option maxHeartbeats 4000000
set_option linter.unusedSimpArgs false
set_option linter.unusedVariables false
theorem alive_ok : pcl Cp 14 [] = some (.bool true) := by
  have h : acall Try.prog plc 14 [] (fun _ => none) 0 = some (.d (.bool true), fun _ => none, 0) := by
    refine acall_of Try.prog plc ?_
    unfold callF
    have : plc.ext 14 = some aliveX := rfl
    rw [this]
    rfl
  unfold pcl
  simp [h, reify]
def LightEnd (bs : List Bd) (v : Int) (fn : ByteArray) (args : List Term) (e : Ex) (t : St) : Prop :=
  AtRet 4 (.d (.bool false)) e t ∨ ∃ m : Int, AtExit 0 [.d (.sl (encB bs) bs.length false none), .junk, .junk, .ptr (0, 0) 0 3, .d (.bool false), .d (.int .i64 m), .d (.int .i64 bs.length), .junk, .junk, .junk, .junk, .junk, .junk, .junk, .junk, .junk, .junk, .junk, .junk, .junk, .junk, .junk, .junk, .junk, .junk, .junk, .junk, .junk, .junk, .junk, .junk, .junk, .junk, .junk, .junk] (upd (fun _ => none) (0, 0) (.cells [.d (.int .i64 v), .d (.str fn), .d (.sl (encL args) args.length false none)])) e t
theorem rightE_shape {t : Term} (h : t.rightE = 0) : t.shapeB = true := by
  unfold Term.rightE at h
  cases hs : t.shapeB with
  | true => rfl
  | false => rw [hs] at h; simp at h
theorem termOrder_ok (x0 : Term) (ok0 : x0.ok) (x1 : Term) (ok1 : x1.ok) : pcl Cp 5 [.agg x0.enc, .agg x1.enc] = some (.bool true) := by
  have r0 := rright_ok x0 ok0
  have r1 := rright_ok x1 ok1
  have s1 := same_ok x0 ok0 x1 ok1
  have s2 := rsame_ok x0 ok0 x1 ok1
  have c1 := cmp_ok x0 ok0 x1 ok1
  have c2 := rcmp_ok x0 ok0 x1 ok1
  generalize x0.rightE = e0 at r0
  generalize x1.rightE = e1 at r1
  generalize x0.sameB x1 = b at s1 s2
  generalize x0.cmp x1 = c at c1 c2
  obtain ⟨v, fn, args⟩ := x0
  obtain ⟨v2, fn2, args2⟩ := x1
  simp [Term.enc] at r0 r1 s1 s2 c1 c2 ⊢
  refine pcl_body code5 ?_
  by_cases h0 : e0 = 0
  · by_cases h1 : e1 = 0
    · simp [plc_raw, r0, r1, s1, s2, c1, c2, h0, h1, alive_ok]
    · simp [plc_raw, r0, r1, s1, s2, c1, c2, h0, h1, alive_ok]
  · simp [plc_raw, r0, r1, s1, s2, c1, c2, h0, alive_ok]
theorem cmpI_or (a b : Int) : cmpI a b = -1 ∨ cmpI a b = 0 ∨ cmpI a b = 1 := by
  unfold cmpI
  split
  · exact .inl rfl
  · split
    · exact .inr (.inr rfl)
    · exact .inr (.inl rfl)
theorem cmpS_or (a b : List UInt8) : cmpS a b = -1 ∨ cmpS a b = 0 ∨ cmpS a b = 1 := by
  unfold cmpS
  split
  · exact .inl rfl
  · split
    · exact .inr (.inl rfl)
    · exact .inr (.inr rfl)
theorem cmp_or (t : Term) : ∀ u : Term, t.cmp u = -1 ∨ t.cmp u = 0 ∨ t.cmp u = 1 := by
  refine Term.ind (p := fun t => ∀ u : Term, t.cmp u = -1 ∨ t.cmp u = 0 ∨ t.cmp u = 1) (fun v fn args ih u => ?_) t
  obtain ⟨v2, fn2, args2⟩ := u
  have hl : ∀ (ts us : List Term), (∀ x ∈ ts, ∀ u : Term, x.cmp u = -1 ∨ x.cmp u = 0 ∨ x.cmp u = 1) → cmpL ts us = -1 ∨ cmpL ts us = 0 ∨ cmpL ts us = 1 := by
    intro ts
    induction ts with
    | nil => intro us _; simp [cmpL]
    | cons x r ih2 =>
      intro us h
      cases us with
      | nil => simp [cmpL]
      | cons y s =>
        simp only [cmpL]
        split
        · exact ih2 s fun z hz => h z (by simp [hz])
        · exact h x (by simp) y
  simp only [Term.cmp]
  split
  · exact cmpI_or _ _
  · split
    · split
      · exact hl _ _ ih
      · exact cmpI_or _ _
    · exact cmpS_or _ _
theorem termOrders_ok (x0 : Term) (ok0 : x0.ok) (x1 : Term) (ok1 : x1.ok) (x2 : Term) (ok2 : x2.ok) : pcl Cp 6 [.agg x0.enc, .agg x1.enc, .agg x2.enc] = some (.bool true) := by
  have r0 := rright_ok x0 ok0
  have r1 := rright_ok x1 ok1
  have r2 := rright_ok x2 ok2
  have s1 := same_ok x0 ok0 x1 ok1
  have c01 := cmp_ok x0 ok0 x1 ok1
  have c12 := cmp_ok x1 ok1 x2 ok2
  have c02 := cmp_ok x0 ok0 x2 ok2
  have c10 := cmp_ok x1 ok1 x0 ok0
  by_cases h0 : x0.rightE = 0
  · by_cases h1 : x1.rightE = 0
    · by_cases h2 : x2.rightE = 0
      · have q0 := rightE_shape h0
        have q1 := rightE_shape h1
        have q2 := rightE_shape h2
        have n1 := cmp_neg x1 x0
        have z1 := cmp_zero x0 q0 x1 q1
        have b1 := sameB_eq x0 x1
        have l1 := cmp_le x0 q0 x1 q1 x2 q2
        have o1 := cmp_or x0 x1
        rw [h0] at r0
        rw [h1] at r1
        rw [h2] at r2
        rw [n1] at c10
        generalize x0.sameB x1 = b at s1 b1
        have hb : b = decide (x0.cmp x1 = 0) := by
          rw [Bool.eq_iff_iff, b1, ← z1]; simp
        subst hb
        generalize x0.cmp x1 = x at c01 c10 l1 o1 s1
        generalize x1.cmp x2 = y at c12 l1
        generalize x0.cmp x2 = z at c02 l1
        clear h0 h1 h2 z1 b1 n1 q0 q1 q2
        obtain ⟨v, fn, args⟩ := x0
        obtain ⟨v2, fn2, args2⟩ := x1
        obtain ⟨v3, fn3, args3⟩ := x2
        simp [Term.enc] at r0 r1 r2 s1 c01 c12 c02 c10 ⊢
        refine pcl_body code6 ?_
        have w1 : IntKind.i64.wrap (-1) = -1 := by kernel_rfl
        have w2 : IntKind.i64.wrap 1 = 1 := by kernel_rfl
        have w3 : IntKind.i64.wrap 0 = 0 := by kernel_rfl
        rcases o1 with rfl | rfl | rfl
        · by_cases hy : 0 < y
          · simp at s1 c10
            simp [plc_raw, r0, r1, r2, s1, c01, c12, c02, c10, alive_ok, hy, w1, w2, w3]
          · have hz := l1 (by decide) (by omega)
            simp at s1 c10
            simp [plc_raw, r0, r1, r2, s1, c01, c12, c02, c10, alive_ok, hy, hz, w1, w2, w3]
        · by_cases hy : 0 < y
          · simp at s1 c10
            simp [plc_raw, r0, r1, r2, s1, c01, c12, c02, c10, alive_ok, hy, w1, w2, w3]
          · have hz := l1 (by decide) (by omega)
            simp at s1 c10
            simp [plc_raw, r0, r1, r2, s1, c01, c12, c02, c10, alive_ok, hy, hz, w1, w2, w3]
        · simp at s1 c10
          simp [plc_raw, r0, r1, r2, s1, c01, c12, c02, c10, alive_ok, w1, w2, w3]
      · generalize x0.rightE = e0 at *
        generalize x1.rightE = e1 at *
        generalize x2.rightE = e2 at *
        clear c01 c12 c02 c10 s1
        obtain ⟨v, fn, args⟩ := x0
        obtain ⟨v2, fn2, args2⟩ := x1
        obtain ⟨v3, fn3, args3⟩ := x2
        simp [Term.enc] at r0 r1 r2 ⊢
        refine pcl_body code6 ?_
        simp [plc_raw, r0, r1, r2, h0, h1, h2, alive_ok]
    · generalize x0.rightE = e0 at *
      generalize x1.rightE = e1 at *
      clear c01 c12 c02 c10 s1
      obtain ⟨v, fn, args⟩ := x0
      obtain ⟨v2, fn2, args2⟩ := x1
      obtain ⟨v3, fn3, args3⟩ := x2
      simp [Term.enc] at r0 r1 ⊢
      refine pcl_body code6 ?_
      simp [plc_raw, r0, r1, h0, h1, alive_ok]
  · generalize x0.rightE = e0 at *
    clear c01 c12 c02 c10 s1
    obtain ⟨v, fn, args⟩ := x0
    obtain ⟨v2, fn2, args2⟩ := x1
    obtain ⟨v3, fn3, args3⟩ := x2
    simp [Term.enc] at r0 ⊢
    refine pcl_body code6 ?_
    simp [plc_raw, r0, h0, alive_ok]
end Go.Proofs.Ytiafeijkifpfaaa.Am


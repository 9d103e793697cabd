/-
  Joined texts: AmRow, AmT, AmVa0, AmRy, AmSb, AmSc, AmSd, AmSe, AmW, AmWb, AmSf, AmSkm, AmRw, AmSn, AmRd, AmRl. No condition.
-/
import Derived.Test.YtiafeijkifpfaaaAmPao
import Derived.WalkKit
import Derived.ProofKit
import Derived.OpenShut
import Derived.ShutString
import Derived.ChangeOld
import Derived.Below
import Derived.JoinedCond
/-
 What the statements' arguments are read as: terms, binds. No condition.
-/
namespace Go.Proofs.Ytiafeijkifpfaaa.Am
open Go Go.Proofs
open Go.ChangeShapes Go.WideShapes Go.ChangeAt Go.RowKit
open Go.ChangeMaps (open_string shut_string)
set_option linter.unusedVariables false
theorem row_own : ownKnob Try.prog.godebug = none := by kernel_rfl
theorem row_laidOut : laidOutB Try.prog = true := by kernel_rfl
theorem encL_flat : ∀ (ts : List Am.Term), encL ts = ts.flatMap Am.Term.enc
 | [] => rfl
 | t :: r => by simp [encL, encL_flat r]
theorem okL_of : ∀ {ts : List Am.Term}, (∀ x ∈ ts, x.ok) → okL ts
 | [], _ => trivial
 | t :: r, h => ⟨h t (by simp), okL_of fun x hx => h x (by simp [hx])⟩
theorem sizeL_sum : ∀ (ts : List Am.Term), sizeL ts = (ts.map Am.Term.size).sum
 | [] => rfl
 | t :: r => by simp [sizeL, sizeL_sum r]
theorem reads_term : ∀ n, ReadsB Try.prog 32 n Am.Term.enc Am.Term.ok Am.Term.size
 | 0 => .zero
 | n + 1 => by
  have hs : ReadsB Try.prog 30 n (fun xs : List Am.Term => [D.sl (xs.flatMap Am.Term.enc) xs.length false none]) (fun xs => xs.length ≤ maxLen ∧ ∀ x ∈ xs, x.ok) (fun xs => (xs.map Am.Term.size).sum + 1) := by
   cases n with
   | zero => exact .zero
   | succ m => exact .slice Try.underlying30 (by rw [show Try.prog.cellsOf 32 = 3 from by kernel_rfl]; decide) ((reads_term (m + 1)).le (by omega))
  exact (ReadsB.struct3 (s0 := 1) (s1 := 1) (s2 := 1) Try.underlying32 (by kernel_rfl) ⟨by kernel_rfl, rfl⟩ ⟨by kernel_rfl, rfl⟩ ⟨by kernel_rfl, rfl⟩ (ReadsB.int Try.underlying3) (ReadsB.str Try.underlying9) hs).map (fun x => .mk x.1 x.2.1 x.2.2)
   (fun x => by simp [Am.Term.enc, encL_flat]) (fun x hx => ⟨by have := hx.2.2.1; simp [maxLen] at this; omega, okL_of hx.2.2.2⟩) (fun x => by simp only [Am.Term.size, sizeL_sum]; omega)
theorem sum_one {α : Type} (l : List α) : (l.map fun _ => 1).sum = l.length := by induction l <;> simp_all <;> omega
def okBz (bs : List Bd) : Prop := okB bs
theorem encB_flat (l : List Bd) : encB l = l.flatMap Bd.enc := rfl
theorem reads_bind (m : Nat) : ReadsB Try.prog 61 m Bd.enc (fun b => b.t.ok) (fun b => b.t.size) := by
 cases m with
 | zero => exact .zero
 | succ k =>
  exact (ReadsB.struct2 (s0 := 1) (s1 := 3) Try.underlying61 (by kernel_rfl) ⟨by kernel_rfl, rfl⟩ ⟨by kernel_rfl, rfl⟩ (ReadsB.int Try.underlying3) (reads_term k)).map (fun x => ⟨x.1, x.2⟩) (fun x => rfl) (fun x hx => hx.2) (fun x => by show x.2.size ≤ 1 + x.2.size + 1; omega)
theorem reads_binds (n : Nat) : ReadsB Try.prog 55 n (fun bs : List Bd => [D.sl (encB bs) bs.length false none]) okB (fun bs => (bs.map fun b => b.t.size).sum) := by
 cases n with
 | zero => exact .zero
 | succ m =>
  exact (ReadsB.slice Try.underlying55 (by rw [show Try.prog.cellsOf 61 = 4 from by kernel_rfl]; decide) (reads_bind m)).map (fun xs => xs) (fun xs => rfl) (fun xs hx => ⟨by have := hx.1; simp [maxLen] at this; omega, hx.2⟩) (fun xs => Nat.le_succ _)
theorem binds_le {bs : List Bd} {n : Nat} (h : (bs.map fun b => b.t.size).sum ≤ n) : ∀ x ∈ bs, x.t.size ≤ n := by
 induction bs with
 | nil => intro x hx; simp at hx
 | cons b r ih =>
  intro x hx
  simp only [List.map_cons, List.sum_cons] at h
  rcases List.mem_cons.1 hx with rfl | hx
  ·omega
  ·have := ih (by omega) x hx; omega
theorem binds_len {bs : List Bd} {n : Nat} (h : (bs.map fun b => b.t.size).sum ≤ n) : bs.length ≤ n := by
 have : bs.length ≤ (bs.map fun b => b.t.size).sum := by
  clear h
  induction bs with
  | nil => simp
  | cons b r ih => have := b.t.size_pos; simp only [List.map_cons, List.sum_cons, List.length_cons]; omega
 omega
theorem arg_slice {w : World} {a : Option Addr} {l c : Nat} {x : D} (h : CD w [x] (Value.slice a l c).cells.toList) : RepD (· < w.heap.size) w x (.slice a l c) := by
 have := h.rep 0 x rfl
 simpa [Value.cells] using this
theorem arg_agg {w : World} {cs : Array Value} {ds : List D} (h : CD w ds (Value.agg cs).cells.toList) : RepD (· < w.heap.size) w (.agg ds) (.agg cs) := by
 have hl := h.len
 simp only [Value.cells, Array.length_toList] at hl
 refine .agg ds cs hl (fun j hj => ?_) (fun j x hx => ?_)
 ·have := h.one j (by simpa [Value.cells] using hj)
  simpa [Value.cells] using this
 ·have := h.rep j x hx
  simpa [Value.cells] using this
theorem int_range {x : Int} (h : (Lit.int .i64 x).wf = true) : -9223372036854775808 ≤ x ∧ x < 9223372036854775808 := by
 simp only [Lit.wf, Bool.and_eq_true, decide_eq_true_eq] at h
 have h1 : IntKind.i64.min = -9223372036854775808 := by decide
 have h2 : IntKind.i64.max = 9223372036854775807 := by decide
 omega
end Go.Proofs.Ytiafeijkifpfaaa.Am

/-
 Terms: what the program's functions and the document's compute of them, as the abstract machine runs them. No condition.
-/
namespace Go.Proofs.Ytiafeijkifpfaaa.Am
open Go Go.Proofs
set_option maxHeartbeats 4000000
set_option linter.unusedSimpArgs false
def termH (v : Int) (fn : ByteArray) (args : List Term) : Hp := upd (fun _ => none) (0, 0) (.cells [.d (.int .i64 v), .d (.str fn), .d (.sl (encL args) args.length false none)])
theorem size_loop (ts : List Term) (hn : ts.length ≤ 9223372036854775807) (H : Hp) (hH : below 7 H = H) (hrec : ∀ x ∈ ts, pcl Cp 42 [.agg x.enc] = some (.int .i64 x.sizeW)) :
  ∃ e t, aloop Try.prog plc b42_0 ⟨[false, false, true, true, false, false, false, true, true, true, false, false, false, false, false, false, false, false, true], some 7⟩ ⟨[.junk, .junk, .d (.int .i64 0), .d (.int .i64 1), .junk, .junk, .junk, .d (.sl (encL ts) ts.length false none), .d (.int .i64 ts.length), .d (.int .i64 0), .junk, .junk, .junk, .junk, .junk, .junk, .junk, .junk, .junk], H, 7⟩ = some (e, t) ∧
   AtExit 0 [.junk, .junk, .d (.int .i64 0), .d (.int .i64 (sizeWL 1 ts)), .junk, .junk, .junk, .d (.sl (encL ts) ts.length false none), .d (.int .i64 ts.length), .d (.int .i64 ts.length), .junk, .junk, .junk, .junk, .junk, .junk, .junk, .junk, .junk] H e t := by
 refine loop_rule (b := 7) (tm := fun (s : Nat × Int) => [.junk, .junk, .d (.int .i64 0), .d (.int .i64 s.2), .junk, .junk, .junk, .d (.sl (encL ts) ts.length false none), .d (.int .i64 ts.length), .d (.int .i64 s.1), .junk, .junk, .junk, .junk, .junk, .junk, .junk, .junk, .junk]) (Hf := fun _ => H)
  (I := fun s => s.1 ≤ ts.length) (μ := fun s => ts.length - s.1) (res := fun s => sizeWL s.2 (ts.drop s.1)) (R := fun r => AtExit 0 [.junk, .junk, .d (.int .i64 0), .d (.int .i64 r), .junk, .junk, .junk, .d (.sl (encL ts) ts.length false none), .d (.int .i64 ts.length), .d (.int .i64 ts.length), .junk, .junk, .junk, .junk, .junk, .junk, .junk, .junk, .junk] H) (fun s nx hi => ?_) (0, 1) (Nat.zero_le _)
 obtain ⟨i, acc⟩ := s
 rcases Nat.lt_or_ge i ts.length with hl | hl
 ·obtain ⟨v, fn, args, a⟩ := at_ok hn hl
  have hcall := hrec _ a.mem
  simp [Term.enc] at hcall
  conv => arg 9; arg 4; unfold b42_0
  simp [a.lti, a.sz, a.ltm, a.cells, a.le3, plc_raw, hcall, a.w, hH]
  exact .next (i + 1, IntKind.i64.wrap (acc + (Term.mk v fn args).sizeW)) (by omega) rfl rfl hl (by simp; omega) (by simp only [a.dr, sizeWL])
 ·obtain rfl : i = ts.length := Nat.le_antisymm hi hl
  simp [b42_0, hH]
  exact .fin _ _ (by simp [sizeWL]; exact .mk)
theorem size_ok (t : Term) : t.ok → pcl Cp 42 [.agg t.enc] = some (.int .i64 t.sizeW) := by
 refine Term.ind (p := fun t => t.ok → pcl Cp 42 [.agg t.enc] = some (.int .i64 t.sizeW)) (fun v fn args ih h => ?_) t
 obtain ⟨e, t, hrun, rfl, nx, rfl⟩ := size_loop args h.1 (termH v fn args) (by simp [termH]) (fun x hx => ih x hx (okL_mem h.2 x hx))
 refine pcl_body code42 ?_
 simp [Term.enc, termH] at hrun ⊢
 simp [hrun, Term.sizeW]
theorem rsize_loop (v0 : Int) (fn0 : ByteArray) (ts : List Term) (hn : ts.length ≤ 9223372036854775807) (hrec : ∀ x ∈ ts, pcl Cp 45 [.agg x.enc] = some (.int .i64 x.sizeW)) :
  ∃ e t, aloop Try.prog plc b45_0 ⟨[false, true, true, true, true, false, false, false, false, false, false, false, false, false, false, false, false, false, false, false, true], some 4⟩ ⟨[.junk, .ptr (0, 0) 0 3, .d (.int .i64 0), .d (.int .i64 1), .d (.int .i64 0), .junk, .junk, .junk, .junk, .junk, .junk, .junk, .junk, .junk, .junk, .junk, .junk, .junk, .junk, .junk, .junk], termH v0 fn0 ts, 4⟩ = some (e, t) ∧
   AtExit 0 [.junk, .ptr (0, 0) 0 3, .d (.int .i64 0), .d (.int .i64 (sizeWL 1 ts)), .d (.int .i64 ts.length), .junk, .junk, .junk, .junk, .junk, .junk, .junk, .junk, .junk, .junk, .junk, .junk, .junk, .junk, .junk, .junk] (termH v0 fn0 ts) e t := by
 refine loop_rule (b := 4) (tm := fun (s : Nat × Int) => [.junk, .ptr (0, 0) 0 3, .d (.int .i64 0), .d (.int .i64 s.2), .d (.int .i64 s.1), .junk, .junk, .junk, .junk, .junk, .junk, .junk, .junk, .junk, .junk, .junk, .junk, .junk, .junk, .junk, .junk]) (Hf := fun _ => termH v0 fn0 ts)
  (I := fun s => s.1 ≤ ts.length) (μ := fun s => ts.length - s.1) (res := fun s => sizeWL s.2 (ts.drop s.1)) (R := fun r => AtExit 0 [.junk, .ptr (0, 0) 0 3, .d (.int .i64 0), .d (.int .i64 r), .d (.int .i64 ts.length), .junk, .junk, .junk, .junk, .junk, .junk, .junk, .junk, .junk, .junk, .junk, .junk, .junk, .junk, .junk, .junk] (termH v0 fn0 ts)) (fun s nx hi => ?_) (0, 1) (Nat.zero_le _)
 obtain ⟨i, acc⟩ := s
 rcases Nat.lt_or_ge i ts.length with hl | hl
 ·obtain ⟨v, fn, args, a⟩ := at_ok hn hl
  have hcall := hrec _ a.mem
  simp [Term.enc] at hcall
  conv => arg 9; arg 4; unfold b45_0
  simp [a.lti, a.sz, a.ltm, a.cells, a.le3, plc_raw, hcall, a.w, termH]
  exact .next (i + 1, IntKind.i64.wrap (acc + (Term.mk v fn args).sizeW)) (by omega) rfl rfl hl (by simp; omega) (by simp only [a.dr, sizeWL])
 ·obtain rfl : i = ts.length := Nat.le_antisymm hi hl
  simp [b45_0, termH]
  exact .fin _ _ (by simp [sizeWL, termH]; exact .mk)
theorem rsize_ok (t : Term) : t.ok → pcl Cp 45 [.agg t.enc] = some (.int .i64 t.sizeW) := by
 refine Term.ind (p := fun t => t.ok → pcl Cp 45 [.agg t.enc] = some (.int .i64 t.sizeW)) (fun v fn args ih h => ?_) t
 obtain ⟨e, t, hrun, rfl, nx, rfl⟩ := rsize_loop v fn args h.1 (fun x hx => ih x hx (okL_mem h.2 x hx))
 refine pcl_body code45 ?_
 simp [Term.enc, termH] at hrun ⊢
 simp [hrun, Term.sizeW]
theorem depth_loop (ts : List Term) (hn : ts.length ≤ 9223372036854775807) (H : Hp) (hH : below 7 H = H) (hrec : ∀ x ∈ ts, pcl Cp 44 [.agg x.enc] = some (.int .i64 x.depthW)) :
  ∃ e t, aloop Try.prog plc b44_0 ⟨[false, false, true, true, false, false, false, true, true, true, false, false, false, false, false, false, false, false, true, true], some 7⟩ ⟨[.junk, .junk, .d (.int .i64 0), .d (.int .i64 0), .junk, .junk, .junk, .d (.sl (encL ts) ts.length false none), .d (.int .i64 ts.length), .d (.int .i64 0), .junk, .junk, .junk, .junk, .junk, .junk, .junk, .junk, .junk, .junk], H, 7⟩ = some (e, t) ∧
   AtExit 0 [.junk, .junk, .d (.int .i64 0), .d (.int .i64 (depthWL 0 ts)), .junk, .junk, .junk, .d (.sl (encL ts) ts.length false none), .d (.int .i64 ts.length), .d (.int .i64 ts.length), .junk, .junk, .junk, .junk, .junk, .junk, .junk, .junk, .junk, .junk] H e t := by
 refine loop_rule (b := 7) (tm := fun (s : Nat × Int) => [.junk, .junk, .d (.int .i64 0), .d (.int .i64 s.2), .junk, .junk, .junk, .d (.sl (encL ts) ts.length false none), .d (.int .i64 ts.length), .d (.int .i64 s.1), .junk, .junk, .junk, .junk, .junk, .junk, .junk, .junk, .junk, .junk]) (Hf := fun _ => H)
  (I := fun s => s.1 ≤ ts.length) (μ := fun s => ts.length - s.1) (res := fun s => depthWL s.2 (ts.drop s.1)) (R := fun r => AtExit 0 [.junk, .junk, .d (.int .i64 0), .d (.int .i64 r), .junk, .junk, .junk, .d (.sl (encL ts) ts.length false none), .d (.int .i64 ts.length), .d (.int .i64 ts.length), .junk, .junk, .junk, .junk, .junk, .junk, .junk, .junk, .junk, .junk] H) (fun s nx hi => ?_) (0, 0) (Nat.zero_le _)
 obtain ⟨i, acc⟩ := s
 rcases Nat.lt_or_ge i ts.length with hl | hl
 ·obtain ⟨v, fn, args, a⟩ := at_ok hn hl
  have hcall := hrec _ a.mem
  simp [Term.enc] at hcall
  conv => arg 9; arg 4; unfold b44_0
  simp [a.lti, a.sz, a.ltm, a.cells, a.le3, plc_raw, hcall, a.w, hH]
  exact .next (i + 1, if (Term.mk v fn args).depthW > acc then (Term.mk v fn args).depthW else acc) (by omega) rfl rfl hl (by simp; omega) (by simp only [a.dr, depthWL])
 ·obtain rfl : i = ts.length := Nat.le_antisymm hi hl
  simp [b44_0, hH]
  exact .fin _ _ (by simp [depthWL]; exact .mk)
theorem depth_ok (t : Term) : t.ok → pcl Cp 44 [.agg t.enc] = some (.int .i64 t.depthW) := by
 refine Term.ind (p := fun t => t.ok → pcl Cp 44 [.agg t.enc] = some (.int .i64 t.depthW)) (fun v fn args ih h => ?_) t
 obtain ⟨e, t, hrun, rfl, nx, rfl⟩ := depth_loop args h.1 (termH v fn args) (by simp [termH]) (fun x hx => ih x hx (okL_mem h.2 x hx))
 refine pcl_body code44 ?_
 simp [Term.enc, termH] at hrun ⊢
 simp [hrun, Term.depthW]
theorem rdepth_loop (v0 : Int) (fn0 : ByteArray) (ts : List Term) (hn : ts.length ≤ 9223372036854775807) (hrec : ∀ x ∈ ts, pcl Cp 46 [.agg x.enc] = some (.int .i64 x.depthW)) :
  ∃ e t, aloop Try.prog plc b46_0 ⟨[false, true, true, true, true, false, false, false, false, false, false, false, false, false, false, false, false, false, false, false, true, true], some 4⟩ ⟨[.junk, .ptr (0, 0) 0 3, .d (.int .i64 0), .d (.int .i64 0), .d (.int .i64 0), .junk, .junk, .junk, .junk, .junk, .junk, .junk, .junk, .junk, .junk, .junk, .junk, .junk, .junk, .junk, .junk, .junk], termH v0 fn0 ts, 4⟩ = some (e, t) ∧
   AtExit 0 [.junk, .ptr (0, 0) 0 3, .d (.int .i64 0), .d (.int .i64 (depthWL 0 ts)), .d (.int .i64 ts.length), .junk, .junk, .junk, .junk, .junk, .junk, .junk, .junk, .junk, .junk, .junk, .junk, .junk, .junk, .junk, .junk, .junk] (termH v0 fn0 ts) e t := by
 refine loop_rule (b := 4) (tm := fun (s : Nat × Int) => [.junk, .ptr (0, 0) 0 3, .d (.int .i64 0), .d (.int .i64 s.2), .d (.int .i64 s.1), .junk, .junk, .junk, .junk, .junk, .junk, .junk, .junk, .junk, .junk, .junk, .junk, .junk, .junk, .junk, .junk, .junk]) (Hf := fun _ => termH v0 fn0 ts)
  (I := fun s => s.1 ≤ ts.length) (μ := fun s => ts.length - s.1) (res := fun s => depthWL s.2 (ts.drop s.1)) (R := fun r => AtExit 0 [.junk, .ptr (0, 0) 0 3, .d (.int .i64 0), .d (.int .i64 r), .d (.int .i64 ts.length), .junk, .junk, .junk, .junk, .junk, .junk, .junk, .junk, .junk, .junk, .junk, .junk, .junk, .junk, .junk, .junk, .junk] (termH v0 fn0 ts)) (fun s nx hi => ?_) (0, 0) (Nat.zero_le _)
 obtain ⟨i, acc⟩ := s
 rcases Nat.lt_or_ge i ts.length with hl | hl
 ·obtain ⟨v, fn, args, a⟩ := at_ok hn hl
  have hcall := hrec _ a.mem
  simp [Term.enc] at hcall
  conv => arg 9; arg 4; unfold b46_0
  simp [a.lti, a.sz, a.ltm, a.cells, a.le3, plc_raw, hcall, a.w, termH]
  exact .next (i + 1, if (Term.mk v fn args).depthW > acc then (Term.mk v fn args).depthW else acc) (by omega) rfl rfl hl (by simp; omega) (by simp only [a.dr, depthWL])
 ·obtain rfl : i = ts.length := Nat.le_antisymm hi hl
  simp [b46_0, termH]
  exact .fin _ _ (by simp [depthWL, termH]; exact .mk)
theorem rdepth_ok (t : Term) : t.ok → pcl Cp 46 [.agg t.enc] = some (.int .i64 t.depthW) := by
 refine Term.ind (p := fun t => t.ok → pcl Cp 46 [.agg t.enc] = some (.int .i64 t.depthW)) (fun v fn args ih h => ?_) t
 obtain ⟨e, t, hrun, rfl, nx, rfl⟩ := rdepth_loop v fn args h.1 (fun x hx => ih x hx (okL_mem h.2 x hx))
 refine pcl_body code46 ?_
 simp [Term.enc, termH] at hrun ⊢
 simp [hrun, Term.depthW]
theorem right_ok (v : Int) (fn : ByteArray) (cs : List D) (n : Nat) : pcl Cp 94 [.agg [.int .i64 v, .str fn, .sl cs n false none]] = some (.bool (rightB v fn n)) := by
 refine pcl_body code94 ?_
 simp
 repeat' ((try simp only [condP_ite]); split <;> (try simp only [holdE]) <;> (try simp [*, plc_raw]))
 all_goals (simp_all [rightB, noName])
 all_goals (first | omega | grind)
theorem index_loop (g : FuncId) (p : Term → Bool) (ts : List Term) (hn : ts.length ≤ 9223372036854775807) (hg : plc.raw g = false ∧ plc.weak g = false ∧ g < 1000000000) (hrec : ∀ x ∈ ts, pcl Cp g [.agg x.enc] = some (.bool (p x))) :
  ∃ e t, aloop Try.prog plc b101_0 ⟨[true, true, false, false, true, false, false, true, true, false, false, false, false, false, false, false, false, false, false], some 4⟩ ⟨[.d (.sl (encL ts) ts.length false none), .d (.fn g []), .junk, .junk, .d (.int .i64 0), .junk, .junk, .d (.int .i64 ts.length), .d (.int .i64 0), .junk, .junk, .junk, .junk, .junk, .junk, .junk, .junk, .junk, .junk], fun _ => none, 4⟩ = some (e, t) ∧
   (match fromI p ts 0 with | some k => AtRet 4 (.d (.int .i64 k)) e t | none => AtExit 0 [.d (.sl (encL ts) ts.length false none), .d (.fn g []), .junk, .junk, .d (.int .i64 0), .junk, .junk, .d (.int .i64 ts.length), .d (.int .i64 ts.length), .junk, .junk, .junk, .junk, .junk, .junk, .junk, .junk, .junk, .junk] (fun _ => none) e t) := by
 refine loop_rule (b := 4) (tm := fun (i : Nat) => [.d (.sl (encL ts) ts.length false none), .d (.fn g []), .junk, .junk, .d (.int .i64 0), .junk, .junk, .d (.int .i64 ts.length), .d (.int .i64 i), .junk, .junk, .junk, .junk, .junk, .junk, .junk, .junk, .junk, .junk]) (Hf := fun _ => fun _ => none)
  (I := fun i => i ≤ ts.length) (μ := fun i => ts.length - i) (res := fun i => fromI p ts i) (R := fun o e t => match o with | some k => AtRet 4 (.d (.int .i64 k)) e t | none => AtExit 0 [.d (.sl (encL ts) ts.length false none), .d (.fn g []), .junk, .junk, .d (.int .i64 0), .junk, .junk, .d (.int .i64 ts.length), .d (.int .i64 ts.length), .junk, .junk, .junk, .junk, .junk, .junk, .junk, .junk, .junk, .junk] (fun _ => none) e t)
  (fun i nx hi => ?_) 0 (Nat.zero_le _)
 rcases Nat.lt_or_ge i ts.length with hl | hl
 ·obtain ⟨v, fn, args, a⟩ := at_ok hn hl
  have hcall := hrec _ a.mem
  have hget : ts[i] = .mk v fn args := a.get
  simp [Term.enc] at hcall
  conv => arg 9; arg 4; unfold b101_0
  cases hp : p (.mk v fn args) <;> rw [hp] at hcall <;> simp [a.lti, a.sz, a.ltm, a.cells, a.le3, hg.1, hg.2.1, hg.2.2, -plc_weak, hcall, a.w]
  ·exact .next (i + 1) (by omega) rfl rfl hl (by omega) (by rw [fromI_step hl, hget, hp]; rfl)
  ·exact .fin _ _ (by rw [fromI_step hl, hget, hp]; exact ⟨rfl, rfl⟩)
 ·obtain rfl : i = ts.length := Nat.le_antisymm hi hl
  simp [b101_0]
  exact .fin _ _ (by rw [fromI_end]; exact .mk)
theorem index_ok {g : FuncId} {p : Term → Bool} {ts : List Term} (hn : ts.length ≤ 9223372036854775807) (hg : plc.raw g = false ∧ plc.weak g = false ∧ g < 1000000000) (hrec : ∀ x ∈ ts, pcl Cp g [.agg x.enc] = some (.bool (p x))) :
  pcl Cp 101 [.sl (encL ts) ts.length false none, .fn g []] = some (.int .i64 (match ts.findIdx? p with | some k => k | none => -1)) := by
 obtain ⟨e, t, h1, h2⟩ := index_loop g p ts hn hg hrec
 refine pcl_body code101 ?_
 simp [fromI_zero] at h1 h2
 simp [h1]
 revert h2
 cases ts.findIdx? p with
 | some k => rintro ⟨rfl, h⟩; simp [h]
 | none => rintro ⟨rfl, nx, rfl⟩; simp
theorem any_findIdx {α : Type} (p : α → Bool) (l : List α) : l.any p = (l.findIdx? p).isSome := by
 induction l with
 | nil => rfl
 | cons x l ih => rw [List.any_cons, List.findIdx?_cons, ih]; cases p x <;> simp
theorem contains_ok {g : FuncId} {p : Term → Bool} {ts : List Term} (hn : ts.length ≤ 9223372036854775807) (hg : plc.raw g = false ∧ plc.weak g = false ∧ g < 1000000000) (hrec : ∀ x ∈ ts, pcl Cp g [.agg x.enc] = some (.bool (p x))) :
  pcl Cp 95 [.sl (encL ts) ts.length false none, .fn g []] = some (.bool (ts.any p)) := by
 refine pcl_body code95 ?_
 have h := index_ok hn hg hrec
 rw [any_findIdx]
 cases hq : ts.findIdx? p <;> rw [hq] at h <;> simp [plc_raw, h]
theorem shapeBL_all : ∀ (ts : List Term), shapeBL ts = !ts.any (fun x => !x.shapeB)
 | [] => rfl
 | t :: r => by simp [shapeBL, shapeBL_all r]
theorem shaped_ok (t : Term) : t.ok → pcl Cp 76 [.agg t.enc] = some (.bool t.shapeB) := by
 refine Term.ind (p := fun t => t.ok → pcl Cp 76 [.agg t.enc] = some (.bool t.shapeB)) (fun v fn args ih h => ?_) t
 have hc := contains_ok (g := 96) (p := fun x => !x.shapeB) h.1 ⟨rfl, rfl, by decide⟩ (fun x hx => by
  have := ih x hx (okL_mem h.2 x hx)
  refine pcl_body code96 ?_
  obtain ⟨v, fn, a⟩ := x
  simp [Term.enc] at this
  simp [Term.enc, plc_raw, this])
 have hr := right_ok v fn (encL args) args.length
 refine pcl_body code76 ?_
 cases hb : rightB v fn args.length <;> rw [hb] at hr <;> simp [Term.enc, plc_raw, hr, hc, Term.shapeB, hb, shapeBL_all]
theorem rshape_loop (v0 : Int) (fn0 : ByteArray) (ts : List Term) (hn : ts.length ≤ 9223372036854775807) (hrec : ∀ x ∈ ts, pcl Cp 56 [.agg x.enc] = some (.bool x.shapeB)) :
  ∃ e t, aloop Try.prog plc b56_0 ⟨[false, true, true, true, false, false, false, false, false, false, false, false, false, false, false, false, false, false, false, false, false, false, false, false, false, false, false, false, false, false, false, false, false, false, false, false, false, false, false, false, false, false, false, false, false, false, false, false, false, false], some 21⟩ ⟨[.junk, .ptr (0, 0) 0 3, .d (.bool false), .d (.int .i64 0), .junk, .junk, .junk, .junk, .junk, .junk, .junk, .junk, .junk, .junk, .junk, .junk, .junk, .junk, .junk, .junk, .junk, .junk, .junk, .junk, .junk, .junk, .junk, .junk, .junk, .junk, .junk, .junk, .junk, .junk, .junk, .junk, .junk, .junk, .junk, .junk, .junk, .junk, .junk, .junk, .junk, .junk, .junk, .junk, .junk, .junk], termH v0 fn0 ts, 21⟩ = some (e, t) ∧
   (if shapeBL ts then AtExit 0 [.junk, .ptr (0, 0) 0 3, .d (.bool false), .d (.int .i64 ts.length), .junk, .junk, .junk, .junk, .junk, .junk, .junk, .junk, .junk, .junk, .junk, .junk, .junk, .junk, .junk, .junk, .junk, .junk, .junk, .junk, .junk, .junk, .junk, .junk, .junk, .junk, .junk, .junk, .junk, .junk, .junk, .junk, .junk, .junk, .junk, .junk, .junk, .junk, .junk, .junk, .junk, .junk, .junk, .junk, .junk, .junk] (termH v0 fn0 ts) e t else AtRet 2 (.d (.bool false)) e t) := by
 refine loop_rule (b := 21) (tm := fun (i : Nat) => [.junk, .ptr (0, 0) 0 3, .d (.bool false), .d (.int .i64 i), .junk, .junk, .junk, .junk, .junk, .junk, .junk, .junk, .junk, .junk, .junk, .junk, .junk, .junk, .junk, .junk, .junk, .junk, .junk, .junk, .junk, .junk, .junk, .junk, .junk, .junk, .junk, .junk, .junk, .junk, .junk, .junk, .junk, .junk, .junk, .junk, .junk, .junk, .junk, .junk, .junk, .junk, .junk, .junk, .junk, .junk]) (Hf := fun _ => termH v0 fn0 ts)
  (I := fun i => i ≤ ts.length) (μ := fun i => ts.length - i) (res := fun i => shapeBL (ts.drop i)) (R := fun b e t => if b then AtExit 0 [.junk, .ptr (0, 0) 0 3, .d (.bool false), .d (.int .i64 ts.length), .junk, .junk, .junk, .junk, .junk, .junk, .junk, .junk, .junk, .junk, .junk, .junk, .junk, .junk, .junk, .junk, .junk, .junk, .junk, .junk, .junk, .junk, .junk, .junk, .junk, .junk, .junk, .junk, .junk, .junk, .junk, .junk, .junk, .junk, .junk, .junk, .junk, .junk, .junk, .junk, .junk, .junk, .junk, .junk, .junk, .junk] (termH v0 fn0 ts) e t else AtRet 2 (.d (.bool false)) e t)
  (fun i nx hi => ?_) 0 (Nat.zero_le _)
 rcases Nat.lt_or_ge i ts.length with hl | hl
 ·obtain ⟨v, fn, args, a⟩ := at_ok hn hl
  have hcall := hrec _ a.mem
  simp [Term.enc] at hcall
  conv => arg 9; arg 4; unfold b56_0
  cases hp : (Term.mk v fn args).shapeB <;> rw [hp] at hcall <;> simp [a.lti, a.sz, a.ltm, a.cells, a.le3, plc_raw, hcall, a.w, termH]
  ·exact .fin _ _ (by simp only [a.dr, shapeBL, hp]; exact ⟨rfl, rfl⟩)
  ·exact .next (i + 1) (by omega) rfl rfl hl (by omega) (by simp [a.dr, shapeBL, hp])
 ·obtain rfl : i = ts.length := Nat.le_antisymm hi hl
  simp [b56_0, termH]
  exact .fin _ _ (by simp [shapeBL, termH]; exact .mk)
theorem rshape_ok (t : Term) : t.ok → pcl Cp 56 [.agg t.enc] = some (.bool t.shapeB) := by
 refine Term.ind (p := fun t => t.ok → pcl Cp 56 [.agg t.enc] = some (.bool t.shapeB)) (fun v fn args ih h => ?_) t
 refine pcl_body code56 ?_
 obtain ⟨e, t, hrun, hR⟩ := rshape_loop v fn args h.1 (fun x hx => ih x hx (okL_mem h.2 x hx))
 simp [Term.enc, termH] at hrun ⊢
 have hz : args.length = 0 → args = [] := List.eq_nil_of_length_eq_zero
 cases hs : shapeBL args <;> simp only [hs, if_true, Bool.false_eq_true, if_false] at hR
 ·obtain ⟨rfl, hv⟩ := hR
  have hne : args ≠ [] := by rintro rfl; simp [shapeBL] at hs
  repeat' ((try simp only [condP_ite]); split <;> (try simp only [holdE]) <;> (try simp [*, plc_raw]))
  all_goals (simp_all [Term.shapeB, rightB, noName, shapeBL])
  all_goals (clear hrun ih; first | omega | grind)
 ·obtain ⟨rfl, nx, rfl⟩ := hR
  repeat' ((try simp only [condP_ite]); split <;> (try simp only [holdE]) <;> (try simp [*, plc_raw]))
  all_goals (simp_all [Term.shapeB, rightB, noName, shapeBL])
  all_goals (clear hrun ih; first | omega | grind)
theorem equal_loop (g : FuncId) (p : Term → Term → Bool) (hg : plc.raw g = false ∧ plc.weak g = false ∧ g < 1000000000) (ts us : List Term) (hn : ts.length ≤ 9223372036854775807) (hlen : us.length = ts.length) (hrec : ∀ x ∈ ts, ∀ y ∈ us, pcl Cp g [.agg x.enc, .agg y.enc] = some (.bool (p x y))) :
  ∃ e t, aloop Try.prog plc b55_0 ⟨[false, true, true, false, false, false, true, false, false, false, false, false, false, false, false, true, true, true, false, false, false, false, false, false, false, false, false, false, false, false, false, false], some 9⟩ ⟨[.junk, .d (.sl (encL us) us.length false none), .d (.fn g []), .junk, .junk, .junk, .d (.bool false), .junk, .junk, .junk, .junk, .junk, .junk, .junk, .junk, .d (.sl (encL ts) us.length false none), .d (.int .i64 us.length), .d (.int .i64 0), .junk, .junk, .junk, .junk, .junk, .junk, .junk, .junk, .junk, .junk, .junk, .junk, .junk, .junk], fun _ => none, 9⟩ = some (e, t) ∧
   (if all2 p ts us then AtExit 0 [.junk, .d (.sl (encL us) us.length false none), .d (.fn g []), .junk, .junk, .junk, .d (.bool false), .junk, .junk, .junk, .junk, .junk, .junk, .junk, .junk, .d (.sl (encL ts) us.length false none), .d (.int .i64 us.length), .d (.int .i64 ts.length), .junk, .junk, .junk, .junk, .junk, .junk, .junk, .junk, .junk, .junk, .junk, .junk, .junk, .junk] (fun _ => none) e t else AtRet 6 (.d (.bool false)) e t) := by
 refine loop_rule (b := 9) (tm := fun (i : Nat) => [.junk, .d (.sl (encL us) us.length false none), .d (.fn g []), .junk, .junk, .junk, .d (.bool false), .junk, .junk, .junk, .junk, .junk, .junk, .junk, .junk, .d (.sl (encL ts) us.length false none), .d (.int .i64 us.length), .d (.int .i64 i), .junk, .junk, .junk, .junk, .junk, .junk, .junk, .junk, .junk, .junk, .junk, .junk, .junk, .junk]) (Hf := fun _ => fun _ => none)
  (I := fun i => i ≤ ts.length) (μ := fun i => ts.length - i) (res := fun i => all2 p (ts.drop i) (us.drop i)) (R := fun b e t => if b then AtExit 0 [.junk, .d (.sl (encL us) us.length false none), .d (.fn g []), .junk, .junk, .junk, .d (.bool false), .junk, .junk, .junk, .junk, .junk, .junk, .junk, .junk, .d (.sl (encL ts) us.length false none), .d (.int .i64 us.length), .d (.int .i64 ts.length), .junk, .junk, .junk, .junk, .junk, .junk, .junk, .junk, .junk, .junk, .junk, .junk, .junk, .junk] (fun _ => none) e t else AtRet 6 (.d (.bool false)) e t)
  (fun i nx hi => ?_) 0 (Nat.zero_le _)
 rcases Nat.lt_or_ge i ts.length with hl | hl
 ·obtain ⟨v, fn, args, a⟩ := at_ok hn hl
  obtain ⟨v2, fn2, args2, b⟩ := at_ok (ts := us) (by omega) (i := i) (by omega)
  have hcall := hrec _ a.mem _ b.mem
  simp [Term.enc] at hcall
  have asz := a.sz
  have altm := a.ltm
  have ale3 := a.le3
  have alti := a.lti
  rw [← hlen] at asz altm ale3 alti
  conv => arg 9; arg 4; unfold b55_0
  cases hp : p (.mk v fn args) (.mk v2 fn2 args2) <;> rw [hp] at hcall <;> simp [alti, asz, altm, a.cells, ale3, b.cells, b.sz, b.ltm, b.le3, hg.1, hg.2.1, hg.2.2, -plc_weak, hcall, a.w]
  ·exact .fin _ _ (by simp only [a.dr, b.dr, all2, hp]; exact ⟨rfl, rfl⟩)
  ·exact .next (i + 1) (by omega) rfl rfl hl (by omega) (by simp [a.dr, b.dr, all2, hp])
 ·obtain rfl : i = ts.length := Nat.le_antisymm hi hl
  simp [b55_0, hlen]
  exact .fin _ _ (by simp [all2, hlen]; exact .mk)
theorem equal_ok {g : FuncId} {p : Term → Term → Bool} (hg : plc.raw g = false ∧ plc.weak g = false ∧ g < 1000000000) {ts us : List Term} (hn : ts.length ≤ 9223372036854775807) (hrec : ∀ x ∈ ts, ∀ y ∈ us, pcl Cp g [.agg x.enc, .agg y.enc] = some (.bool (p x y))) :
  pcl Cp 55 [.sl (encL ts) ts.length false none, .sl (encL us) us.length false none, .fn g []] = some (.bool (decide (ts.length = us.length) && all2 p ts us)) := by
 refine pcl_body code55 ?_
 by_cases hl : ts.length = us.length
 ·obtain ⟨e, t, hrun, hR⟩ := equal_loop g p hg ts us hn hl.symm hrec
  try simp at hrun
  simp [hl, hrun]
  cases hs : all2 p ts us <;> simp only [hs, if_true, Bool.false_eq_true, if_false] at hR
  ·obtain ⟨rfl, hv⟩ := hR; simp [hv]
  ·obtain ⟨rfl, nx, rfl⟩ := hR; simp
 ·have : ¬ ((ts.length : Int) = (us.length : Int)) := by omega
  simp [hl, this]
theorem same_ok (t : Term) : t.ok → ∀ u : Term, u.ok → pcl Cp 24 [.agg t.enc, .agg u.enc] = some (.bool (t.sameB u)) := by
 refine Term.ind (p := fun t => t.ok → ∀ u : Term, u.ok → pcl Cp 24 [.agg t.enc, .agg u.enc] = some (.bool (t.sameB u))) (fun v fn args ih h => ?_) t
 intro u hu
 obtain ⟨v2, fn2, args2⟩ := u
 have he := equal_ok (g := 24) (p := Term.sameB) ⟨rfl, rfl, by decide⟩ (ts := args) (us := args2) h.1 (fun x hx y hy => ih x hx (okL_mem h.2 x hx) y (okL_mem hu.2 y hy))
 refine pcl_body code24 ?_
 simp [Term.enc, plc_raw, he]
 repeat' ((try simp only [condP_ite]); split <;> (try simp only [holdE]) <;> (try simp [*, plc_raw]))
 all_goals (simp_all [Term.sameB, sameBL_all2])
def termH2 (v : Int) (fn : ByteArray) (args : List Term) (v2 : Int) (fn2 : ByteArray) (args2 : List Term) : Hp :=
 upd (upd (fun _ => none) (0, 0) (.cells [.d (.int .i64 v), .d (.str fn), .d (.sl (encL args) args.length false none)])) (1, 0) (.cells [.d (.int .i64 v2), .d (.str fn2), .d (.sl (encL args2) args2.length false none)])
theorem rsame_loop (v0 : Int) (fn0 : ByteArray) (v00 : Int) (fn00 : ByteArray) (ts us : List Term) (hn : ts.length ≤ 9223372036854775807) (hlen : us.length = ts.length) (hrec : ∀ x ∈ ts, ∀ y ∈ us, pcl Cp 22 [.agg x.enc, .agg y.enc] = some (.bool (x.sameB y))) :
  ∃ e t, aloop Try.prog plc b22_0 ⟨[false, false, true, true, true, true, false, false, false, false, false, false, false, false, false, false, false, false, false, false, false, false, false, false, false, false, false, false, false, false, false, false, false, false, false, false, false, false, false, false, false, false, false, false, false, false], some 25⟩ ⟨[.junk, .junk, .ptr (0, 0) 0 3, .ptr (1, 0) 0 3, .d (.bool false), .d (.int .i64 0), .junk, .junk, .junk, .junk, .junk, .junk, .junk, .junk, .junk, .junk, .junk, .junk, .junk, .junk, .junk, .junk, .junk, .junk, .junk, .junk, .junk, .junk, .junk, .junk, .junk, .junk, .junk, .junk, .junk, .junk, .junk, .junk, .junk, .junk, .junk, .junk, .junk, .junk, .junk, .junk], termH2 v0 fn0 ts v00 fn00 us, 25⟩ = some (e, t) ∧
   (if sameBL ts us then AtExit 0 [.junk, .junk, .ptr (0, 0) 0 3, .ptr (1, 0) 0 3, .d (.bool false), .d (.int .i64 ts.length), .junk, .junk, .junk, .junk, .junk, .junk, .junk, .junk, .junk, .junk, .junk, .junk, .junk, .junk, .junk, .junk, .junk, .junk, .junk, .junk, .junk, .junk, .junk, .junk, .junk, .junk, .junk, .junk, .junk, .junk, .junk, .junk, .junk, .junk, .junk, .junk, .junk, .junk, .junk, .junk] (termH2 v0 fn0 ts v00 fn00 us) e t else AtRet 4 (.d (.bool false)) e t) := by
 refine loop_rule (b := 25) (tm := fun (i : Nat) => [.junk, .junk, .ptr (0, 0) 0 3, .ptr (1, 0) 0 3, .d (.bool false), .d (.int .i64 i), .junk, .junk, .junk, .junk, .junk, .junk, .junk, .junk, .junk, .junk, .junk, .junk, .junk, .junk, .junk, .junk, .junk, .junk, .junk, .junk, .junk, .junk, .junk, .junk, .junk, .junk, .junk, .junk, .junk, .junk, .junk, .junk, .junk, .junk, .junk, .junk, .junk, .junk, .junk, .junk]) (Hf := fun _ => termH2 v0 fn0 ts v00 fn00 us)
  (I := fun i => i ≤ ts.length) (μ := fun i => ts.length - i) (res := fun i => sameBL (ts.drop i) (us.drop i)) (R := fun b e t => if b then AtExit 0 [.junk, .junk, .ptr (0, 0) 0 3, .ptr (1, 0) 0 3, .d (.bool false), .d (.int .i64 ts.length), .junk, .junk, .junk, .junk, .junk, .junk, .junk, .junk, .junk, .junk, .junk, .junk, .junk, .junk, .junk, .junk, .junk, .junk, .junk, .junk, .junk, .junk, .junk, .junk, .junk, .junk, .junk, .junk, .junk, .junk, .junk, .junk, .junk, .junk, .junk, .junk, .junk, .junk, .junk, .junk] (termH2 v0 fn0 ts v00 fn00 us) e t else AtRet 4 (.d (.bool false)) e t)
  (fun i nx hi => ?_) 0 (Nat.zero_le _)
 rcases Nat.lt_or_ge i ts.length with hl | hl
 ·obtain ⟨v, fn, args, a⟩ := at_ok hn hl
  obtain ⟨v2, fn2, args2, b⟩ := at_ok (ts := us) (by omega) (i := i) (by omega)
  have hcall := hrec _ a.mem _ b.mem
  simp [Term.enc] at hcall
  have bsz := b.sz
  have bltm := b.ltm
  have ble3 := b.le3
  rw [hlen] at bsz bltm ble3
  conv => arg 9; arg 4; unfold b22_0
  cases hp : (Term.mk v fn args).sameB (.mk v2 fn2 args2) <;> rw [hp] at hcall <;> simp [a.lti, a.sz, a.ltm, a.cells, a.le3, b.cells, bsz, bltm, ble3, hlen, plc_raw, hcall, a.w, termH2]
  ·exact .fin _ _ (by simp only [a.dr, b.dr, sameBL, hp]; exact ⟨rfl, rfl⟩)
  ·exact .next (i + 1) (by simp) (by simp) (by simp [termH2, hlen]) hl (by omega) (by simp [a.dr, b.dr, sameBL, hp])
 ·obtain rfl : i = ts.length := Nat.le_antisymm hi hl
  simp [b22_0, termH2, hlen]
  exact .fin _ _ (by simp [sameBL, termH2, hlen]; exact .mk)
theorem rsame_ok (t : Term) : t.ok → ∀ u : Term, u.ok → pcl Cp 22 [.agg t.enc, .agg u.enc] = some (.bool (t.sameB u)) := by
 refine Term.ind (p := fun t => t.ok → ∀ u : Term, u.ok → pcl Cp 22 [.agg t.enc, .agg u.enc] = some (.bool (t.sameB u))) (fun v fn args ih h => ?_) t
 intro u hu
 obtain ⟨v2, fn2, args2⟩ := u
 refine pcl_body code22 ?_
 by_cases h3 : args.length = args2.length
 ·obtain ⟨e, t, hrun, hR⟩ := rsame_loop v fn v2 fn2 args args2 h.1 h3.symm (fun x hx y hy => ih x hx (okL_mem h.2 x hx) y (okL_mem hu.2 y hy))
  simp [Term.enc, termH2, h3] at hrun ⊢
  cases hs : sameBL args args2 <;> simp only [hs, if_true, Bool.false_eq_true, if_false] at hR
  ·obtain ⟨rfl, hv⟩ := hR
   repeat' ((try simp only [condP_ite]); split <;> (try simp only [holdE]) <;> (try simp [*, plc_raw]))
   all_goals (simp_all [Term.sameB])
  ·obtain ⟨rfl, nx, rfl⟩ := hR
   repeat' ((try simp only [condP_ite]); split <;> (try simp only [holdE]) <;> (try simp [*, plc_raw]))
   all_goals (simp_all [Term.sameB])
 ·have h3' : ¬ ((args.length : Int) = (args2.length : Int)) := by omega
  simp [Term.enc, h3, h3']
  repeat' ((try simp only [condP_ite]); split <;> (try simp only [holdE]) <;> (try simp [*, plc_raw]))
  all_goals (simp_all [Term.sameB])
theorem tright_ok (t : Term) (h : t.ok) : pcl Cp 47 [.agg t.enc] = some (.int .i64 t.rightE) := by
 have h1 := shaped_ok t h
 have h2 := depth_ok t h
 have h3 := size_ok t h
 refine pcl_body code47 ?_
 unfold Term.rightE
 generalize hs : t.shapeB = b at h1
 generalize hd : t.depthW = d at h2
 generalize hz : t.sizeW = z at h3
 obtain ⟨v, fn, args⟩ := t
 simp [Term.enc] at h1 h2 h3 ⊢
 simp [plc_raw, h1, h2, h3]
 repeat' ((try simp only [condP_ite]); split <;> (try simp only [holdE]) <;> (try simp [*, plc_raw]))
 all_goals (simp_all)
theorem rright_ok (t : Term) (h : t.ok) : pcl Cp 25 [.agg t.enc] = some (.int .i64 t.rightE) := by
 have h1 := rshape_ok t h
 have h2 := rdepth_ok t h
 have h3 := rsize_ok t h
 refine pcl_body code25 ?_
 unfold Term.rightE
 generalize hs : t.shapeB = b at h1
 generalize hd : t.depthW = d at h2
 generalize hz : t.sizeW = z at h3
 obtain ⟨v, fn, args⟩ := t
 simp [Term.enc] at h1 h2 h3 ⊢
 simp [plc_raw, h1, h2, h3]
 repeat' ((try simp only [condP_ite]); split <;> (try simp only [holdE]) <;> (try simp [*, plc_raw]))
 all_goals (simp_all)
end Go.Proofs.Ytiafeijkifpfaaa.Am

/-
 Rows that grow: appending. No condition.
-/
namespace Go.Proofs.Ytiafeijkifpfaaa.Am
open Go Go.Proofs
set_option maxHeartbeats 4000000
set_option linter.unusedSimpArgs false
def rowI (l : List Int) : Am.Obj := if l = [] then .vnil else .grow ((encI l).map .d)
theorem rowI_isRow (l : List Int) : (rowI l).isRow = true := by unfold rowI; split <;> rfl
theorem rowI_len (l : List Int) : (rowI l).cs.length = l.length := by unfold rowI; split <;> simp [Obj.cs, *]
theorem rowI_nil : rowI [] = .vnil := rfl
theorem growO_rowI (H : Hp) (o : Oid) (l : List Int) (n : Int) :
  growO H o (rowI l) 0 l.length 1 l.length 1 1 [.int .i64 n] = some (.osl o 0 (l.length + 1) 1 (l.length + 1), upd H o (rowI (l ++ [n]))) := by
 unfold rowI
 cases l with
 | nil => simp [growO, encI]
 | cons x r =>
  have h : ¬ (r.length + 1 ≤ r.length) := by omega
  simp [growO, encI, h]
  rw [List.take_of_length_le (by simp)]
theorem append_rowI {H : Hp} {id : Nat} {o o2 : Oid} {l : List Int} {x : Int} (h : H o = some (rowI l)) (h2 : H o2 = some (.cells [.d (.int .i64 x)])) (hl : l.length ≤ 68719476735) :
  appendO Try.prog H id 50 50 (.osl o 0 l.length 1 l.length) (.osl o2 0 1 1 1) = some (.osl o 0 (l.length + 1) 1 (l.length + 1), upd H o (rowI (l ++ [x]))) := by
 have h3 : l.length ≤ 68719476736 := by omega
 have h4 : ([D.int .i64 x] : List D).length ≤ 68719476736 := by simp
 simp [appendO, srcCells, srcRaw, h, h2, rowI_isRow, rowI_len, growO_rowI, h3, kill, -Obj.isRow, -Obj.cs]
 simp [Obj.isRow, Obj.cs]
 exact growO_rowI H o l x
theorem mapD_encI (H : Hp) (n : Nat) : ∀ (l : List Int), mapD (reify H n) ((encI l).map .d) = some (encI l, [])
 | [] => rfl
 | x :: r => by
  have h := mapD_encI H n r
  simp only [encI, List.map_cons] at h ⊢
  rw [mapD, h]
  cases n <;> simp [reify]
theorem mapD_encI2 (H : Hp) (n : Nat) (l : List Int) : mapD (reify H n) (List.map (AV.d ∘ D.int .i64) l) = some (encI l, []) := by
 have := mapD_encI H n l
 simpa [encI] using this
theorem reify_rowI {H : Hp} {o : Oid} {l : List Int} (h : H o = some (rowI l)) (n : Nat) : (reify H (n + 1) (.osl o 0 l.length 1 l.length)).map (·.1) = some (.sl (encI l) l.length false (some (decide (l = [])))) := by
 cases l with
 | nil => simp [reify, h, rowI, Obj.isRow, Obj.cs, nlOf, mapD, encI]
 | cons x r =>
  have := mapD_encI2 H n r
  have hx : reify H n (.d (.int .i64 x)) = some (.int .i64 x, []) := by cases n <;> rfl
  simp [reify, h, rowI, Obj.isRow, Obj.cs, nlOf, mapD, encI, this, hx]
  rw [List.take_of_length_le (by simp), this]
  simp [encI]
end Go.Proofs.Ytiafeijkifpfaaa.Am

/-
 The law of what substitutions keep: its loops. No condition.
-/
namespace Go.Proofs.Ytiafeijkifpfaaa.Am
open Go Go.Proofs
set_option maxHeartbeats 4000000
set_option maxRecDepth 20000
set_option linter.unusedSimpArgs false
set_option linter.unusedVariables false
abbrev kpH (v : Int) (fn : ByteArray) (args : List Term) : Hp := upd (fun _ => none) (0, 0) (.cells [.d (.int .i64 v), .d (.str fn), .d (.sl (encL args) args.length false none)])
abbrev kIn (bs : List Bd) (z : Int) (l : List Int) (nl : Option Bool) (tch : Bool) (i k : Nat) : List AV := [.d (.sl (encB bs) bs.length false none), .junk, .d (.int .i64 z), .junk, .ptr (0, 0) 0 3, .junk, .d (.bool false), .d (.sl (encI l) l.length false nl), .d (.bool tch), .d (.int .i64 i), .d (.int .i64 k), .junk, .junk, .junk, .junk, .junk, .junk, .junk, .junk, .junk, .junk, .junk, .junk, .junk, .junk, .junk, .junk, .junk, .junk, .junk, .junk, .junk, .junk, .junk, .junk, .junk, .junk, .junk, .junk, .junk, .junk, .junk, .junk, .junk, .junk, .junk, .junk, .junk, .junk, .junk, .junk, .junk, .junk, .junk, .junk, .junk, .junk, .junk, .junk, .junk, .junk, .junk, .junk, .junk, .junk, .junk, .junk, .junk, .junk, .junk, .junk, .junk, .junk, .junk, .junk, .junk, .junk, .junk, .junk, .junk, .junk, .junk, .junk, .junk, .junk, .junk, .junk, .junk, .junk, .junk, .junk, .junk, .junk, .junk, .junk, .junk, .junk, .junk, .junk, .junk, .junk, .junk, .junk, .junk, .junk, .junk, .junk, .junk, .junk, .junk, .junk, .junk, .junk, .junk]
abbrev kOut (bs : List Bd) (z : Int) (l : List Int) (nl : Option Bool) (tch : Bool) (i : Nat) : List AV := [.d (.sl (encB bs) bs.length false none), .junk, .d (.int .i64 z), .junk, .ptr (0, 0) 0 3, .junk, .d (.bool false), .d (.sl (encI l) l.length false nl), .d (.bool tch), .d (.int .i64 i), .junk, .junk, .junk, .junk, .junk, .junk, .junk, .junk, .junk, .junk, .junk, .junk, .junk, .junk, .junk, .junk, .junk, .junk, .junk, .junk, .junk, .junk, .junk, .junk, .junk, .junk, .junk, .junk, .junk, .junk, .junk, .junk, .junk, .junk, .junk, .junk, .junk, .junk, .junk, .junk, .junk, .junk, .junk, .junk, .junk, .junk, .junk, .junk, .junk, .junk, .junk, .junk, .junk, .junk, .junk, .junk, .junk, .junk, .junk, .junk, .junk, .junk, .junk, .junk, .junk, .junk, .junk, .junk, .junk, .junk, .junk, .junk, .junk, .junk, .junk, .junk, .junk, .junk, .junk, .junk, .junk, .junk, .junk, .junk, .junk, .junk, .junk, .junk, .junk, .junk, .junk, .junk, .junk, .junk, .junk, .junk, .junk, .junk, .junk, .junk, .junk, .junk, .junk, .junk]
def KinEnd (bs : List Bd) (z : Int) (l : List Int) (nl : Option Bool) (i : Nat) (v : Int) (fn : ByteArray) (args : List Term) (b : Nat) (r : Bool) (e : Ex) (t : St) : Prop := e = .exit 2 ∧ ∃ nx, b ≤ nx ∧ t = ⟨kIn bs z l nl r i bs.length, kpH v fn args, nx⟩
theorem keeps_in (bs : List Bd) (hb : okB bs) (z : Int) (l : List Int) (nl : Option Bool) (i : Nat) (hi : i < l.length) (v : Int) (fn : ByteArray) (args : List Term) (tch : Bool) (b : Nat) (hb0 : 0 < b) :
  ∃ e st, aloop Try.prog plc b11_0 ⟨[true, false, true, false, true, false, true, true, true, true, true, true, true, true, true, true, true, false, false, false, false, false, false, false, false, false, false, false, false, false, false, false, false, false, false, false, false, false, true, true, false, false, false, false, false, false, false, false, false, false, false, false, false, false, false, false, false, false, false, true, true, true, true, true, true, true, true, true, true, true, true, true, true, true, true, true, true, true, true, true, true, true, true, true, true, true, true, true, true, true, true, true, true, true, true, true, true, true, true, true, true, true, true, true, true, true, true, true, true, true, true, true, true, true], some b⟩ ⟨kIn bs z l nl tch i 0, kpH v fn args, b⟩ = some (e, st) ∧ KinEnd bs z l nl i v fn args b (tch || bs.any fun x => decide (x.v = l[i])) e st := by
 have key := loop_rule (P := Try.prog) (pol := plc) (c := b11_0) (m := ⟨[true, false, true, false, true, false, true, true, true, true, true, true, true, true, true, true, true, false, false, false, false, false, false, false, false, false, false, false, false, false, false, false, false, false, false, false, false, false, true, true, false, false, false, false, false, false, false, false, false, false, false, false, false, false, false, false, false, false, false, true, true, true, true, true, true, true, true, true, true, true, true, true, true, true, true, true, true, true, true, true, true, true, true, true, true, true, true, true, true, true, true, true, true, true, true, true, true, true, true, true, true, true, true, true, true, true, true, true, true, true, true, true, true, true], some b⟩)
  (b := b) (tm := fun (s : Nat × Bool) => kIn bs z l nl s.2 i s.1) (Hf := fun _ => kpH v fn args)
  (I := fun s => s.1 ≤ bs.length) (μ := fun s => bs.length - s.1) (res := fun s => s.2 || (bs.drop s.1).any fun x => decide (x.v = l[i])) (R := KinEnd bs z l nl i v fn args b)
  (fun s nx hk => by
   obtain ⟨k, tc⟩ := s
   simp only at hk ⊢
   have hil : (i : Int) < (l.length : Int) := by omega
   rcases Nat.lt_or_ge k bs.length with hl | hl
   ·obtain ⟨x, v', fn', args', a⟩ := atB_ok hb.1 hl
    have hdr := a.dr
    conv => arg 9; arg 4; unfold b11_0
    cases tc
    ·by_cases hx : x = l[i]
     ·simp [a.lti, a.sz, a.ltm, a.e0, a.c0, a.le1, a.le4, a.cells, plc_raw, a.w, hi, hil, hx, hb0]
      refine .next (k + 1, true) (by omega) (by simp) rfl hl (by simp only; omega) (by simp only [hdr, List.any_cons, hx]; simp)
     ·simp [a.lti, a.sz, a.ltm, a.e0, a.c0, a.le1, a.le4, a.cells, plc_raw, a.w, hi, hil, hx, hb0]
      refine .next (k + 1, false) (by omega) (by simp) rfl hl (by simp only; omega) (by simp only [hdr, List.any_cons, hx]; simp)
    ·simp [a.lti, a.sz, a.ltm, a.e0, a.c0, a.le1, a.le4, a.cells, plc_raw, a.w, hi, hil, hb0]
     refine .next (k + 1, true) (by omega) (by simp) rfl hl (by simp only; omega) (by simp only [Bool.true_or])
   ·obtain rfl : k = bs.length := Nat.le_antisymm hk hl
    simp [b11_0, hb0]
    refine .fin _ _ ?_
    simp only [List.drop_length, List.any_nil, Bool.or_false]
    exact ⟨rfl, _, by omega, rfl⟩) (0, tch) (Nat.zero_le _)
 simpa using key
def KoutEnd (bs : List Bd) (z : Int) (l : List Int) (nl : Option Bool) (v : Int) (fn : ByteArray) (args : List Term) (r : Bool) (e : Ex) (t : St) : Prop := AtExit 0 (kOut bs z l nl r l.length) (kpH v fn args) e t
theorem keeps_out (bs : List Bd) (hb : okB bs) (z : Int) (l : List Int) (nl : Option Bool) (hl : l.length ≤ 1048576) (v : Int) (fn : ByteArray) (args : List Term) (b : Nat) (hb0 : 0 < b) :
  ∃ e st, aloop Try.prog plc b11_1 ⟨[true, false, true, false, true, false, true, true, true, true, false, true, true, true, true, true, true, false, false, false, false, false, false, false, false, false, false, false, false, false, false, false, false, false, false, false, false, false, false, false, false, false, false, false, false, false, false, false, false, false, false, false, false, false, false, false, false, false, false, true, true, true, true, true, true, true, true, true, true, true, true, true, true, true, true, true, true, true, true, true, true, true, true, true, true, true, true, true, true, true, true, true, true, true, true, true, true, true, true, true, true, true, true, true, true, true, true, true, true, true, true, true, true, true], some b⟩ ⟨kOut bs z l nl false 0, kpH v fn args, b⟩ = some (e, st) ∧ KoutEnd bs z l nl v fn args (l.any fun y => bs.any fun x => decide (x.v = y)) e st := by
 have key := loop_rule (P := Try.prog) (pol := plc) (c := b11_1) (m := ⟨[true, false, true, false, true, false, true, true, true, true, false, true, true, true, true, true, true, false, false, false, false, false, false, false, false, false, false, false, false, false, false, false, false, false, false, false, false, false, false, false, false, false, false, false, false, false, false, false, false, false, false, false, false, false, false, false, false, false, false, true, true, true, true, true, true, true, true, true, true, true, true, true, true, true, true, true, true, true, true, true, true, true, true, true, true, true, true, true, true, true, true, true, true, true, true, true, true, true, true, true, true, true, true, true, true, true, true, true, true, true, true, true, true, true], some b⟩)
  (b := b) (tm := fun (s : Nat × Bool) => kOut bs z l nl s.2 s.1) (Hf := fun _ => kpH v fn args)
  (I := fun s => s.1 ≤ l.length) (μ := fun s => l.length - s.1) (res := fun s => s.2 || (l.drop s.1).any fun y => bs.any fun x => decide (x.v = y)) (R := KoutEnd bs z l nl v fn args)
  (fun s nx hk => by
   obtain ⟨i, tc⟩ := s
   simp only at hk ⊢
   rcases Nat.lt_or_ge i l.length with hi | hi
   ·have hil : (i : Int) < (l.length : Int) := by omega
    have hw : IntKind.i64.wrap ((i : Int) + 1) = (i : Int) + 1 := wrap_i64 (by omega) (by omega)
    have hdr := List.drop_eq_getElem_cons hi
    obtain ⟨e, st, hrun, rfl, nx2, hnx2, rfl⟩ := keeps_in bs hb z l nl i hi v fn args tc (nx + (b + 5)) (by omega)
    generalize hr : (tc || bs.any fun x => decide (x.v = l[i])) = r at hrun
    simp [kIn] at hrun
    conv => arg 9; arg 4; unfold b11_1
    simp [plc_raw, hi, hil, hw, hb0, hrun, Nat.add_assoc]
    refine .next (i + 1, r) (by omega) (by simp) rfl hi (by simp only; omega) ?_
    simp only [hdr, List.any_cons, ← hr, Bool.or_assoc]
   ·obtain rfl : i = l.length := Nat.le_antisymm hk hi
    simp [b11_1, hb0]
    refine .fin _ _ ?_
    simp only [List.drop_length, List.any_nil, Bool.or_false]
    exact .mk) (0, false) (Nat.zero_le _)
 simpa using key
end Go.Proofs.Ytiafeijkifpfaaa.Am

/-
 Substitutions as mathematics: rising binds, what is found among them, shapes. No condition.
-/
namespace Go.Proofs.Ytiafeijkifpfaaa.Am
open Go Go.Proofs
set_option linter.unusedSimpArgs false
set_option linter.unusedVariables false
theorem isOk_sorted : ∀ (l : List Bd) (prev : Option Int), isOk prev l = true → (∀ b ∈ l, ∀ p, prev = some p → p < b.v) ∧ l.Pairwise (fun a b => a.v < b.v) ∧ ∀ b ∈ l, b.t.rightE = 0
 | [], _, _ => by simp
 | b :: r, prev, h => by
  simp only [isOk, Bool.and_eq_true, Bool.not_eq_true'] at h
  have ih := isOk_sorted r (some b.v) h.2
  have hb := h.1
  simp only [Bd.badR, Bool.or_eq_false_iff, decide_eq_false_iff_not] at hb
  have hlt : ∀ p, prev = some p → p < b.v := fun p hp => by
   subst hp
   have := hb.1.1.2
   simp [prevB] at this
   omega
  refine ⟨fun x hx p hp => ?_, List.pairwise_cons.2 ⟨fun x hx => ih.1 x hx b.v rfl, ih.2.1⟩, fun x hx => ?_⟩
  ·rcases List.mem_cons.1 hx with rfl | hx
   ·exact hlt p hp
   ·have h1 := ih.1 x hx b.v rfl
    have h2 := hlt p hp
    omega
  ·rcases List.mem_cons.1 hx with rfl | hx
   ·have := hb.1.2; simpa using this
   ·exact ih.2.2 x hx
def lowB (bs : List Bd) (x : Int) : Nat := bs.countP fun b => decide (b.v < x)
theorem lowB_le (bs : List Bd) (x : Int) : lowB bs x ≤ bs.length := List.countP_le_length
theorem lowB_iff (x : Int) : ∀ (bs : List Bd), bs.Pairwise (fun a b => a.v < b.v) → ∀ (k : Nat) (b : Bd), bs[k]? = some b → (b.v < x ↔ k < lowB bs x)
 | [], _, k, b, h => by simp at h
 | c :: r, hp, k, b, h => by
  rw [List.pairwise_cons] at hp
  have ih := lowB_iff x r hp.2
  have hz : ¬ c.v < x → lowB r x = 0 := fun hc => by
   unfold lowB
   rw [List.countP_eq_zero]
   intro y hy
   have := hp.1 y hy
   simp; omega
  cases k with
  | zero =>
   simp at h; subst h
   unfold lowB at hz ⊢
   rw [List.countP_cons]
   by_cases hc : c.v < x
   ·simp [hc]
   ·simp [hc, hz hc]
  | succ k =>
   simp at h
   have := ih k b h
   unfold lowB at this hz ⊢
   rw [List.countP_cons]
   by_cases hc : c.v < x
   ·simp [hc]; exact this
   ·rw [this, hz hc]; simp [hc]
def foundB (bs : List Bd) (x : Int) : Bool := match bs[lowB bs x]? with | some b => decide (b.v = x) | none => false
theorem ofS_low {bs : List Bd} (hp : bs.Pairwise (fun a b => a.v < b.v)) (x : Int) : ofS bs x = match bs[lowB bs x]? with | some b => if b.v = x then b.t else .mk x (ByteArray.mk #[]) [] | none => .mk x (ByteArray.mk #[]) [] := by
 unfold ofS
 have hany : ∀ k b, bs[k]? = some b → b.v = x → k = lowB bs x := fun k b hk hb => by
  have h1 := lowB_iff x bs hp k b hk
  have h2 : ¬ k < lowB bs x := fun h => by have := h1.2 h; omega
  rcases Nat.lt_or_ge (lowB bs x) k with h3 | h3
  ·exfalso
   have hlt : lowB bs x < bs.length := by have := (List.getElem?_eq_some_iff.1 hk).1; omega
   obtain ⟨c, hc⟩ : ∃ c, bs[lowB bs x]? = some c := ⟨_, List.getElem?_eq_getElem hlt⟩
   have h4 : ¬ c.v < x := fun h => by have := (lowB_iff x bs hp _ c hc).1 h; omega
   have h5 : c.v < b.v := by
    have e1 := (List.getElem?_eq_some_iff.1 hc).2
    have e2 := (List.getElem?_eq_some_iff.1 hk).2
    rw [← e1, ← e2]
    exact List.pairwise_iff_getElem.1 hp _ _ _ _ h3
   omega
  ·omega
 cases hf : bs.find? (fun b => decide (b.v = x)) with
 | some b =>
  have hb := List.find?_some hf
  simp at hb
  obtain ⟨k, hk⟩ := List.mem_iff_getElem?.1 (List.mem_of_find?_eq_some hf)
  have := hany k b hk hb
  subst this
  rw [hk]; simp [hb]
 | none =>
  rw [List.find?_eq_none] at hf
  cases hl : bs[lowB bs x]? with
  | none => rfl
  | some b =>
   have := hf b (List.mem_of_getElem? hl)
   simp at this
   simp [this]
theorem shape_putS (bs : List Bd) (hb : ∀ b ∈ bs, b.t.shapeB = true) (t : Term) : t.shapeB = true → (t.putS bs).shapeB = true := by
 refine Term.ind (p := fun t => t.shapeB = true → (t.putS bs).shapeB = true) (fun v fn args ih h => ?_) t
 have hl : ∀ (a : List Term), (∀ x ∈ a, x.shapeB = true → (x.putS bs).shapeB = true) → shapeBL a = true → shapeBL (putSL bs a) = true := by
  intro a
  induction a with
  | nil => intro _ _; rfl
  | cons x r ih2 =>
   intro h1 h2
   simp only [shapeBL, putSL, Bool.and_eq_true] at h2 ⊢
   exact ⟨h1 x (by simp) h2.1, ih2 (fun z hz => h1 z (by simp [hz])) h2.2⟩
 by_cases hv : fn.toList = []
 ·simp only [Term.putS, if_pos hv]
  unfold ofS
  cases hf : bs.find? (fun b => decide (b.v = v)) with
  | some b => exact hb b (List.mem_of_find?_eq_some hf)
  | none =>
   have hn : noName fn = true := by simp [noName, hv]
   simp [Term.shapeB, rightB, hn] at h
   have hn2 : noName (ByteArray.mk #[]) = true := by decide +kernel
   simp [Term.shapeB, rightB, hn2, shapeBL, h.1.1]
 ·have hn : noName fn = false := by simp [noName, hv]
  simp only [Term.putS, if_neg hv]
  simp [Term.shapeB, rightB, hn] at h
  simp [Term.shapeB, rightB, hn, putSL_len, h.1.1.2, h.1.2, hl args ih h.2]
theorem rightE_shape0 {t : Term} (h : t.rightE = 0) : t.shapeB = true := by
 unfold Term.rightE at h
 by_cases hs : t.shapeB = true
 ·exact hs
 ·rw [if_neg hs] at h; simp at h
theorem rightE_put {bs : List Bd} {t : Term} (hb : ∀ b ∈ bs, b.t.rightE = 0) (ht : t.rightE = 0) (hz : ((t.putS bs).size : Int) ≤ 4611686018427387904) :
  (t.putS bs).rightE = if ((t.putS bs).depth : Int) > 60 then 22 else if ((t.putS bs).size : Int) > 4000 then 3 else 0 := by
 have := shape_putS bs (fun b hm => rightE_shape0 (hb b hm)) t (rightE_shape0 ht)
 unfold Term.rightE
 rw [if_pos this, sizeW_eq _ hz, depthW_eq _ hz]
end Go.Proofs.Ytiafeijkifpfaaa.Am

/-
 Which are substitutions: what the program's function answers. No condition.
-/
namespace Go.Proofs.Ytiafeijkifpfaaa.Am
open Go Go.Proofs
set_option maxHeartbeats 4000000
set_option linter.unusedSimpArgs false
set_option linter.unusedVariables false
theorem itself_ok (x v : Int) (fn : ByteArray) (args : List Term) : pcl Cp 63 [.agg [.int .i64 x, .int .i64 v, .str fn, .sl (encL args) args.length false none]] = some (.bool (Bd.own ⟨x, .mk v fn args⟩)) := by
 refine pcl_body code63 ?_
 by_cases h0 : fn.toList = []
 ·by_cases h1 : v = x
  ·simp [h0, h1, Bd.own, noName]
  ·simp [h0, h1, Bd.own, noName]
 ·simp [h0, Bd.own, noName]
theorem sright_ok (bs : List Bd) (hb : okB bs) : pcl Cp 32 [.sl (encB bs) bs.length false none] = some (.int .i64 (if isB bs then 0 else 1)) := by
 have hloop := loop_rule (P := Try.prog) (pol := plc) (c := b32_0) (m := ⟨[true, false, true, true, false, false, true, true, true, false, false, false, false, false, false, false, false, false, false, false, false, false, false, false, false, false, false, false, false, false, false, false, false, false, false, false, false, false, false], some 5⟩)
  (b := 5) (tm := fun (s : Nat × Int) => [.d (.sl (encB bs) bs.length false none), .junk, .d (.int .i64 0), .d (.int .i64 s.2), .junk, .junk, .d (.sl (encB bs) bs.length false none), .d (.int .i64 bs.length), .d (.int .i64 s.1), .junk, .junk, .junk, .junk, .junk, .junk, .junk, .junk, .junk, .junk, .junk, .junk, .junk, .junk, .junk, .junk, .junk, .junk, .junk, .junk, .junk, .junk, .junk, .junk, .junk, .junk, .junk, .junk, .junk, .junk]) (Hf := fun _ => fun _ => none)
  (I := fun s => s.1 ≤ bs.length) (μ := fun s => bs.length - s.1) (res := fun s => subOk bs.length s.2 (bs.drop s.1))
  (R := fun r e t => if r then ∃ last, AtExit 0 [.d (.sl (encB bs) bs.length false none), .junk, .d (.int .i64 0), .d (.int .i64 last), .junk, .junk, .d (.sl (encB bs) bs.length false none), .d (.int .i64 bs.length), .d (.int .i64 bs.length), .junk, .junk, .junk, .junk, .junk, .junk, .junk, .junk, .junk, .junk, .junk, .junk, .junk, .junk, .junk, .junk, .junk, .junk, .junk, .junk, .junk, .junk, .junk, .junk, .junk, .junk, .junk, .junk, .junk, .junk] (fun _ => none) e t else AtRet 2 (.d (.int .i64 1)) e t)
  (fun s nx hi => by
   obtain ⟨i, last⟩ := s
   simp only at hi ⊢
   rcases Nat.lt_or_ge i bs.length with hl | hl
   ·obtain ⟨x, v, fn, args, a⟩ := atB_ok hb.1 (i := i) hl
    have ho := itself_ok x v fn args
    have hr := tright_ok _ (hb.2 _ a.mem)
    simp [Term.enc] at hr
    have hres : subOk bs.length last (bs.drop i) = (!(Bd.badB bs.length last ⟨x, .mk v fn args⟩) && subOk bs.length x (bs.drop (i + 1))) := by rw [a.dr]; rfl
    have hbad : Bd.badB bs.length last ⟨x, .mk v fn args⟩ = (decide (x ≤ last) || decide (1000000 ≤ x) || Bd.own ⟨x, .mk v fn args⟩ || decide ((Term.mk v fn args).rightE ≠ 0) || decide ((4000 : Int) < (bs.length : Int))) := rfl
    generalize (Term.mk v fn args).rightE = e at hr hbad
    generalize Bd.own ⟨x, .mk v fn args⟩ = w at ho hbad
    conv => arg 9; arg 4; unfold b32_0
    by_cases c1 : x ≤ last
    ·simp [a.lti, a.sz, a.ltm, a.cells, a.le4, plc_raw, c1]
     exact .fin _ _ (by simp only [hres, hbad]; simp [c1, AtRet])
    by_cases c2 : 1000000 ≤ x
    ·simp [a.lti, a.sz, a.ltm, a.cells, a.le4, plc_raw, c1, c2]
     exact .fin _ _ (by simp only [hres, hbad]; simp [c2, AtRet])
    cases w
    ·by_cases c3 : e = 0
     ·by_cases c4 : (4000 : Int) < (bs.length : Int)
      ·simp [a.lti, a.sz, a.ltm, a.cells, a.le4, plc_raw, c1, c2, c3, c4, ho, hr]
       exact .fin _ _ (by simp only [hres, hbad]; simp [c4, AtRet])
      ·simp [a.lti, a.sz, a.ltm, a.cells, a.le4, plc_raw, c1, c2, c3, c4, ho, hr, a.w]
       exact .next (i + 1, x) (by omega) (by simp) rfl hl (by simp; omega) (by simp only [hres, hbad]; simp [c1, c2, c3, c4])
     ·simp [a.lti, a.sz, a.ltm, a.cells, a.le4, plc_raw, c1, c2, c3, ho, hr]
      exact .fin _ _ (by simp only [hres, hbad]; simp [c3, AtRet])
    ·simp [a.lti, a.sz, a.ltm, a.cells, a.le4, plc_raw, c1, c2, ho]
     exact .fin _ _ (by simp only [hres, hbad]; simp [AtRet])
   ·obtain rfl : i = bs.length := Nat.le_antisymm hi hl
    simp [b32_0]
    exact .fin _ _ (by simp only [List.drop_length, subOk, if_true]; exact ⟨last, .mk⟩)) (0, -1) (Nat.zero_le _)
 obtain ⟨e, t, hrun, hR⟩ := hloop
 refine pcl_body code32 ?_
 rw [isB_sub]
 simp at hrun hR
 cases hs : subOk bs.length (-1) bs
 ·simp only [hs] at hR
  obtain ⟨rfl, hv⟩ := hR
  simp [hrun, hv]
 ·simp only [hs] at hR
  obtain ⟨last, rfl, nx, rfl⟩ := hR
  simp [hrun]
end Go.Proofs.Ytiafeijkifpfaaa.Am

/-
 A variable's place among binds: what the program's function answers. No condition.
-/
namespace Go.Proofs.Ytiafeijkifpfaaa.Am
open Go Go.Proofs
set_option maxHeartbeats 4000000
set_option linter.unusedSimpArgs false
set_option linter.unusedVariables false
def cmpI (a b : Int) : Int := if a < b then -1 else if a > b then 1 else 0
theorem nan_ok (a : Int) : pcl Cp 77 [.int .i64 a] = some (.bool false) := by
 refine pcl_body code77 ?_
 simp
theorem cmp_ok (a b : Int) : pcl Cp 57 [.int .i64 a, .int .i64 b] = some (.int .i64 (cmpI a b)) := by
 have h1 := nan_ok a
 have h2 := nan_ok b
 refine pcl_body code57 ?_
 unfold cmpI
 by_cases c1 : a < b
 ·simp [plc_raw, h1, h2, c1]
 ·by_cases c2 : b < a
  ·simp [plc_raw, h1, h2, c1, c2]
  ·simp [plc_raw, h1, h2, c1, c2]
theorem find1_ok (x v : Int) (fn : ByteArray) (args : List Term) (y : Int) : pcl Cp 84 [.agg [.int .i64 x, .int .i64 v, .str fn, .sl (encL args) args.length false none], .int .i64 y] = some (.int .i64 (cmpI x y)) := by
 have h := cmp_ok x y
 refine pcl_body code84 ?_
 simp [plc_raw, h]
theorem wrap_u64 {n : Int} (h : 0 ≤ n) (h2 : n < 18446744073709551616) : IntKind.u64.wrap n = n := by
 simp only [IntKind.wrap, IntKind.signed, IntKind.bits]
 simp
 omega
theorem half_ok {i j : Nat} (h : i + j ≤ 4611686018427387904) : shiftD .shr .u64 (IntKind.u64.wrap (IntKind.i64.wrap ((i : Int) + (j : Int)))) 1 = some (.int .u64 (((i + j) / 2 : Nat) : Int)) := by
 rw [wrap_i64 (by omega) (by omega), wrap_u64 (by omega) (by omega)]
 simp only [shiftD]
 rw [if_neg (by omega)]
 congr 2
 have : (2 : Int) ^ (min (1 : Int).toNat IntKind.u64.bits) = 2 := by decide
 rw [this, Int.fdiv_eq_ediv_of_nonneg _ (by omega)]
 omega
theorem search_ok (bs : List Bd) (hb : okB bs) (hn : bs.length ≤ 1048576) (hp : bs.Pairwise (fun a b => a.v < b.v)) (x : Int) :
  pcl Cp 83 [.sl (encB bs) bs.length false none, .int .i64 x, .fn 84 []] = some (.tup [.int .i64 (lowB bs x), .bool (foundB bs x)]) := by
 have hlb := lowB_le bs x
 have hloop := loop_rule (P := Try.prog) (pol := plc) (c := b83_0) (m := ⟨[true, true, true, false, false, false, true, true, true, true, true, false, false, false, false, false, false, false, false, false, false, false, false, false, false, false, false, false, false, false, false, false, false, false, false, true, true, true, true, true, true, true, true, true, true, true, true, true, true], some 8⟩)
  (b := 8) (tm := fun (s : Nat × Nat) => [.d (.sl (encB bs) bs.length false none), .d (.int .i64 x), .d (.fn 84 []), .junk, .junk, .junk, .d (.int .i64 0), .d (.bool false), .d (.int .i64 bs.length), .d (.int .i64 s.1), .d (.int .i64 s.2), .junk, .junk, .junk, .junk, .junk, .junk, .junk, .junk, .junk, .junk, .junk, .junk, .junk, .junk, .junk, .junk, .junk, .junk, .junk, .junk, .junk, .junk, .junk, .junk, .junk, .junk, .junk, .junk, .junk, .junk, .junk, .junk, .junk, .junk, .junk, .junk, .junk, .junk]) (Hf := fun _ => fun _ => none)
  (I := fun s => s.1 ≤ lowB bs x ∧ lowB bs x ≤ s.2 ∧ s.2 ≤ bs.length) (μ := fun s => s.2 - s.1) (res := fun s => ())
  (R := fun r e t => AtExit 0 [.d (.sl (encB bs) bs.length false none), .d (.int .i64 x), .d (.fn 84 []), .junk, .junk, .junk, .d (.int .i64 0), .d (.bool false), .d (.int .i64 bs.length), .d (.int .i64 (lowB bs x)), .d (.int .i64 (lowB bs x)), .junk, .junk, .junk, .junk, .junk, .junk, .junk, .junk, .junk, .junk, .junk, .junk, .junk, .junk, .junk, .junk, .junk, .junk, .junk, .junk, .junk, .junk, .junk, .junk, .junk, .junk, .junk, .junk, .junk, .junk, .junk, .junk, .junk, .junk, .junk, .junk, .junk, .junk] (fun _ => none) e t)
  (fun s nx hi => by
   obtain ⟨i, j⟩ := s
   obtain ⟨h1, h2, h3⟩ := hi
   simp only at h1 h2 h3 ⊢
   conv => arg 9; arg 4; unfold b83_0
   rcases Nat.lt_or_ge i j with hl | hl
   ·have hm : (i + j) / 2 < bs.length := by omega
    obtain ⟨y, v, fn, args, a⟩ := atB_ok hb.1 (i := (i + j) / 2) hm
    have hc := find1_ok y v fn args x
    have hh := half_ok (i := i) (j := j) (by omega)
    have hli : (i : Int) < (j : Int) := by omega
    have hw3 : IntKind.i64.wrap (((i + j) / 2 : Nat) : Int) = (((i + j) / 2 : Nat) : Int) := wrap_i64 (by omega) (by omega)
    have hbk : bs[(i + j) / 2]? = some ⟨y, .mk v fn args⟩ := by
     have := a.dr
     rw [List.drop_eq_getElem_cons hm] at this
     rw [List.getElem?_eq_getElem hm]
     exact congrArg some (List.cons.inj this).1
    have hlow := lowB_iff x bs hp _ _ hbk
    simp only at hlow
    have hmid1 : i ≤ (i + j) / 2 := by omega
    have hmid2 : (i + j) / 2 < j := by omega
    have k1 := a.lti
    have k2 := a.ltm
    have k3 := a.cells
    have k4 := a.le4
    have k5 := a.w
    have k6 := a.sz
    clear a hbk
    generalize (i + j) / 2 = h at *
    by_cases hy : y < x
    ·have hcm : cmpI y x < 0 := by simp [cmpI, hy]
     simp [hl, hli, hh, hw3, k1, k2, k3, k4, k5, k6, plc_raw, hc, hcm]
     exact .next (h + 1, j) (by omega) (by simp) rfl ⟨by simp only; have := hlow.1 hy; omega, h2, h3⟩ (by simp; omega) rfl
    ·have hcm : ¬ cmpI y x < 0 := by simp only [cmpI]; split <;> (try split) <;> omega
     simp [hl, hli, hh, hw3, k1, k2, k3, k4, k5, k6, plc_raw, hc, hcm]
     exact .next (i, h) (by omega) (by simp) rfl ⟨h1, by simp only; omega, by simp only; omega⟩ (by simp; omega) rfl
   ·obtain rfl : i = lowB bs x := by omega
    obtain rfl : j = lowB bs x := by omega
    simp
    exact .fin _ _ .mk) (0, bs.length) ⟨Nat.zero_le _, hlb, Nat.le_refl _⟩
 obtain ⟨e, t, hrun, rfl, nx, rfl⟩ := hloop
 simp at hrun
 refine pcl_body code83 ?_
 by_cases hl : lowB bs x < bs.length
 ·obtain ⟨y, v, fn, args, a⟩ := atB_ok hb.1 hl
  have hc := find1_ok y v fn args x
  have hbk : bs[lowB bs x]? = some ⟨y, .mk v fn args⟩ := by
   have := a.dr
   rw [List.drop_eq_getElem_cons hl] at this
   rw [List.getElem?_eq_getElem hl]
   exact congrArg some (List.cons.inj this).1
  have hf : foundB bs x = decide (y = x) := by simp only [foundB, hbk]
  rw [hf]
  have k1 := a.lti
  have k2 := a.ltm
  have k3 := a.cells
  have k4 := a.le4
  have k6 := a.sz
  clear a hbk hf hlb
  generalize lowB bs x = h at *
  by_cases hy : y = x
  ·subst hy
   have hcm : cmpI y y = 0 := by simp [cmpI]
   simp [hrun, plc_raw, hl, k1, k2, k3, k4, k6, hc, hcm]
  ·have hcm : ¬ cmpI y x = 0 := by simp only [cmpI]; split <;> (try split) <;> omega
   simp [hrun, plc_raw, hl, k1, k2, k3, k4, k6, hc, hcm, hy]
 ·have hf : foundB bs x = false := by
   simp only [foundB]
   rw [List.getElem?_eq_none (by omega)]
  have hli : ¬ (lowB bs x : Int) < bs.length := by omega
  rw [hf]
  simp [hrun, plc_raw, hl, hli]
theorem find_ok (bs : List Bd) (hb : okB bs) (hn : bs.length ≤ 1048576) (hp : bs.Pairwise (fun a b => a.v < b.v)) (x : Int) :
  pcl Cp 64 [.sl (encB bs) bs.length false none, .int .i64 x] = some (.tup [.int .i64 (lowB bs x), .bool (foundB bs x)]) := by
 have h := search_ok bs hb hn hp x
 refine pcl_body code64 ?_
 simp [plc_raw, h]
end Go.Proofs.Ytiafeijkifpfaaa.Am

/-
 Substitutions: what the program's functions make of a term. No condition.
-/
namespace Go.Proofs.Ytiafeijkifpfaaa.Am
open Go Go.Proofs
set_option maxHeartbeats 4000000
set_option linter.unusedSimpArgs false
set_option linter.unusedVariables false
def encT2 (bs : List Bd) : List D := bs.flatMap fun b => [.int .i64 b.t.depthW, .int .i64 b.t.sizeW]
theorem encT2_len : ∀ (bs : List Bd), (encT2 bs).length = bs.length * 2
 | [] => rfl
 | b :: r => by have := encT2_len r; simp [encT2] at this ⊢; omega
theorem encT2_at : ∀ (bs : List Bd) (i : Nat) (b : Bd), bs[i]? = some b → (encT2 bs)[i * 2]? = some (.int .i64 b.t.depthW) ∧ (encT2 bs)[i * 2 + 1]? = some (.int .i64 b.t.sizeW)
 | [], i, b, h => by simp at h
 | c :: r, 0, b, h => by simp at h; subst h; simp [encT2]
 | c :: r, i + 1, b, h => by
  have := encT2_at r i b (by simpa using h)
  simp only [encT2, List.flatMap_cons] at this ⊢
  rw [show (i + 1) * 2 = [D.int .i64 c.t.depthW, D.int .i64 c.t.sizeW].length + i * 2 by simp; omega, show [D.int .i64 c.t.depthW, D.int .i64 c.t.sizeW].length + i * 2 + 1 = [D.int .i64 c.t.depthW, D.int .i64 c.t.sizeW].length + (i * 2 + 1) by omega]
  rw [List.getElem?_append_right (by omega), List.getElem?_append_right (by omega), Nat.add_sub_cancel_left, Nat.add_sub_cancel_left]
  exact this
theorem var_one (x : Int) : (1 : Int) = (Term.mk x (ByteArray.mk #[]) []).depthW ∧ (1 : Int) = (Term.mk x (ByteArray.mk #[]) []).sizeW := by
 constructor
 ·simp only [Term.depthW, depthWL]; rw [wrap_small (by omega) (by omega)]; rfl
 ·simp only [Term.sizeW, sizeWL]
theorem ofM_ok (bs : List Bd) (hb : okB bs) (hn : bs.length ≤ 1048576) (hp : bs.Pairwise (fun a b => a.v < b.v)) (nl : Option Bool) (x : Int) :
  pcl Cp 80 [.int .i64 x, .dptr [.sl (encB bs) bs.length false none], .dptr [.sl (encT2 bs) bs.length false nl]] = some (.tup [.int .i64 (ofS bs x).depthW, .int .i64 (ofS bs x).sizeW]) := by
 have hf := find_ok bs hb hn hp x
 rw [ofS_low hp x]
 refine pcl_body code80 ?_
 cases hl : bs[lowB bs x]? with
 | none =>
  have : foundB bs x = false := by simp only [foundB, hl]
  rw [this] at hf
  simp [plc_raw, hf]
  exact var_one x
 | some b =>
  by_cases hv : b.v = x
  ·have : foundB bs x = true := by simp only [foundB, hl]; simp [hv]
   rw [this] at hf
   obtain ⟨e1, e2⟩ := encT2_at bs _ b hl
   have hlt := (List.getElem?_eq_some_iff.1 hl).1
   have hlen := encT2_len bs
   have h1 : lowB bs x * 2 < bs.length * 2 := by omega
   have h2 : lowB bs x * 2 + 1 < bs.length * 2 := by omega
   have h3 : 1 ≤ bs.length * 2 - lowB bs x * 2 := by omega
   have h4 : 2 ≤ bs.length * 2 - lowB bs x * 2 := by omega
   have h5 : (lowB bs x : Int) < bs.length := by omega
   have g1 : ∀ h, (encT2 bs)[lowB bs x * 2]'h = .int .i64 b.t.depthW := fun h => by rw [List.getElem?_eq_getElem h] at e1; exact Option.some.inj e1
   have g2 : ∀ h, (encT2 bs)[lowB bs x * 2 + 1]'h = .int .i64 b.t.sizeW := fun h => by rw [List.getElem?_eq_getElem h] at e2; exact Option.some.inj e2
   simp [plc_raw, hf, hv, hlen, h1, h2, h3, h4, h5, hlt, g1, g2]
  ·have : foundB bs x = false := by simp only [foundB, hl]; simp [hv]
   rw [this] at hf
   simp [plc_raw, hf, hv]
   exact var_one x
theorem ofT_ok (bs : List Bd) (hb : okB bs) (hn : bs.length ≤ 1048576) (hp : bs.Pairwise (fun a b => a.v < b.v)) (x : Int) :
  ∃ r, pcl Cp 81 [.int .i64 x, .dptr [.sl (encB bs) bs.length false none]] = some r ∧ wk r = .agg (ofS bs x).enc := by
 have hf := find_ok bs hb hn hp x
 rw [ofS_low hp x]
 cases hl : bs[lowB bs x]? with
 | none =>
  have : foundB bs x = false := by simp only [foundB, hl]
  rw [this] at hf
  refine ⟨.agg [.int .i64 x, .str (ByteArray.mk #[]), .sl [] 0 false (some true)], pcl_body code81 ?_, by simp [Term.enc, encL]⟩
  simp [plc_raw, hf]
 | some b =>
  by_cases hv : b.v = x
  ·have : foundB bs x = true := by simp only [foundB, hl]; simp [hv]
   rw [this] at hf
   have hlt := (List.getElem?_eq_some_iff.1 hl).1
   obtain ⟨y, v, fn, args, a⟩ := atB_ok hb.1 hlt
   have hbk : b = ⟨y, .mk v fn args⟩ := by
    have := a.dr
    rw [List.drop_eq_getElem_cons hlt] at this
    rw [List.getElem?_eq_getElem hlt] at hl
    exact (Option.some.inj hl).symm.trans (List.cons.inj this).1
   subst hbk
   have k1 := a.lti
   have k2 := a.ltm
   have k3 := a.c1
   have k4 := a.le4
   have k5 := a.le3
   have k6 := a.sz
   have k7 := a.le1
   clear a
   generalize lowB bs x = h at *
   refine ⟨.agg (Term.mk v fn args).enc, pcl_body code81 ?_, ?_⟩
   ·simp [plc_raw, hf, k1, k2, k3, k4, k5, k6, k7, hlt, Term.enc]
   ·simp only at hv
    simp [hv, Term.enc]
  ·have : foundB bs x = false := by simp only [foundB, hl]; simp [hv]
   rw [this] at hf
   refine ⟨.agg [.int .i64 x, .str (ByteArray.mk #[]), .sl [] 0 false (some true)], pcl_body code81 ?_, by simp [Term.enc, encL, hv]⟩
   simp [plc_raw, hf]
theorem depthW_le (t : Term) (h : (t.size : Int) ≤ 4611686018427387904) : t.depthW = t.depth := depthW_eq t h
abbrev measT (v : Int) (fn : ByteArray) (args : List Term) : Hp := upd (fun _ => none) (0, 0) (.cells [.d (.int .i64 v), .d (.str fn), .d (.sl (encL args) args.length false none)])
theorem putSL_depth (bs : List Bd) : ∀ (a : List Term), depthL (putSL bs a) ≤ sizeL (putSL bs a)
 | [] => by simp [putSL, depthL, sizeL]
 | x :: r => by
  have h1 := depth_size (x.putS bs)
  have h2 := putSL_depth bs r
  simp only [putSL, depthL, sizeL]; omega
theorem measure_ok (bs : List Bd) (f : D) (hf : ∀ x, ∃ g cs, f = .fn g cs ∧ pcl Cp g (.int .i64 x :: cs) = some (.tup [.int .i64 (ofS bs x).depth, .int .i64 (ofS bs x).size])) (hw : ∀ g cs, f = .fn g cs → plc.weak g = false ∧ plc.raw g = false ∧ g < 1000000000) (t : Term) :
  t.ok → ((t.putS bs).size : Int) ≤ 4611686018427387904 → pcl Cp 79 [.agg t.enc, f] = some (.tup [.int .i64 (t.putS bs).depth, .int .i64 (t.putS bs).size]) := by
 refine Term.ind (p := fun t => t.ok → ((t.putS bs).size : Int) ≤ 4611686018427387904 → pcl Cp 79 [.agg t.enc, f] = some (.tup [.int .i64 (t.putS bs).depth, .int .i64 (t.putS bs).size])) (fun v fn args ih h hsz => ?_) t
 have hn := h.1
 by_cases hv : fn.toList = []
 ·obtain ⟨g, cs, rfl, hg⟩ := hf v
  obtain ⟨hwg, hwr, hwl⟩ := hw g cs rfl
  simp only [Term.putS, if_pos hv]
  refine pcl_body code79 ?_
  have hmd := fun H => mapD_encT H 6 cs
  simp [Term.enc, hv, hwg, hwr, hwl, -plc_weak, hg, hmd]
 ·have hsz2 : ((1 + sizeL (putSL bs args) : Nat) : Int) ≤ 4611686018427387904 := by simpa only [Term.putS, if_neg hv, Term.size] using hsz
  have hloop := loop_rule (P := Try.prog) (pol := plc) (c := b79_0) (m := ⟨[false, true, false, false, true, true, false, false, false, false, false, false, false, false, false, false, false, false, false, false, true, true, true, false, false, false, false, false, false, false, false, false, false, false, false, false, false, false, false, true, true, true, true], some 10⟩)
   (b := 10) (tm := fun (s : Nat × Nat × Nat) => [.junk, .d f, .junk, .junk, .d (.int .i64 s.2.1), .d (.int .i64 s.2.2), .junk, .junk, .junk, .junk, .junk, .junk, .junk, .junk, .junk, .junk, .junk, .junk, .junk, .junk, .d (.sl (encL args) args.length false none), .d (.int .i64 args.length), .d (.int .i64 s.1), .junk, .junk, .junk, .junk, .junk, .junk, .junk, .junk, .junk, .junk, .junk, .junk, .junk, .junk, .junk, .junk, .junk, .junk, .junk, .junk]) (Hf := fun _ => measT v fn args)
   (I := fun s => s.1 ≤ args.length ∧ s.2.1 ≤ s.2.2 ∧ ((s.2.2 + sizeL (putSL bs (args.drop s.1)) : Nat) : Int) < 4611686018427387904) (μ := fun s => args.length - s.1) (res := fun s => (max s.2.1 (depthL (putSL bs (args.drop s.1))), s.2.2 + sizeL (putSL bs (args.drop s.1))))
   (R := fun r e t => AtExit 0 [.junk, .d f, .junk, .junk, .d (.int .i64 r.1), .d (.int .i64 r.2), .junk, .junk, .junk, .junk, .junk, .junk, .junk, .junk, .junk, .junk, .junk, .junk, .junk, .junk, .d (.sl (encL args) args.length false none), .d (.int .i64 args.length), .d (.int .i64 args.length), .junk, .junk, .junk, .junk, .junk, .junk, .junk, .junk, .junk, .junk, .junk, .junk, .junk, .junk, .junk, .junk, .junk, .junk, .junk, .junk] (measT v fn args) e t)
   (fun s nx hi => by
    obtain ⟨i, d, z⟩ := s
    obtain ⟨hi, hdz, hs⟩ := hi
    simp only at hi hdz hs ⊢
    rcases Nat.lt_or_ge i args.length with hl | hl
    ·obtain ⟨v', fn', args', a⟩ := at_ok hn hl
     have hdr : putSL bs (args.drop i) = (Term.mk v' fn' args').putS bs :: putSL bs (args.drop (i + 1)) := by rw [a.dr]; rfl
     rw [hdr] at hs
     simp only [sizeL] at hs
     have hc := ih _ a.mem (okL_mem h.2 _ a.mem) (by omega)
     have hds := depth_size ((Term.mk v' fn' args').putS bs)
     generalize (Term.mk v' fn' args').putS bs = u at *
     have hw2 : IntKind.i64.wrap ((z : Int) + (u.size : Int)) = ((z + u.size : Nat) : Int) := by rw [wrap_small (by omega) (by omega)]; omega
     simp only [Int.natCast_add] at hw2
     simp [Term.enc] at hc
     conv => arg 9; arg 4; unfold b79_0
     have hmx : (if d < u.depth then (u.depth : Int) else (d : Int)) = ((max d u.depth : Nat) : Int) := by split <;> omega
     simp [a.lti, a.sz, a.ltm, a.cells, a.le3, plc_raw, a.w, hc, hw2, hmx]
     exact .next (i + 1, max d u.depth, z + u.size) (by omega) (by simp) rfl ⟨hl, by simp only; omega, by simp only; omega⟩ (by simp; omega) (by simp only [hdr, depthL, sizeL, Nat.max_assoc, Nat.add_assoc])
    ·obtain rfl : i = args.length := Nat.le_antisymm hi hl
     simp [b79_0]
     exact .fin _ _ (by simp only [List.drop_length, putSL, depthL, sizeL, Nat.max_zero, Nat.add_zero]; exact .mk)) (0, 0, 0) ⟨Nat.zero_le _, Nat.le_refl _, by simp; omega⟩
  obtain ⟨e, t, hrun, rfl, nx, rfl⟩ := hloop
  simp at hrun
  have hdp := putSL_depth bs args
  have hw1 : IntKind.i64.wrap ((depthL (putSL bs args) : Int) + 1) = (depthL (putSL bs args) : Int) + 1 := wrap_small (by omega) (by omega)
  have hw2 : IntKind.i64.wrap ((sizeL (putSL bs args) : Int) + 1) = (sizeL (putSL bs args) : Int) + 1 := wrap_small (by omega) (by omega)
  refine pcl_body code79 ?_
  simp only [Term.putS, if_neg hv, Term.depth, Term.size]
  simp [plc_raw, Term.enc, hv, hrun, hw1, hw2]
  omega
end Go.Proofs.Ytiafeijkifpfaaa.Am

/-
 Substitutions: what the document's functions compute, as the abstract machine runs them. No condition.
-/
namespace Go.Proofs.Ytiafeijkifpfaaa.Am
open Go Go.Proofs
set_option maxHeartbeats 4000000
set_option linter.unusedSimpArgs false
set_option linter.unusedVariables false
def Prev (bs : List Bd) (i : Nat) (prev : Option Int) : Prop :=
 (i = 0 ∧ prev = none) ∨ ∃ k y, i = k + 1 ∧ IntKind.i64.wrap ((i : Int) - 1) = (k : Int) ∧ (k : Int) < bs.length ∧ k * 4 < bs.length * 4 ∧ 1 ≤ bs.length * 4 - k * 4 ∧ (∀ h : k * 4 < (encB bs).length, (encB bs)[k * 4]'h = .int .i64 y) ∧ prev = some y
theorem ris_loop (bs : List Bd) (hb : okB bs) :
  ∃ e t, aloop Try.prog plc b33_0 ⟨[true, false, true, true, false, false, false, false, false, false, false, false, false, false, false, false, false, false, false, false, false, false, false, false, false, false, false, false, false, false, false, false, false, false, false, false, false, false, false, false, false, false, false, false, false, false, false, false, false, false, false, false, false, false, false, false, false, false, false, false, false, false, false, false, false, false, false, false, false, false, false, false, false, false, false, false, false], some 5⟩ ⟨[.d (.sl (encB bs) bs.length false none), .junk, .d (.bool false), .d (.int .i64 0), .junk, .junk, .junk, .junk, .junk, .junk, .junk, .junk, .junk, .junk, .junk, .junk, .junk, .junk, .junk, .junk, .junk, .junk, .junk, .junk, .junk, .junk, .junk, .junk, .junk, .junk, .junk, .junk, .junk, .junk, .junk, .junk, .junk, .junk, .junk, .junk, .junk, .junk, .junk, .junk, .junk, .junk, .junk, .junk, .junk, .junk, .junk, .junk, .junk, .junk, .junk, .junk, .junk, .junk, .junk, .junk, .junk, .junk, .junk, .junk, .junk, .junk, .junk, .junk, .junk, .junk, .junk, .junk, .junk, .junk, .junk, .junk, .junk], fun _ => none, 5⟩ = some (e, t) ∧
   (if isOk none bs then AtExit 0 [.d (.sl (encB bs) bs.length false none), .junk, .d (.bool false), .d (.int .i64 bs.length), .junk, .junk, .junk, .junk, .junk, .junk, .junk, .junk, .junk, .junk, .junk, .junk, .junk, .junk, .junk, .junk, .junk, .junk, .junk, .junk, .junk, .junk, .junk, .junk, .junk, .junk, .junk, .junk, .junk, .junk, .junk, .junk, .junk, .junk, .junk, .junk, .junk, .junk, .junk, .junk, .junk, .junk, .junk, .junk, .junk, .junk, .junk, .junk, .junk, .junk, .junk, .junk, .junk, .junk, .junk, .junk, .junk, .junk, .junk, .junk, .junk, .junk, .junk, .junk, .junk, .junk, .junk, .junk, .junk, .junk, .junk, .junk, .junk] (fun _ => none) e t else AtRet 2 (.d (.bool false)) e t) := by
 refine loop_rule (b := 5) (tm := fun (s : Nat × Option Int) => [.d (.sl (encB bs) bs.length false none), .junk, .d (.bool false), .d (.int .i64 s.1), .junk, .junk, .junk, .junk, .junk, .junk, .junk, .junk, .junk, .junk, .junk, .junk, .junk, .junk, .junk, .junk, .junk, .junk, .junk, .junk, .junk, .junk, .junk, .junk, .junk, .junk, .junk, .junk, .junk, .junk, .junk, .junk, .junk, .junk, .junk, .junk, .junk, .junk, .junk, .junk, .junk, .junk, .junk, .junk, .junk, .junk, .junk, .junk, .junk, .junk, .junk, .junk, .junk, .junk, .junk, .junk, .junk, .junk, .junk, .junk, .junk, .junk, .junk, .junk, .junk, .junk, .junk, .junk, .junk, .junk, .junk, .junk, .junk]) (Hf := fun _ => fun _ => none)
  (I := fun s => s.1 ≤ bs.length ∧ Prev bs s.1 s.2) (μ := fun s => bs.length - s.1) (res := fun s => isOk s.2 (bs.drop s.1)) (R := fun r e t => if r then AtExit 0 [.d (.sl (encB bs) bs.length false none), .junk, .d (.bool false), .d (.int .i64 bs.length), .junk, .junk, .junk, .junk, .junk, .junk, .junk, .junk, .junk, .junk, .junk, .junk, .junk, .junk, .junk, .junk, .junk, .junk, .junk, .junk, .junk, .junk, .junk, .junk, .junk, .junk, .junk, .junk, .junk, .junk, .junk, .junk, .junk, .junk, .junk, .junk, .junk, .junk, .junk, .junk, .junk, .junk, .junk, .junk, .junk, .junk, .junk, .junk, .junk, .junk, .junk, .junk, .junk, .junk, .junk, .junk, .junk, .junk, .junk, .junk, .junk, .junk, .junk, .junk, .junk, .junk, .junk, .junk, .junk, .junk, .junk, .junk, .junk] (fun _ => none) e t else AtRet 2 (.d (.bool false)) e t)
  (fun s nx hi => ?_) (0, none) ⟨Nat.zero_le _, .inl ⟨rfl, rfl⟩⟩
 obtain ⟨i, prev⟩ := s
 obtain ⟨hi, hp⟩ := hi
 simp only at hi hp
 rcases Nat.lt_or_ge i bs.length with hl | hl
 ·obtain ⟨x, v, fn, args, a⟩ := atB_ok hb.1 (i := i) hl
  have hr := rright_ok _ (hb.2 _ a.mem)
  have hpn : Prev bs (i + 1) (some x) := .inr ⟨i, x, by omega, by rw [show ((i + 1 : Nat) : Int) - 1 = (i : Int) by omega]; exact a.w0, a.lti, a.ltm, a.le1, a.e0, rfl⟩
  simp [Term.enc] at hr
  generalize hrE : (Term.mk v fn args).rightE = e at hr
  have hres : isOk prev (bs.drop i) = (!(Bd.badR prev ⟨x, .mk v fn args⟩) && isOk (some x) (bs.drop (i + 1))) := by rw [a.dr]; rfl
  have hbad : Bd.badR prev ⟨x, .mk v fn args⟩ = (decide (x < 0) || decide (1000000 ≤ x) || prevB x prev || decide (e ≠ 0) || (noName fn && decide (v = x))) := by simp only [Bd.badR, hrE, Bd.own]
  conv => arg 9; arg 4; unfold b33_0
  by_cases c1 : x < 0
  ·simp [a.lti, a.sz, a.ltm, a.e0, a.le1, plc_raw, c1]
   exact .fin _ _ (by simp only [hres, hbad]; simp [c1, AtRet])
  by_cases c2 : 1000000 ≤ x
  ·simp [a.lti, a.sz, a.ltm, a.e0, a.le1, plc_raw, c1, c2]
   exact .fin _ _ (by simp only [hres, hbad]; simp [c2, AtRet])
  rcases hp with ⟨p0, rfl⟩ | ⟨k, y, p1, p2, p3, p4, p5, p6, rfl⟩
  ·have p1 : ¬ (0 : Int) < (i : Int) := by omega
   have p9 : ¬ 0 < i := by omega
   clear p0
   by_cases c4 : e = 0
   ·by_cases c5 : fn.toList = []
    ·by_cases c6 : v = x
     ·subst c6
      simp [a.lti, a.sz, a.ltm, a.e0, a.c1, a.e10, a.e11, a.c0, a.c10, a.c11, a.le1, a.le4, a.le3, a.le2, a.le11, plc_raw, c1, c2, p1, p9, hr, c4, c5]
      exact .fin _ _ (by simp only [hres, hbad]; simp [c5, noName, AtRet])
     ·simp [a.lti, a.sz, a.ltm, a.e0, a.c1, a.e10, a.e11, a.c0, a.c10, a.c11, a.le1, a.le4, a.le3, a.le2, a.le11, plc_raw, c1, c2, p1, p9, hr, c4, c5, c6, a.w]
      exact .next (i + 1, some x) (by omega) (by simp) rfl ⟨hl, hpn⟩ (by simp; omega) (by simp only [hres, hbad]; simp [c1, c2, c4, c5, c6, prevB, noName])
    ·simp [a.lti, a.sz, a.ltm, a.e0, a.c1, a.e10, a.e11, a.c0, a.c10, a.c11, a.le1, a.le4, a.le3, a.le2, a.le11, plc_raw, c1, c2, p1, p9, hr, c4, c5, a.w]
     exact .next (i + 1, some x) (by omega) (by simp) rfl ⟨hl, hpn⟩ (by simp; omega) (by simp only [hres, hbad]; simp [c1, c2, c4, c5, prevB, noName])
   ·simp [a.lti, a.sz, a.ltm, a.e0, a.c1, a.le1, a.le4, a.le3, plc_raw, c1, c2, p1, p9, hr, c4]
    exact .fin _ _ (by simp only [hres, hbad]; simp [c4, AtRet])
  ·have p0 : ¬ i = 0 := by omega
   have p7 : ¬ (i : Int) = 0 := by omega
   have p8 : (0 : Int) < (i : Int) := by omega
   have p9 : 0 < i := by omega
   by_cases c3 : x ≤ y
   ·simp [a.lti, a.sz, a.ltm, a.e0, a.le1, plc_raw, c1, c2, p2, p3, p4, p5, p6, c3, p8, p9]
    exact .fin _ _ (by simp only [hres, hbad]; simp [c3, prevB, AtRet])
   by_cases c4 : e = 0
   ·by_cases c5 : fn.toList = []
    ·by_cases c6 : v = x
     ·subst c6
      simp [a.lti, a.sz, a.ltm, a.e0, a.c1, a.e10, a.e11, a.c0, a.c10, a.c11, a.le1, a.le4, a.le3, a.le2, a.le11, plc_raw, c1, c2, p2, p3, p4, p5, p6, c3, p8, p9, hr, c4, c5]
      exact .fin _ _ (by simp only [hres, hbad]; simp [c5, noName, AtRet])
     ·simp [a.lti, a.sz, a.ltm, a.e0, a.c1, a.e10, a.e11, a.c0, a.c10, a.c11, a.le1, a.le4, a.le3, a.le2, a.le11, plc_raw, c1, c2, p2, p3, p4, p5, p6, c3, p8, p9, hr, c4, c5, c6, a.w]
      exact .next (i + 1, some x) (by omega) (by simp) rfl ⟨hl, hpn⟩ (by simp; omega) (by simp only [hres, hbad]; simp [c1, c2, c3, c4, c5, c6, prevB, noName])
    ·simp [a.lti, a.sz, a.ltm, a.e0, a.c1, a.e10, a.e11, a.c0, a.c10, a.c11, a.le1, a.le4, a.le3, a.le2, a.le11, plc_raw, c1, c2, p2, p3, p4, p5, p6, c3, p8, p9, hr, c4, c5, a.w]
     exact .next (i + 1, some x) (by omega) (by simp) rfl ⟨hl, hpn⟩ (by simp; omega) (by simp only [hres, hbad]; simp [c1, c2, c3, c4, c5, prevB, noName])
   ·simp [a.lti, a.sz, a.ltm, a.e0, a.c1, a.le1, a.le4, a.le3, plc_raw, c1, c2, p2, p3, p4, p5, p6, c3, p8, p9, hr, c4]
    exact .fin _ _ (by simp only [hres, hbad]; simp [c4, AtRet])
 ·obtain rfl : i = bs.length := Nat.le_antisymm hi hl
  simp [b33_0]
  exact .fin _ _ (by simp only [List.drop_length, isOk, if_true]; exact .mk)
theorem ris_ok (bs : List Bd) (hb : okB bs) : pcl Cp 33 [.sl (encB bs) bs.length false none] = some (.bool (isB bs)) := by
 obtain ⟨e, t, hrun, hR⟩ := ris_loop bs hb
 refine pcl_body code33 ?_
 unfold isB
 by_cases hn : (bs.length : Int) ≤ 4000
 ·have hn2 : bs.length ≤ 4000 := by omega
  have hn3 : ¬ (4000 : Int) < bs.length := by omega
  have hn4 : ¬ 4000 < bs.length := by omega
  simp at hrun
  cases hq : isOk none bs
  ·rw [hq] at hR
   obtain ⟨rfl, hv⟩ := hR
   simp [hn, hn2, hn3, hn4, hrun, hv]
  ·rw [hq] at hR
   obtain ⟨rfl, nx, rfl⟩ := hR
   simp [hn, hn2, hn3, hn4, hrun]
 ·have hn2 : ¬ bs.length ≤ 4000 := by omega
  have hn3 : (4000 : Int) < bs.length := by omega
  have hn4 : 4000 < bs.length := by omega
  simp [hn, hn2, hn3, hn4]
end Go.Proofs.Ytiafeijkifpfaaa.Am

/-
 Substitutions: what the document's functions make of a term. No condition.
-/
namespace Go.Proofs.Ytiafeijkifpfaaa.Am
open Go Go.Proofs
set_option maxHeartbeats 4000000
set_option linter.unusedSimpArgs false
set_option linter.unusedVariables false
def OfEnd (bs : List Bd) (v : Int) (o : Option Bd) (e : Ex) (t : St) : Prop :=
 match o with
 | some b => e = .ret ∧ t.tm[4]? = some (.ptr (0, 0) 0 3) ∧ t.hp (0, 0) = some (.cells (b.t.enc.map .d))
 | none => AtExit 0 [.d (.sl (encB bs) bs.length false none), .d (.int .i64 v), .junk, .junk, .ptr (0, 0) 0 3, .d (.int .i64 bs.length), .junk, .junk, .junk, .junk, .junk, .junk, .junk, .junk, .junk, .junk, .junk, .junk, .junk, .junk, .junk, .junk, .junk, .junk, .junk, .junk] (upd (upd (fun _ => none) (0, 3) .vnil) (0, 0) (.cells [.d (.int .i64 0), .d (.str (ByteArray.mk #[])), .osl (0, 3) 0 0 1 0])) e t
theorem of_bind_ok (bs : List Bd) (hb : okB bs) (v : Int) : ∃ r, pcl Cp 82 [.sl (encB bs) bs.length false none, .int .i64 v] = some r ∧ wk r = .agg (ofS bs v).enc := by
 have hloop := loop_rule (P := Try.prog) (pol := plc) (c := b82_0) (m := ⟨[true, true, false, false, true, true, false, false, false, false, false, false, false, false, false, false, false, false, false, false, false, false, false, false, true, true], some 2⟩)
  (b := 2) (tm := fun (i : Nat) => [.d (.sl (encB bs) bs.length false none), .d (.int .i64 v), .junk, .junk, .ptr (0, 0) 0 3, .d (.int .i64 i), .junk, .junk, .junk, .junk, .junk, .junk, .junk, .junk, .junk, .junk, .junk, .junk, .junk, .junk, .junk, .junk, .junk, .junk, .junk, .junk])
  (Hf := fun _ => upd (upd (fun x => none) (0, 3) .vnil) (0, 0) (.cells [.d (.int .i64 0), .d (.str (ByteArray.mk #[])), .osl (0, 3) 0 0 1 0]))
  (I := fun i => i ≤ bs.length) (μ := fun i => bs.length - i) (res := fun i => (bs.drop i).find? (fun b => decide (b.v = v)))
  (R := OfEnd bs v)
  (fun i nx hi => by
   rcases Nat.lt_or_ge i bs.length with hl | hl
   ·obtain ⟨x, v', fn, args, a⟩ := atB_ok hb.1 (i := i) hl
    conv => arg 9; arg 4; unfold b82_0
    by_cases hx : x = v
    ·simp [a.lti, a.sz, a.ltm, a.e0, a.c1, a.e10, a.e11, a.c0, a.c10, a.c11, a.le1, a.le4, a.le3, a.le2, a.le11, plc_raw, a.w, hx]
     exact .fin _ _ (by simp only [a.dr]; simp [List.find?, hx, OfEnd, Term.enc])
    ·simp [a.lti, a.sz, a.ltm, a.e0, a.c1, a.e10, a.e11, a.c0, a.c10, a.c11, a.le1, a.le4, a.le3, a.le2, a.le11, plc_raw, a.w, hx]
     exact .next (i + 1) (by omega) (by simp) rfl hl (by omega) (by simp only [a.dr]; simp [List.find?, hx])
   ·obtain rfl : i = bs.length := Nat.le_antisymm hi hl
    simp [b82_0]
    exact .fin _ _ (by simp only [List.drop_length, List.find?, OfEnd]; exact .mk)) 0 (Nat.zero_le _)
 obtain ⟨e, t, hrun, hR⟩ := hloop
 simp at hrun hR
 unfold ofS
 cases hq : bs.find? (fun b => decide (b.v = v)) with
 | none =>
  rw [hq] at hR
  obtain ⟨rfl, nx, rfl⟩ := hR
  refine ⟨.agg [.int .i64 v, .str (ByteArray.mk #[]), .sl [] 0 false (some true)], pcl_body code82 ?_, by simp [Term.enc, encL]⟩
  simp [hrun, plc_raw]
 | some b =>
  rw [hq] at hR
  obtain ⟨rfl, h1, h2⟩ := hR
  obtain ⟨x, v', fn, args⟩ := b
  refine ⟨.agg (Term.mk v' fn args).enc, pcl_body code82 ?_, by simp [Term.enc]⟩
  simp [Term.enc] at h2
  simp [hrun, plc_raw, h1, h2, Term.enc]
theorem encL_append : ∀ (a b : List Term), encL (a ++ b) = encL a ++ encL b
 | [], _ => rfl
 | t :: r, b => by simp [encL, encL_append r b]
def rowT (l : List Term) : Am.Obj := if l = [] then .vnil else .grow ((encL l).map .d)
def rowA (o : Oid) (l : List Term) : AV := if l = [] then .osl o 0 0 1 0 else .osl o 0 l.length 3 (l.length * 3)
theorem append_rowT {H : Hp} {id : Nat} {o o2 : Oid} {l : List Term} {x : Term} (h : H o = some (rowT l)) (h2 : H o2 = some (.cells (x.enc.map .d))) (hl : l.length ≤ 1048576) :
  appendO Try.prog H id 30 30 (rowA o l) (.osl o2 0 1 3 3) = some (rowA o (l ++ [x]), upd H o (rowT (l ++ [x]))) := by
 have h3 : l.length * 3 ≤ 68719476736 := by omega
 have hx := x.enc_len
 have ha : ∀ l : List D, allD (l.map .d) = some l := fun l => by
  induction l with
  | nil => rfl
  | cons x r ih => simp [allD, ih]
 obtain ⟨v, fn, args⟩ := x
 simp only [Term.enc, List.map_cons, List.map_nil] at h2
 cases l with
 | nil =>
  simp only [rowT, if_true] at h
  simp [appendO, srcCells, srcRaw, h, h2, rowA, rowT, growO, encL, Term.enc, kill]
 | cons y r =>
  simp [rowT] at h
  have hel := encL_len (y :: r)
  have hel2 : (encL (y :: r)).length = (r.length + 1) * 3 := by simpa using hel
  have hle : ¬ ((r.length + 1) * 3 + 3 ≤ (r.length + 1) * 3) := by omega
  have h4 : (r.length + 1) * 3 ≤ 68719476736 := by simpa using h3
  simp [appendO, srcCells, srcRaw, h, h2, rowA, rowT, growO, Term.enc, kill, hel2, hle, h4, encL_append]
  refine ⟨by omega, ?_⟩
  rw [List.take_of_length_le (by simp [hel2])]
  have : encL (y :: (r ++ [Term.mk v fn args])) = encL (y :: r) ++ [.int .i64 v, .str fn, .sl (encL args) args.length false none] := by
   rw [show y :: (r ++ [Term.mk v fn args]) = (y :: r) ++ [Term.mk v fn args] from rfl, encL_append]
   simp [encL, Term.enc]
  rw [this]
  simp
theorem upd4 {H : Hp} {a b : Oid} {x x' y y' : Am.Obj} (h : a ≠ b) : upd (upd (upd (upd H a x) b y) a x') b y' = upd (upd H a x') b y' := by
 funext p
 simp only [upd]
 by_cases h1 : p = b
 ·simp [h1]
 ·by_cases h2 : p = a
  ·simp [h2, h]
  ·simp [h1, h2]
abbrev putB (v : Int) (fn : ByteArray) (args : List Term) : Hp :=
 upd (upd (upd (upd (upd (fun _ => none) (0, 0) (.cells [.d (.int .i64 v), .d (.str fn), .d (.sl (encL args) args.length false none)])) (1, 3) .vnil) (1, 0) (.cells [.d (.int .i64 0), .d (.str (ByteArray.mk #[])), .osl (1, 3) 0 0 1 0])) (8, 3) .vnil) (8, 0) (.cells [.d (.int .i64 0), .d (.str (ByteArray.mk #[])), .osl (8, 3) 0 0 1 0])
abbrev putH (v : Int) (fn : ByteArray) (args done : List Term) : Hp := upd (upd (putB v fn args) (9, 3) (rowT done)) (8, 0) (.cells [.d (.int .i64 0), .d (.str fn), rowA (9, 3) done])
def PutEnd (bs : List Bd) (v : Int) (fn : ByteArray) (args : List Term) (r : List Term) (e : Ex) (t : St) : Prop :=
 AtExit 0 [.d (.sl (encB bs) bs.length false none), .junk, .junk, .ptr (0, 0) 0 3, .ptr (1, 0) 0 3, .ptr (8, 0) 0 3, .d (.int .i64 args.length), .junk, .junk, .junk, .junk, .junk, .junk, .junk, .junk, .junk, .junk, .junk, .junk, .junk, .junk, .junk, .junk, .junk, .junk, .junk, .junk, .junk, .junk, .junk, .junk, .junk, .junk, .junk, .junk, .junk, .junk] (putH v fn args r) e t
theorem put_ok (bs : List Bd) (hb : okB bs) (t : Term) : t.ok → t.size ≤ 1048576 → ∃ r, pcl Cp 62 [.sl (encB bs) bs.length false none, .agg t.enc] = some r ∧ wk r = .agg (t.putS bs).enc := by
 refine Term.ind (p := fun t => t.ok → t.size ≤ 1048576 → ∃ r, pcl Cp 62 [.sl (encB bs) bs.length false none, .agg t.enc] = some r ∧ wk r = .agg (t.putS bs).enc) (fun v fn args ih h hsz => ?_) t
 have hn := h.1
 simp only [Term.size] at hsz
 by_cases hv : fn.toList = []
 ·obtain ⟨r, hr, hw⟩ := of_bind_ok bs hb v
  simp only [Term.putS, if_pos hv]
  generalize ofS bs v = u at hw ⊢
  obtain ⟨v', fn', args'⟩ := u
  refine ⟨.agg (Term.mk v' fn' args').enc, pcl_body code62 ?_, by simp [Term.enc]⟩
  simp [Term.enc, plc_raw, hv, hr, hw]
 ·have hlen : ∀ x ∈ args, x.size ≤ sizeL args := fun x hx => sizeL_mem hx
  have hall : args.length ≤ sizeL args := by
   clear ih h hn hsz hlen
   induction args with
   | nil => simp
   | cons x r ih => have := x.size_pos; simp only [List.length_cons, sizeL]; omega
  have hloop := loop_rule (P := Try.prog) (pol := plc) (c := b62_0) (m := ⟨[true, false, false, true, true, true, true, false, false, false, false, false, false, false, false, false, false, false, false, false, false, false, false, false, false, false, false, false, false, false, false, false, false, false, false, false, true], some 11⟩)
   (b := 11) (tm := fun (s : Nat × List Term) => [.d (.sl (encB bs) bs.length false none), .junk, .junk, .ptr (0, 0) 0 3, .ptr (1, 0) 0 3, .ptr (8, 0) 0 3, .d (.int .i64 s.1), .junk, .junk, .junk, .junk, .junk, .junk, .junk, .junk, .junk, .junk, .junk, .junk, .junk, .junk, .junk, .junk, .junk, .junk, .junk, .junk, .junk, .junk, .junk, .junk, .junk, .junk, .junk, .junk, .junk, .junk])
   (Hf := fun s => putH v fn args s.2)
   (I := fun s => s.1 ≤ args.length ∧ s.2.length = s.1) (μ := fun s => args.length - s.1) (res := fun s => s.2 ++ putSL bs (args.drop s.1))
   (R := PutEnd bs v fn args)
   (fun s nx hi => by
    obtain ⟨i, done⟩ := s
    obtain ⟨hi, hd⟩ := hi
    simp only at hi hd ⊢
    rcases Nat.lt_or_ge i args.length with hl | hl
    ·obtain ⟨v', fn', args', a⟩ := at_ok hn hl
     obtain ⟨r, hr, hw⟩ := ih _ a.mem (okL_mem h.2 _ a.mem) (by have := hlen _ a.mem; omega)
     generalize hu : (Term.mk v' fn' args').putS bs = u at hw
     have hres : putSL bs (args.drop i) = u :: putSL bs (args.drop (i + 1)) := by rw [a.dr]; simp only [putSL, hu]
     simp [Term.enc] at hr
     have happ := fun (H : Hp) (id : Nat) (o2 : Oid) (h1 : H (9, 3) = some (rowT done)) (h2 : H o2 = some (.cells (u.enc.map .d))) => append_rowT (id := id) h1 h2 (by omega)
     obtain ⟨uv, ufn, uargs⟩ := u
     simp only [Term.enc, List.map_cons, List.map_nil] at hw happ
     conv => arg 9; arg 4; unfold b62_0
     have e1 : putH v fn args done = upd (upd (putB v fn args) (9, 3) (rowT done)) (8, 0) (.cells [.d (.int .i64 0), .d (.str fn), rowA (9, 3) done]) := rfl
     cases done with
     | nil =>
      simp [rowA] at happ
      simp [a.lti, a.sz, a.ltm, a.cells, a.le3, plc_raw, a.w, hr, hw, happ, rowA]
      refine .next (i + 1, [.mk uv ufn uargs]) (by omega) (by simp) ?_ ⟨hl, by simp at hd ⊢; omega⟩ (by simp; omega) (by simp only [hres]; simp)
      exact upd4 (by simp)
     | cons y q =>
      simp [rowA] at happ
      simp [a.lti, a.sz, a.ltm, a.cells, a.le3, plc_raw, a.w, hr, hw, happ, rowA]
      refine .next (i + 1, y :: q ++ [.mk uv ufn uargs]) (by omega) (by simp) ?_ ⟨hl, by simp at hd ⊢; omega⟩ (by simp; omega) (by simp only [hres]; simp)
      simp [putH, rowA]
      exact upd4 (by simp)
    ·obtain rfl : i = args.length := Nat.le_antisymm hi hl
     simp [b62_0]
     refine .fin _ _ ?_
     simp only [List.drop_length, putSL, List.append_nil]
     exact .mk) (0, []) ⟨Nat.zero_le _, rfl⟩
  obtain ⟨e, t, hrun, rfl, nx, rfl⟩ := hloop
  simp only [Term.putS, if_neg hv]
  have hpl := putSL_len bs args
  simp at hrun
  generalize putSL bs args = done at hrun hpl
  refine ⟨.agg [.int .i64 0, .str fn, .sl (encL done) done.length false (some (decide (done = [])))], pcl_body code62 ?_, by simp [Term.enc]⟩
  have hmd := fun H l => mapD_encT H 4 l
  cases done with
  | nil =>
   simp [putH, putB, rowA, rowT] at hrun
   simp [plc_raw, Term.enc, hv, hrun]
   rfl
  | cons y q =>
   simp [putH, putB, rowA, rowT] at hrun
   have hel : (encL (y :: q)).length = (q.length + 1) * 3 := by simpa using encL_len (y :: q)
   have htk : List.take ((q.length + 1) * 3) (List.map AV.d (encL (y :: q))) = List.map AV.d (encL (y :: q)) := List.take_of_length_le (by simp [hel])
   simp [plc_raw, Term.enc, hv, hrun, hel, htk, hmd]
end Go.Proofs.Ytiafeijkifpfaaa.Am

/-
 Substitutions: the term that the program's function makes. No condition.
-/
namespace Go.Proofs.Ytiafeijkifpfaaa.Am
open Go Go.Proofs
set_option maxHeartbeats 4000000
set_option linter.unusedSimpArgs false
set_option linter.unusedVariables false
theorem copy_ok (t : Term) (hz : t.size ≤ 1048576) : pcl Cp 66 [.agg t.enc] = some (.agg t.enc) := by
 have h : acall Try.prog plc 66 [.d (.agg t.enc)] (fun _ => none) 0 = some (.d (.agg t.enc), fun _ => none, 0) := by
  refine acall_of Try.prog plc ?_
  unfold callF
  rw [if_neg (by decide)]
  have : plc.ext 66 = some copyX := rfl
  rw [this]
  simp only [copyX]
  rw [if_pos ⟨t, hz, rfl⟩]
  rfl
 unfold pcl
 simp [h, reify]
abbrev turnH (v : Int) (fn : ByteArray) (args done : List Term) : Hp := upd (upd (putB v fn args) (9, 3) (rowT done)) (8, 0) (.cells [.d (.int .i64 0), .d (.str fn), rowA (9, 3) done])
def TurnEnd (bs : List Bd) (v : Int) (fn : ByteArray) (args : List Term) (r : List Term) (e : Ex) (t : St) : Prop :=
 AtExit 0 [.junk, .d (.fn 81 [.dptr [.sl (encB bs) bs.length false none]]), .junk, .junk, .ptr (1, 0) 0 3, .ptr (8, 0) 0 3, .junk, .junk, .junk, .junk, .junk, .junk, .junk, .junk, .junk, .junk, .junk, .junk, .junk, .junk, .d (.sl (encL args) args.length false none), .d (.int .i64 args.length), .d (.int .i64 args.length), .junk, .junk, .junk, .junk, .junk, .junk, .junk, .junk, .junk, .junk, .junk, .junk, .junk] (turnH v fn args r) e t
theorem turned_ok (bs : List Bd) (hb : okB bs) (hn : bs.length ≤ 1048576) (hp : bs.Pairwise (fun a b => a.v < b.v)) (hof : ∀ x, (ofS bs x).size ≤ 1048576) (t : Term) : t.ok → t.size ≤ 1048576 →
  ∃ r, pcl Cp 73 [.agg t.enc, .fn 81 [.dptr [.sl (encB bs) bs.length false none]]] = some r ∧ wk r = .agg (t.putS bs).enc := by
 refine Term.ind (p := fun t => t.ok → t.size ≤ 1048576 → ∃ r, pcl Cp 73 [.agg t.enc, .fn 81 [.dptr [.sl (encB bs) bs.length false none]]] = some r ∧ wk r = .agg (t.putS bs).enc) (fun v fn args ih h hsz => ?_) t
 have hn2 := h.1
 simp only [Term.size] at hsz
 by_cases hv : fn.toList = []
 ·obtain ⟨r, hr, hw⟩ := ofT_ok bs hb hn hp v
  simp only [Term.putS, if_pos hv]
  have hc := copy_ok (ofS bs v) (hof v)
  generalize ofS bs v = u at hw hc ⊢
  obtain ⟨v', fn', args'⟩ := u
  simp [Term.enc] at hw hc
  refine ⟨.agg (Term.mk v' fn' args').enc, pcl_body code73 ?_, by simp [Term.enc]⟩
  simp [Term.enc, plc_raw, hv, hr, hw, hc]
 ·have hlen : ∀ x ∈ args, x.size ≤ sizeL args := fun x hx => sizeL_mem hx
  have hall : args.length ≤ sizeL args := by
   clear ih h hn2 hsz hlen
   induction args with
   | nil => simp
   | cons x r ih => have := x.size_pos; simp only [List.length_cons, sizeL]; omega
  have hloop := loop_rule (P := Try.prog) (pol := plc) (c := b73_0) (m := ⟨[false, true, false, false, true, true, false, false, false, false, false, false, false, false, false, false, false, false, false, false, true, true, true, false, false, false, false, false, false, false, false, false, false, false, false, true], some 14⟩)
   (b := 14) (tm := fun (s : Nat × List Term) => [.junk, .d (.fn 81 [.dptr [.sl (encB bs) bs.length false none]]), .junk, .junk, .ptr (1, 0) 0 3, .ptr (8, 0) 0 3, .junk, .junk, .junk, .junk, .junk, .junk, .junk, .junk, .junk, .junk, .junk, .junk, .junk, .junk, .d (.sl (encL args) args.length false none), .d (.int .i64 args.length), .d (.int .i64 s.1), .junk, .junk, .junk, .junk, .junk, .junk, .junk, .junk, .junk, .junk, .junk, .junk, .junk])
   (Hf := fun s => turnH v fn args s.2)
   (I := fun s => s.1 ≤ args.length ∧ s.2.length = s.1) (μ := fun s => args.length - s.1) (res := fun s => s.2 ++ putSL bs (args.drop s.1))
   (R := TurnEnd bs v fn args)
   (fun s nx hi => by
    obtain ⟨i, done⟩ := s
    obtain ⟨hi, hd⟩ := hi
    simp only at hi hd ⊢
    rcases Nat.lt_or_ge i args.length with hl | hl
    ·obtain ⟨v', fn', args', a⟩ := at_ok hn2 hl
     obtain ⟨r, hr, hw⟩ := ih _ a.mem (okL_mem h.2 _ a.mem) (by have := hlen _ a.mem; omega)
     generalize hu : (Term.mk v' fn' args').putS bs = u at hw
     have hres : putSL bs (args.drop i) = u :: putSL bs (args.drop (i + 1)) := by rw [a.dr]; simp only [putSL, hu]
     simp [Term.enc] at hr
     have happ := fun (H : Hp) (id : Nat) (o2 : Oid) (h1 : H (9, 3) = some (rowT done)) (h2 : H o2 = some (.cells (u.enc.map .d))) => append_rowT (id := id) h1 h2 (by omega)
     obtain ⟨uv, ufn, uargs⟩ := u
     simp only [Term.enc, List.map_cons, List.map_nil] at hw happ
     conv => arg 9; arg 4; unfold b73_0
     cases done with
     | nil =>
      simp [rowA] at happ
      simp [a.lti, a.sz, a.ltm, a.cells, a.le3, plc_raw, a.w, hr, hw, happ, rowA]
      refine .next (i + 1, [.mk uv ufn uargs]) (by omega) (by simp) ?_ ⟨hl, by simp at hd ⊢; omega⟩ (by simp; omega) (by simp only [hres]; simp)
      exact upd4 (by simp)
     | cons y q =>
      simp [rowA] at happ
      simp [a.lti, a.sz, a.ltm, a.cells, a.le3, plc_raw, a.w, hr, hw, happ, rowA]
      refine .next (i + 1, y :: q ++ [.mk uv ufn uargs]) (by omega) (by simp) ?_ ⟨hl, by simp at hd ⊢; omega⟩ (by simp; omega) (by simp only [hres]; simp)
      simp [turnH, rowA]
      exact upd4 (by simp)
    ·obtain rfl : i = args.length := Nat.le_antisymm hi hl
     simp [b73_0]
     refine .fin _ _ ?_
     simp only [List.drop_length, putSL, List.append_nil]
     exact .mk) (0, []) ⟨Nat.zero_le _, rfl⟩
  obtain ⟨e, t, hrun, rfl, nx, rfl⟩ := hloop
  simp only [Term.putS, if_neg hv]
  have hpl := putSL_len bs args
  simp at hrun
  generalize putSL bs args = done at hrun hpl
  refine ⟨.agg [.int .i64 0, .str fn, .sl (encL done) done.length false (some (decide (done = [])))], pcl_body code73 ?_, by simp [Term.enc]⟩
  have hmd := fun H l => mapD_encT H 4 l
  cases done with
  | nil =>
   simp [turnH, putB, rowA, rowT] at hrun
   simp [plc_raw, Term.enc, hv, hrun]
   rfl
  | cons y q =>
   simp [turnH, putB, rowA, rowT] at hrun
   have hel : (encL (y :: q)).length = (q.length + 1) * 3 := by simpa using encL_len (y :: q)
   have htk : List.take ((q.length + 1) * 3) (List.map AV.d (encL (y :: q))) = List.map AV.d (encL (y :: q)) := List.take_of_length_le (by simp [hel])
   simp [plc_raw, Term.enc, hv, hrun, hel, htk, hmd]
end Go.Proofs.Ytiafeijkifpfaaa.Am

/-
 Terms whose variables are told anew, as mathematics: what leaves a term as it was; a shift there and back. No condition.
-/
namespace Go.Proofs.Ytiafeijkifpfaaa.Am
open Go Go.Proofs
set_option linter.unusedSimpArgs false
set_option linter.unusedVariables false
mutual
def Term.mapV (g : Int → Term) : Term → Term
 | .mk v fn args => if fn.toList = [] then g v else .mk 0 fn (mapVL g args)
def mapVL (g : Int → Term) : List Term → List Term
 | [] => []
 | t :: r => t.mapV g :: mapVL g r
end
theorem mapVL_len (g : Int → Term) : ∀ (a : List Term), (mapVL g a).length = a.length
 | [] => rfl
 | t :: r => by simp [mapVL, mapVL_len g r]
theorem mapVL_map (g : Int → Term) : ∀ (a : List Term), mapVL g a = a.map (Term.mapV g)
 | [] => rfl
 | t :: r => by simp [mapVL, mapVL_map g r]
def varT (x : Int) : Term := .mk x (ByteArray.mk #[]) []
theorem empty_name : (ByteArray.mk #[]).toList = [] := by rw [bytes_toList]
theorem no_name {fn : ByteArray} (h : fn.toList = []) : fn = ByteArray.mk #[] := bytes_ext (by rw [h, empty_name])
theorem occL_mem : ∀ {a : List Term} {x : Term} {v : Int}, x ∈ a → v ∈ x.occ → v ∈ occL a
 | t :: r, x, v, h, hv => by
  simp only [occL, List.mem_append]
  rcases List.mem_cons.1 h with rfl | h
  ·exact .inl hv
  ·exact .inr (occL_mem h hv)
theorem occL_of : ∀ {a : List Term} {v : Int}, v ∈ occL a → ∃ x ∈ a, v ∈ x.occ
 | [], v, h => by simp [occL] at h
 | t :: r, v, h => by
  simp only [occL, List.mem_append] at h
  rcases h with h | h
  ·exact ⟨t, by simp, h⟩
  ·obtain ⟨x, hx, hv⟩ := occL_of h; exact ⟨x, by simp [hx], hv⟩
theorem mapV_same (g : Int → Term) (t : Term) : t.shapeB = true → (∀ v ∈ t.occ, g v = varT v) → t.mapV g = t := by
 refine Term.ind (p := fun t => t.shapeB = true → (∀ v ∈ t.occ, g v = varT v) → t.mapV g = t) (fun v fn args ih hs ho => ?_) t
 by_cases hv : fn.toList = []
 ·have ha := shape_var hs hv
  subst ha
  simp only [Term.mapV, if_pos hv]
  rw [ho v (by simp [Term.occ, hv]), varT, no_name hv]
 ·have h0 := shapeB_v' hs hv
  subst h0
  simp only [Term.mapV, if_neg hv]
  simp only [Term.shapeB, Bool.and_eq_true] at hs
  rw [mapVL_map]
  congr 1
  conv => rhs; rw [← List.map_id args]
  exact List.map_congr_left fun x hx => ih x hx (shapeBL_mem' hs.2 x hx) fun v hv2 => ho v (by simp only [Term.occ, List.mem_append]; exact .inr (occL_mem hx hv2))
theorem putSL_map (bs : List Bd) : ∀ (a : List Term), putSL bs a = a.map (Term.putS bs)
 | [] => rfl
 | t :: r => by simp [putSL, putSL_map bs r]
theorem putS_mapV (bs : List Bd) (t : Term) : t.putS bs = t.mapV (ofS bs) := by
 refine Term.ind (p := fun t => t.putS bs = t.mapV (ofS bs)) (fun v fn args ih => ?_) t
 by_cases hv : fn.toList = []
 ·simp only [Term.putS, Term.mapV, if_pos hv]
 ·simp only [Term.putS, Term.mapV, if_neg hv, putSL_map, mapVL_map]
  congr 1
  exact List.map_congr_left ih
theorem ofS_no {bs : List Bd} {v : Int} (h : ∀ b ∈ bs, b.v ≠ v) : ofS bs v = varT v := by
 unfold ofS
 have : bs.find? (fun b => decide (b.v = v)) = none := List.find?_eq_none.2 fun b hb => by simpa using h b hb
 rw [this]; rfl
theorem mapV_twice (a b : Int → Int) (t : Term) : t.shapeB = true → (t.mapV fun v => varT (a v)).mapV (fun v => varT (b v)) = t.mapV fun v => varT (b (a v)) := by
 refine Term.ind (p := fun t => t.shapeB = true → (t.mapV fun v => varT (a v)).mapV (fun v => varT (b v)) = t.mapV fun v => varT (b (a v))) (fun v fn args ih hs => ?_) t
 by_cases hv : fn.toList = []
 ·simp only [Term.mapV, if_pos hv]
  simp only [varT, Term.mapV]
  rw [if_pos empty_name]
 ·simp only [Term.mapV, if_neg hv]
  simp only [Term.mapV, if_neg hv, mapVL_map, List.map_map]
  simp only [Term.shapeB, Bool.and_eq_true] at hs
  congr 1
  exact List.map_congr_left fun x hx => ih x hx (shapeBL_mem' hs.2 x hx)
theorem mapV_occ (a : Int → Int) (t : Term) : t.shapeB = true → (t.mapV fun v => varT (a v)).occ = t.occ.map a := by
 refine Term.ind (p := fun t => t.shapeB = true → (t.mapV fun v => varT (a v)).occ = t.occ.map a) (fun v fn args ih hs => ?_) t
 by_cases hv : fn.toList = []
 ·have ha := shape_var hs hv
  subst ha
  simp only [Term.mapV, if_pos hv, varT, Term.occ, occL, List.append_nil]
  rw [if_pos empty_name]; rfl
 ·simp only [Term.mapV, if_neg hv, Term.occ, List.nil_append]
  simp only [Term.shapeB, Bool.and_eq_true] at hs
  have hs2 := hs.2
  clear hs
  induction args with
  | nil => simp [mapVL, occL]
  | cons x r ih2 =>
   simp only [shapeBL, Bool.and_eq_true] at hs2
   simp only [mapVL, occL, List.map_append]
   rw [ih x (by simp) hs2.1, ih2 (fun y hy => ih y (by simp [hy])) hs2.2]
theorem mapV_size (a : Int → Int) (t : Term) : t.shapeB = true → (t.mapV fun v => varT (a v)).size = t.size ∧ (t.mapV fun v => varT (a v)).depth = t.depth := by
 refine Term.ind (p := fun t => t.shapeB = true → (t.mapV fun v => varT (a v)).size = t.size ∧ (t.mapV fun v => varT (a v)).depth = t.depth) (fun v fn args ih hs => ?_) t
 by_cases hv : fn.toList = []
 ·have ha := shape_var hs hv
  subst ha
  simp only [Term.mapV, if_pos hv, varT, Term.size, sizeL, Term.depth, depthL]; simp
 ·simp only [Term.mapV, if_neg hv, Term.size, Term.depth]
  simp only [Term.shapeB, Bool.and_eq_true] at hs
  have hs2 := hs.2
  clear hs
  have : sizeL (mapVL (fun v => varT (a v)) args) = sizeL args ∧ depthL (mapVL (fun v => varT (a v)) args) = depthL args := by
   induction args with
   | nil => simp [mapVL]
   | cons x r ih2 =>
    simp only [shapeBL, Bool.and_eq_true] at hs2
    simp only [mapVL, sizeL, depthL]
    have h1 := ih x (by simp) hs2.1
    have h2 := ih2 (fun y hy => ih y (by simp [hy])) hs2.2
    omega
  omega
theorem mapV_shape (a : Int → Int) (t : Term) : t.shapeB = true → (∀ v ∈ t.occ, 0 ≤ a v ∧ a v < 1000000) → (t.mapV fun v => varT (a v)).shapeB = true := by
 refine Term.ind (p := fun t => t.shapeB = true → (∀ v ∈ t.occ, 0 ≤ a v ∧ a v < 1000000) → (t.mapV fun v => varT (a v)).shapeB = true) (fun v fn args ih hs ho => ?_) t
 by_cases hv : fn.toList = []
 ·have := ho v (by simp [Term.occ, hv])
  simp only [Term.mapV, if_pos hv, varT, Term.shapeB, shapeBL, Bool.and_true]
  have hn : noName (ByteArray.mk #[]) = true := by simp [noName, empty_name]
  simp [rightB, hn, this]
 ·simp only [Term.mapV, if_neg hv]
  simp only [Term.shapeB, Bool.and_eq_true] at hs ⊢
  have h0 : v = 0 := shapeB_v' (v := v) (fn := fn) (args := args) (by simp [Term.shapeB, hs]) hv
  subst h0
  refine ⟨by rw [mapVL_len]; exact hs.1, ?_⟩
  have key : ∀ l : List Term, (∀ x ∈ l, (x.mapV fun v => varT (a v)).shapeB = true) → shapeBL (mapVL (fun v => varT (a v)) l) = true := by
   intro l
   induction l with
   | nil => intro _; rfl
   | cons x r ih2 => intro h; simp only [mapVL, shapeBL, Bool.and_eq_true]; exact ⟨h x (by simp), ih2 fun y hy => h y (by simp [hy])⟩
  exact key args fun x hx => ih x hx (shapeBL_mem' hs.2 x hx) fun v hv2 => ho v (by simp only [Term.occ, List.mem_append]; exact .inr (occL_mem hx hv2))
theorem occ_range (t : Term) : t.shapeB = true → ∀ v ∈ t.occ, 0 ≤ v ∧ v < 1000000 := by
 refine Term.ind (p := fun t => t.shapeB = true → ∀ v ∈ t.occ, 0 ≤ v ∧ v < 1000000) (fun v fn args ih hs x hx => ?_) t
 simp only [Term.occ, List.mem_append] at hx
 simp only [Term.shapeB, Bool.and_eq_true] at hs
 rcases hx with hx | hx
 ·by_cases hv : fn.toList = []
  ·rw [if_pos hv, List.mem_singleton] at hx
   subst hx
   have hn : noName fn = true := by simp [noName, hv]
   have := hs.1
   simp [rightB, hn] at this
   omega
  ·rw [if_neg hv] at hx; cases hx
 ·obtain ⟨y, hy, hx⟩ := occL_of hx
  exact ih y hy (shapeBL_mem' hs.2 y hy) x hx
end Go.Proofs.Ytiafeijkifpfaaa.Am

/-
 Shifts: the term that the program's function makes. No condition.
-/
namespace Go.Proofs.Ytiafeijkifpfaaa.Am
open Go Go.Proofs
set_option maxHeartbeats 4000000
set_option linter.unusedSimpArgs false
set_option linter.unusedVariables false
def shV (b v : Int) : Term := varT (IntKind.i64.wrap (v + b))
theorem shift1_ok (b v : Int) : ∃ r, pcl Cp 74 [.int .i64 v, .dptr [.int .i64 b]] = some r ∧ wk r = .agg (shV b v).enc := by
 refine ⟨.agg [.int .i64 (IntKind.i64.wrap (v + b)), .str (ByteArray.mk #[]), .sl [] 0 false (some true)], pcl_body code74 ?_, by simp [shV, varT, Term.enc, encL]⟩
 simp [plc_raw]
def ShiftEnd (b : Int) (v : Int) (fn : ByteArray) (args : List Term) (r : List Term) (e : Ex) (t : St) : Prop :=
 AtExit 0 [.junk, .d (.fn 74 [.dptr [.int .i64 b]]), .junk, .junk, .ptr (1, 0) 0 3, .ptr (8, 0) 0 3, .junk, .junk, .junk, .junk, .junk, .junk, .junk, .junk, .junk, .junk, .junk, .junk, .junk, .junk, .d (.sl (encL args) args.length false none), .d (.int .i64 args.length), .d (.int .i64 args.length), .junk, .junk, .junk, .junk, .junk, .junk, .junk, .junk, .junk, .junk, .junk, .junk, .junk] (turnH v fn args r) e t
theorem turnedV_ok (b : Int) (t : Term) : t.ok → t.size ≤ 1048576 →
  ∃ r, pcl Cp 73 [.agg t.enc, .fn 74 [.dptr [.int .i64 b]]] = some r ∧ wk r = .agg (t.mapV (shV b)).enc := by
 refine Term.ind (p := fun t => t.ok → t.size ≤ 1048576 → ∃ r, pcl Cp 73 [.agg t.enc, .fn 74 [.dptr [.int .i64 b]]] = some r ∧ wk r = .agg (t.mapV (shV b)).enc) (fun v fn args ih h hsz => ?_) t
 have hn2 := h.1
 simp only [Term.size] at hsz
 by_cases hv : fn.toList = []
 ·obtain ⟨r, hr, hw⟩ := shift1_ok b v
  simp only [Term.mapV, if_pos hv]
  have hc := copy_ok (shV b v) (by simp [shV, varT, Term.size, sizeL])
  generalize shV b v = u at hw hc ⊢
  obtain ⟨v', fn', args'⟩ := u
  simp [Term.enc] at hw hc
  refine ⟨.agg (Term.mk v' fn' args').enc, pcl_body code73 ?_, by simp [Term.enc]⟩
  simp [Term.enc, plc_raw, hv, hr, hw, hc]
 ·have hlen : ∀ x ∈ args, x.size ≤ sizeL args := fun x hx => sizeL_mem hx
  have hall : args.length ≤ sizeL args := by
   clear ih h hn2 hsz hlen
   induction args with
   | nil => simp
   | cons x r ih => have := x.size_pos; simp only [List.length_cons, sizeL]; omega
  have hloop := loop_rule (P := Try.prog) (pol := plc) (c := b73_0) (m := ⟨[false, true, false, false, true, true, false, false, false, false, false, false, false, false, false, false, false, false, false, false, true, true, true, false, false, false, false, false, false, false, false, false, false, false, false, true], some 14⟩)
   (b := 14) (tm := fun (s : Nat × List Term) => [.junk, .d (.fn 74 [.dptr [.int .i64 b]]), .junk, .junk, .ptr (1, 0) 0 3, .ptr (8, 0) 0 3, .junk, .junk, .junk, .junk, .junk, .junk, .junk, .junk, .junk, .junk, .junk, .junk, .junk, .junk, .d (.sl (encL args) args.length false none), .d (.int .i64 args.length), .d (.int .i64 s.1), .junk, .junk, .junk, .junk, .junk, .junk, .junk, .junk, .junk, .junk, .junk, .junk, .junk])
   (Hf := fun s => turnH v fn args s.2)
   (I := fun s => s.1 ≤ args.length ∧ s.2.length = s.1) (μ := fun s => args.length - s.1) (res := fun s => s.2 ++ mapVL (shV b) (args.drop s.1))
   (R := ShiftEnd b v fn args)
   (fun s nx hi => by
    obtain ⟨i, done⟩ := s
    obtain ⟨hi, hd⟩ := hi
    simp only at hi hd ⊢
    rcases Nat.lt_or_ge i args.length with hl | hl
    ·obtain ⟨v', fn', args', a⟩ := at_ok hn2 hl
     obtain ⟨r, hr, hw⟩ := ih _ a.mem (okL_mem h.2 _ a.mem) (by have := hlen _ a.mem; omega)
     generalize hu : (Term.mk v' fn' args').mapV (shV b) = u at hw
     have hres : mapVL (shV b) (args.drop i) = u :: mapVL (shV b) (args.drop (i + 1)) := by rw [a.dr]; simp only [mapVL, hu]
     simp [Term.enc] at hr
     have happ := fun (H : Hp) (id : Nat) (o2 : Oid) (h1 : H (9, 3) = some (rowT done)) (h2 : H o2 = some (.cells (u.enc.map .d))) => append_rowT (id := id) h1 h2 (by omega)
     obtain ⟨uv, ufn, uargs⟩ := u
     simp only [Term.enc, List.map_cons, List.map_nil] at hw happ
     conv => arg 9; arg 4; unfold b73_0
     cases done with
     | nil =>
      simp [rowA] at happ
      simp [a.lti, a.sz, a.ltm, a.cells, a.le3, plc_raw, a.w, hr, hw, happ, rowA]
      refine .next (i + 1, [.mk uv ufn uargs]) (by omega) (by simp) ?_ ⟨hl, by simp at hd ⊢; omega⟩ (by simp; omega) (by simp only [hres]; simp)
      exact upd4 (by simp)
     | cons y q =>
      simp [rowA] at happ
      simp [a.lti, a.sz, a.ltm, a.cells, a.le3, plc_raw, a.w, hr, hw, happ, rowA]
      refine .next (i + 1, y :: q ++ [.mk uv ufn uargs]) (by omega) (by simp) ?_ ⟨hl, by simp at hd ⊢; omega⟩ (by simp; omega) (by simp only [hres]; simp)
      simp [turnH, rowA]
      exact upd4 (by simp)
    ·obtain rfl : i = args.length := Nat.le_antisymm hi hl
     simp [b73_0]
     refine .fin _ _ ?_
     simp only [List.drop_length, mapVL, List.append_nil]
     exact .mk) (0, []) ⟨Nat.zero_le _, rfl⟩
  obtain ⟨e, t, hrun, rfl, nx, rfl⟩ := hloop
  simp only [Term.mapV, if_neg hv]
  have hpl := mapVL_len (shV b) args
  simp at hrun
  generalize mapVL (shV b) args = done at hrun hpl
  refine ⟨.agg [.int .i64 0, .str fn, .sl (encL done) done.length false (some (decide (done = [])))], pcl_body code73 ?_, by simp [Term.enc]⟩
  have hmd := fun H l => mapD_encT H 4 l
  cases done with
  | nil =>
   simp [turnH, putB, rowA, rowT] at hrun
   simp [plc_raw, Term.enc, hv, hrun]
   rfl
  | cons y q =>
   simp [turnH, putB, rowA, rowT] at hrun
   have hel : (encL (y :: q)).length = (q.length + 1) * 3 := by simpa using encL_len (y :: q)
   have htk : List.take ((q.length + 1) * 3) (List.map AV.d (encL (y :: q))) = List.map AV.d (encL (y :: q)) := List.take_of_length_le (by simp [hel])
   simp [plc_raw, Term.enc, hv, hrun, hel, htk, hmd]
end Go.Proofs.Ytiafeijkifpfaaa.Am

/-
 Loops by one rule, the next object's number being part of the state. No condition.
-/
namespace Go.Proofs.Ytiafeijkifpfaaa.Am
open Go Go.Proofs
inductive RoundN {P : Program} {pol : Pol} {c : ACode} {m : Mask} {σ ρ : Type} (N : σ → Nat) (tm : σ → List AV) (Hf : σ → Hp) (I : σ → Prop) (μ : σ → Nat) (res : σ → ρ) (R : ρ → Ex → St → Prop) (s : σ) : Option (Ex × St) → Prop where
 | next (s' : σ) {tm' : List AV} {H' : Hp} {n : Nat} (hn : n = N s') (htm : tm' = tm s') (hH : H' = Hf s') (hI : I s') (hμ : μ s' < μ s) (hres : res s' = res s) : RoundN N tm Hf I μ res R s (aloop P pol c m ⟨tm', H', n⟩)
 | fin (e : Ex) (t : St) (hR : R (res s) e t) : RoundN N tm Hf I μ res R s (some (e, t))
@[congr] theorem RoundN.congr {P : Program} {pol : Pol} {c : ACode} {m : Mask} {σ ρ : Type} {N : σ → Nat} {tm : σ → List AV} {Hf : σ → Hp} {I : σ → Prop} {μ : σ → Nat} {res : σ → ρ} {R : ρ → Ex → St → Prop} {s : σ} {x y : Option (Ex × St)} (h : x = y) :
  RoundN (P := P) (pol := pol) (c := c) (m := m) N tm Hf I μ res R s x = RoundN (P := P) (pol := pol) (c := c) (m := m) N tm Hf I μ res R s y := by rw [h]
theorem loop_ruleN {P : Program} {pol : Pol} {c : ACode} {m : Mask} {σ ρ : Type} {N : σ → Nat} {tm : σ → List AV} {Hf : σ → Hp} {I : σ → Prop} {μ : σ → Nat} {res : σ → ρ} {R : ρ → Ex → St → Prop}
  (h : ∀ s, I s → RoundN (P := P) (pol := pol) (c := c) (m := m) N tm Hf I μ res R s (loopK (aloop P pol) c m (exec P pol (acall P pol) (aloop P pol) c ⟨tm s, Hf s, N s⟩))) :
  ∀ s, I s → ∃ e t, aloop P pol c m ⟨tm s, Hf s, N s⟩ = some (e, t) ∧ R (res s) e t := by
 have key : ∀ n s, μ s < n → I s → ∃ e t, aloop P pol c m ⟨tm s, Hf s, N s⟩ = some (e, t) ∧ R (res s) e t := by
  intro n
  induction n with
  | zero => intro s h; omega
  | succ n ih =>
   intro s hn hI
   have hr := h s hI
   generalize hx : loopK (aloop P pol) c m (exec P pol (acall P pol) (aloop P pol) c ⟨tm s, Hf s, N s⟩) = x at hr
   cases hr with
   | @next s' tm' H' n' hb htm hH hI' hμ hres =>
    obtain ⟨e, t, h1, h2⟩ := ih s' (by omega) hI'
    exact ⟨e, t, aloop_body (by rw [hx, htm, hH, hb, h1]), hres ▸ h2⟩
   | fin e t hR => exact ⟨e, t, aloop_body hx, hR⟩
 exact fun s hI => key (μ s + 1) s (by omega) hI
end Go.Proofs.Ytiafeijkifpfaaa.Am

/-
 Rows of data that grow. No condition.
-/
namespace Go.Proofs.Ytiafeijkifpfaaa.Am
open Go Go.Proofs
set_option maxHeartbeats 4000000
set_option maxRecDepth 20000
set_option linter.unusedSimpArgs false
set_option linter.unusedVariables false
theorem upd_old {o : Oid} {i : Nat} (h : o.1 < i) (j : Nat) (x : Am.Obj) (H : Hp) : upd H (i, j) x o = H o := by
 simp only [upd]; rw [if_neg]; intro e; rw [e] at h; simp at h
theorem upd_ne {H : Hp} {o p : Oid} {x : Am.Obj} (h : p ≠ o) : Am.upd H o x p = H p := by simp only [Am.upd]; rw [if_neg h]
theorem below_lt {k : Nat} {H : Hp} {p : Oid} (h : p.1 < k) : below k H p = H p := by simp only [below]; rw [if_pos h]
inductive RowD (H : Hp) (sz : Nat) : AV → Oid → List D → Nat → Prop
 | nil (q : Oid) : RowD H sz (.d (.sl [] 0 true (some true))) q [] 0
 | vn (q : Oid) (h : H q = some .vnil) : RowD H sz (.osl q 0 0 1 0) q [] 0
 | row (q : Oid) (cs : List D) (n : Nat) (h : H q = some (.grow (cs.map .d))) (hl : cs.length = n * sz) : RowD H sz (.osl q 0 n sz cs.length) q cs n
theorem RowD.keep {H H' : Hp} {sz : Nat} {v : AV} {q : Oid} {cs : List D} {n : Nat} (h : RowD H sz v q cs n) (k : H' q = H q) : RowD H' sz v q cs n := by
 cases h with
 | nil => exact .nil _
 | vn _ h => exact .vn _ (k.trans h)
 | row _ _ _ h hl => exact .row _ _ _ (k.trans h) hl
theorem RowD.len {H : Hp} {sz : Nat} {v : AV} {q : Oid} {cs : List D} {n : Nat} (h : RowD H sz v q cs n) : cs.length = n * sz := by
 cases h with
 | nil => simp
 | vn _ h => simp
 | row _ _ _ h hl => exact hl
def RowD.next (v : AV) (q : Oid) (id : Nat) : Oid := match v with | .d _ => (id, 0) | _ => q
theorem append_row {T E : TypeId} {sz : Nat} {z : List AV} (hE : telem Try.prog T = some E) (hs : tsize Try.prog E = some sz) (hz : zeroCells Try.prog E = some z) (hzl : z.length = sz) (hb : tbytes Try.prog E = some true) (hk : tkind Try.prog T = 3) (hsz : 0 < sz) (hsz2 : sz ≤ 1024)
  {H : Hp} {v src : AV} {q : Oid} {cs xs : List D} {n : Nat} (h : RowD H sz v q cs n) (hn : n ≤ 33554432) (hx : xs.length = sz) (hsrc : srcCells Try.prog H sz T src = some (xs, 1, [])) (id : Nat) :
  ∃ ver H', appendO Try.prog H id T T v src = some (.osl (RowD.next v q id) 0 (n + 1) sz ver, H') ∧ RowD H' sz (.osl (RowD.next v q id) 0 (n + 1) sz ver) (RowD.next v q id) (cs ++ xs) (n + 1) ∧ ∀ p, p ≠ RowD.next v q id → H' p = H p := by
 have h0 : ¬ sz = 0 := by omega
 have hm : n * sz ≤ 34359738368 := Nat.le_trans (Nat.mul_le_mul hn hsz2) (by decide)
 cases h with
 | nil =>
  refine ⟨xs.length, upd H (id, 0) (.grow (xs.map .d)), ?_, ?_, fun p hp => upd_ne hp⟩
  ·simp only [RowD.next]
   have : ¬ 68719476736 < sz := by omega
   simp [appendO, hE, hs, hz, hsrc, hzl, hb, h0, hx, growO, this]
  ·rw [List.nil_append]; exact .row _ xs 1 (upd_same _ _ _) (by omega)
 | vn _ h =>
  refine ⟨xs.length, upd H q (.grow (xs.map .d)), ?_, ?_, fun p hp => upd_ne hp⟩
  ·simp only [RowD.next]
   have : ¬ 68719476736 < sz := by omega
   simp [appendO, hE, hs, hz, hsrc, hzl, hb, h0, hx, growO, h, this]
  ·rw [List.nil_append]; exact .row _ xs 1 (upd_same _ _ _) (by omega)
 | row _ _ _ h hl =>
  have h3 : List.take (n * sz) (cs.map AV.d) = cs.map .d := List.take_of_length_le (by simp [hl])
  have h4 : ¬ n * sz + sz ≤ n * sz := by omega
  have h5 : n * sz ≤ 68719476736 := by omega
  have hr := RowD.row (H := upd H q (.grow ((cs ++ xs).map .d))) (sz := sz) q (cs ++ xs) (n + 1) (upd_same _ _ _) (by rw [List.length_append, hl, hx, Nat.add_mul, Nat.one_mul])
  refine ⟨_, _, ?_, hr, fun p hp => upd_ne hp⟩
  simp only [RowD.next]
  have : ¬ 68719476736 < sz := by omega
  simp [appendO, hE, hs, hz, hsrc, hzl, hb, h0, hx, growO, h, hl, h3, h4, h5, this]
theorem append_int {H : Hp} {v : AV} {q : Oid} {cs : List D} {n : Nat} (h : RowD H 1 v q cs n) (hn : n ≤ 33554432) {e : Oid} {x : Int} (he : H e = some (.cells [.d (.int .i64 x)])) (id : Nat) :
  ∃ ver H', appendO Try.prog H id 50 50 v (.osl e 0 1 1 1) = some (.osl (RowD.next v q id) 0 (n + 1) 1 ver, H') ∧ RowD H' 1 (.osl (RowD.next v q id) 0 (n + 1) 1 ver) (RowD.next v q id) (cs ++ [.int .i64 x]) (n + 1) ∧ ∀ p, p ≠ RowD.next v q id → H' p = H p :=
 append_row (E := 3) (z := [.d (.int .i64 0)]) (by simp) (by simp) (by simp) (by simp) (by simp) (by simp) (by decide) (by decide) h hn (by simp) (by simp [srcCells, srcRaw, he]) id
theorem RowD.pos {H : Hp} {sz : Nat} {v : AV} {q : Oid} {cs : List D} {n : Nat} (h : RowD H sz v q cs n) (hn : 0 < n) : v = .osl q 0 n sz cs.length ∧ H q = some (.grow (cs.map .d)) ∧ cs.length = n * sz := by
 cases h with
 | nil => omega
 | vn _ h => omega
 | row _ _ _ h hl => exact ⟨rfl, h, hl⟩
theorem RowD.lenI {H : Hp} {sz : Nat} {v : AV} {q : Oid} {cs : List D} {n : Nat} (h : RowD H sz v q cs n) {T : TypeId} (hk : tkind Try.prog T = 3) : lenD Try.prog T v = some (.int .i64 n) := by
 cases h with
 | nil => simp [hk]
 | vn _ h => simp [hk]
 | row _ _ _ h hl => simp [hk]
theorem RowD.form {H : Hp} {sz : Nat} {v : AV} {q : Oid} {cs : List D} {n : Nat} (h : RowD H sz v q cs n) : (v = .d (.sl [] 0 true (some true)) ∧ n = 0) ∨ ∃ s ver, v = .osl q 0 n s ver := by
 cases h with
 | nil => exact .inl ⟨rfl, rfl⟩
 | vn _ h => exact .inr ⟨_, _, rfl⟩
 | row _ _ _ h hl => exact .inr ⟨_, _, rfl⟩
theorem RowD.next_or (v : AV) (q : Oid) (id : Nat) : RowD.next v q id = (id, 0) ∨ RowD.next v q id = q := by
 unfold RowD.next; split
 ·exact .inl rfl
 ·exact .inr rfl
end Go.Proofs.Ytiafeijkifpfaaa.Am

/-
 A term's variables, one behind the other: what the program's function appends to a row. No condition.
-/
namespace Go.Proofs.Ytiafeijkifpfaaa.Am
open Go Go.Proofs
set_option maxHeartbeats 4000000
set_option maxRecDepth 20000
set_option linter.unusedSimpArgs false
set_option linter.unusedVariables false
structure CoS where
 i : Nat
 v : AV
 q : Oid
 cs : List D
 n : Nat
 H : Hp
 N : Nat
structure CoI (H0 : Hp) (nx0 : Nat) (q0 : Oid) (args : List Term) (s : CoS) : Prop where
 le : s.i ≤ args.length
 row : RowD s.H 1 s.v s.q s.cs s.n
 sz : s.n + (occL (args.drop s.i)).length ≤ 33554432
 lt : s.q.1 < s.N
 lx : nx0 ≤ s.N
 or : s.q = q0 ∨ nx0 ≤ s.q.1
 fr : ∀ p : Oid, p.1 < nx0 → p ≠ q0 → s.H p = H0 p
def Coll (H : Hp) (nx : Nat) (q : Oid) (cs : List D) (n : Nat) (r : Option (AV × Hp × Nat)) : Prop :=
 ∃ v' q' H' nx', r = some (v', H', nx') ∧ RowD H' 1 v' q' cs n ∧ q'.1 < nx' ∧ nx ≤ nx' ∧ (q' = q ∨ nx ≤ q'.1) ∧ ∀ p : Oid, p.1 < nx → p ≠ q → H' p = H p
theorem collect_ok (t : Term) : t.ok → ∀ (H : Hp) (nx : Nat) (v : AV) (q : Oid) (cs : List D) (n : Nat), RowD H 1 v q cs n → q.1 < nx → n + t.occ.length ≤ 33554432 →
  Coll H nx q (cs ++ t.occ.map (D.int .i64 ·)) (n + t.occ.length) (acall Try.prog plc 89 [.d (.agg t.enc), v] H nx) := by
 refine Term.ind (p := fun t => t.ok → ∀ (H : Hp) (nx : Nat) (v : AV) (q : Oid) (cs : List D) (n : Nat), RowD H 1 v q cs n → q.1 < nx → n + t.occ.length ≤ 33554432 →
  Coll H nx q (cs ++ t.occ.map (D.int .i64 ·)) (n + t.occ.length) (acall Try.prog plc 89 [.d (.agg t.enc), v] H nx)) (fun tv fn args ih h H nx v q cs n hr hlt hsz => ?_) t
 have hn2 := h.1
 have hloop := fun (w : AV) (s0 : CoS) (H0 : Hp) (nx0 : Nat) (q0 : Oid) (hI : CoI H0 nx0 q0 args s0) => loop_ruleN (P := Try.prog) (pol := plc) (c := b89_0) (m := ⟨[false, true, false, false, true, false, false, false, false, false, false, false, false, false, false, false, true, true, true, false, false, false, false, false, false, false, true], none⟩)
  (N := fun s : CoS => s.N) (tm := fun s => [.junk, s.v, .junk, .junk, w, .junk, .junk, .junk, .junk, .junk, .junk, .junk, .junk, .junk, .junk, .junk, .d (.sl (encL args) args.length false none), .d (.int .i64 args.length), .d (.int .i64 s.i), .junk, .junk, .junk, .junk, .junk, .junk, .junk, .junk]) (Hf := fun s => s.H) (I := CoI H0 nx0 q0 args) (μ := fun s => args.length - s.i)
  (res := fun s => (s.cs ++ (occL (args.drop s.i)).map (D.int .i64 ·), s.n + (occL (args.drop s.i)).length))
  (R := fun r e st => ∃ s, CoI H0 nx0 q0 args s ∧ e = .exit 0 ∧ st = ⟨[.junk, s.v, .junk, .junk, w, .junk, .junk, .junk, .junk, .junk, .junk, .junk, .junk, .junk, .junk, .junk, .d (.sl (encL args) args.length false none), .d (.int .i64 args.length), .d (.int .i64 args.length), .junk, .junk, .junk, .junk, .junk, .junk, .junk, .junk], s.H, s.N⟩ ∧ (s.cs, s.n) = r)
  (fun s hI => by
   rcases Nat.lt_or_ge s.i args.length with hl | hl
   ·obtain ⟨v1, fn1, args1, a⟩ := at_ok hn2 hl
    have hdr := a.dr
    have hrow2 : RowD (upd (upd s.H (s.N + 3, 3) .vnil) (s.N + 3, 0) (.cells [.d (.int .i64 v1), .d (.str fn1), .d (.sl (encL args1) args1.length false none)])) 1 s.v s.q s.cs s.n := hI.row.keep (by rw [upd_old (by have := hI.lt; omega), upd_old (by have := hI.lt; omega)])
    have hso := hI.sz
    rw [hdr] at hso
    simp only [occL, List.length_append] at hso
    obtain ⟨v', q', H', nx', hc, hr', hq', hnx', hor, hfr⟩ := ih _ a.mem (okL_mem h.2 _ a.mem) _ (s.N + 9) _ _ _ _ hrow2 (by have := hI.lt; omega) (by omega)
    simp [Term.enc] at hc
    have hnext : ∀ v'' H'', v'' = v' → H'' = H' → CoI H0 nx0 q0 args ⟨s.i + 1, v'', q', s.cs ++ (Term.mk v1 fn1 args1).occ.map (D.int .i64 ·), s.n + (Term.mk v1 fn1 args1).occ.length, H'', nx' + 2⟩ := fun v'' H'' e1 e2 => by
     subst e1; subst e2
     have h1 := hI.lt
     have h2 := hI.lx
     refine ⟨hl, hr', by simp only; omega, by simp only; omega, by simp only; omega, ?_, fun p hp hpo => ?_⟩
     ·simp only
      rcases hor with e | e
      ·rw [e]; exact hI.or
      ·exact .inr (by omega)
     ·have hps : p ≠ s.q := fun e => by
       rcases hI.or with e2 | e2
       ·exact hpo (e.trans e2)
       ·rw [e] at hp; omega
      show H'' p = H0 p
      rw [hfr p (by omega) hps, upd_old (by omega), upd_old (by omega)]
      exact hI.fr p hp hpo
    have hres : ((s.cs ++ (Term.mk v1 fn1 args1).occ.map (D.int .i64 ·)) ++ (occL (args.drop (s.i + 1))).map (D.int .i64 ·), s.n + (Term.mk v1 fn1 args1).occ.length + (occL (args.drop (s.i + 1))).length) = (s.cs ++ (occL (args.drop s.i)).map (D.int .i64 ·), s.n + (occL (args.drop s.i)).length) := by
     rw [hdr]; simp only [occL, List.map_append, List.length_append, List.append_assoc, Nat.add_assoc]
    rcases hr'.form with ⟨rfl, h0⟩ | ⟨s1, ver, rfl⟩
    ·simp [b89_0, a.lti, a.sz, a.ltm, a.cells, a.le3, plc_raw, a.w, Nat.add_assoc, hc]
     have hcs := hr'.len
     rw [h0] at hcs
     have hcs := List.length_eq_zero_iff.1 (hcs.trans (Nat.zero_mul 1))
     rw [h0, hcs] at hres
     have h1 := hI.lt
     have h2 := hI.lx
     refine .next ⟨s.i + 1, .osl (s.N + 8, 1) 0 0 1 0, (s.N + 8, 1), [], 0, upd H' (s.N + 8, 1) .vnil, nx' + 2⟩ rfl rfl rfl ⟨by simp only; omega, .vn _ (upd_same _ _ _), by simp only; omega, by simp only; omega, by simp only; omega, .inr (by simp only; omega), fun p hp hpo => ?_⟩ (by simp only; omega) hres
     show upd H' (s.N + 8, 1) .vnil p = H0 p
     rw [upd_old (by omega)]
     exact (hnext _ _ rfl rfl).fr p hp hpo
    ·simp [b89_0, a.lti, a.sz, a.ltm, a.cells, a.le3, plc_raw, a.w, Nat.add_assoc, hc]
     exact .next _ rfl rfl rfl (hnext _ _ rfl rfl) (by simp only; omega) hres
   ·obtain ⟨i, v2, q2, cs2, n2, H2, N2⟩ := s
    obtain rfl : i = args.length := Nat.le_antisymm hI.le hl
    simp [b89_0]
    refine .fin _ _ ⟨⟨args.length, v2, q2, cs2, n2, H2, N2 + 1⟩, { hI with lt := by have := hI.lt; simp only at this ⊢; omega, lx := by have := hI.lx; simp only at this ⊢; omega }, rfl, rfl, by simp [occL]⟩) s0 hI
 by_cases hv : fn.toList = []
 ·have ho : (Term.mk tv fn args).occ = tv :: occL args := by simp only [Term.occ, if_pos hv]; rfl
  rw [ho] at hsz ⊢
  simp only [List.length_cons] at hsz ⊢
  have hrow2 : RowD (upd (upd (upd H (nx, 0) (.cells [.d (.int .i64 tv), .d (.str fn), .d (.sl (encL args) args.length false none)])) (nx + 1, 1) .vnil) (nx + 8, 0) (.cells [.d (.int .i64 tv)])) 1 v q cs n := hr.keep (by rw [upd_old (by omega), upd_old (by omega), upd_old (by omega)])
  obtain ⟨ver, H2, ha, hr2, hf2⟩ := append_int hrow2 (by omega) (e := (nx + 8, 0)) (x := tv) (upd_same _ _ _) (nx + 9)
  have hno := RowD.next_or v q (nx + 9)
  generalize RowD.next v q (nx + 9) = q2 at ha hr2 hf2 hno
  have hb : H2 (nx, 0) = some (.cells [.d (.int .i64 tv), .d (.str fn), .d (.sl (encL args) args.length false none)]) := by
   rw [hf2 (nx, 0) (by rcases hno with e | e <;> rw [e] <;> intro e2 <;> (try simp only [Prod.mk.injEq] at e2) <;> first | omega | (rw [← e2] at hlt; simp at hlt)), upd_old (by simp only; omega), upd_old (by simp only; omega)]
   exact upd_same _ _ _
  have hq1 : q2.1 < nx + 15 := by rcases hno with e | e <;> rw [e] <;> (try simp only) <;> omega
  have hq2 : q2 = q ∨ nx ≤ q2.1 := by
   rcases hno with e | e
   ·exact .inr (by rw [e]; simp only; omega)
   ·exact .inl e
  have hq3 : ∀ p : Oid, p.1 < nx → p ≠ q → H2 p = H p := fun p hp hpo => by
   have hpq : p ≠ q2 := by
    rcases hno with e | e
    ·rw [e]; intro e; rw [e] at hp; simp only at hp; omega
    ·rw [e]; exact hpo
   rw [hf2 p hpq, upd_old (by omega), upd_old (by omega), upd_old (by omega)]
  have := hloop (.osl (nx + 1, 1) 0 0 1 0) ⟨0, .osl q2 0 (n + 1) 1 ver, q2, cs ++ [.int .i64 tv], n + 1, H2, nx + 15⟩ H nx q ⟨Nat.zero_le _, hr2, by simp only [List.drop_zero]; omega, hq1, by simp, hq2, hq3⟩
  obtain ⟨e, st, hrun, s, hs, rfl, rfl, hres⟩ := this
  have hpos : 0 < s.n := by have := congrArg Prod.snd hres; simp only [List.drop_zero] at this; omega
  obtain ⟨hv1, hv2, hv3⟩ := hs.row.pos hpos
  have e1 : s.cs = cs ++ (tv :: occL args).map (D.int .i64 ·) := by have := congrArg Prod.fst hres; simpa using this
  have e2 : s.n = n + ((occL args).length + 1) := by have := congrArg Prod.snd hres; simp only [List.drop_zero] at this; omega
  have hrow := hs.row
  rw [hv1, e1, e2] at hrow
  refine ⟨s.v, s.q, s.H, s.N + 2, acall_body code89 ?_, by rw [hv1, e1, e2]; exact hrow, by have := hs.lt; omega, by have := hs.lx; omega, hs.or, hs.fr⟩
  rw [hv1] at hrun ⊢
  simp at hrun
  rcases hr.form with ⟨rfl, h0⟩ | ⟨s1, ver, rfl⟩
  ·simp [plc_raw, hv, Term.enc, Nat.add_assoc, ha, hb, hrun]
  ·simp [plc_raw, hv, Term.enc, Nat.add_assoc, ha, hb, hrun]
 ·have ho : (Term.mk tv fn args).occ = occL args := by simp only [Term.occ, if_neg hv]; rfl
  rw [ho] at hsz ⊢
  have := hloop (.osl (nx + 1, 1) 0 0 1 0) ⟨0, v, q, cs, n, upd (upd H (nx, 0) (.cells [.d (.int .i64 tv), .d (.str fn), .d (.sl (encL args) args.length false none)])) (nx + 1, 1) .vnil, nx + 9⟩ H nx q ⟨Nat.zero_le _, hr.keep (by show upd _ _ _ q = H q; rw [upd_old (by omega), upd_old (by omega)]), by simpa using hsz, by simp only; omega, by simp, .inl rfl, fun p hp hpo => by
   show upd _ _ _ p = H p
   rw [upd_old (by omega), upd_old (by omega)]⟩
  obtain ⟨e, st, hrun, s, hs, rfl, rfl, hres⟩ := this
  have e1 : s.cs = cs ++ (occL args).map (D.int .i64 ·) := by have := congrArg Prod.fst hres; simpa using this
  have e2 : s.n = n + (occL args).length := by have := congrArg Prod.snd hres; simpa using this
  have hrow := hs.row
  have hform := hs.row.form
  have hlt2 := hs.lt
  have hlx2 := hs.lx
  rw [e1, e2] at hrow
  generalize hsv : s.v = w at hrow hrun hform
  simp at hrun
  rcases hform with ⟨rfl, h0⟩ | ⟨s1, ver, rfl⟩
  ·refine ⟨.osl (s.N + 1, 1) 0 0 1 0, (s.N + 1, 1), upd s.H (s.N + 1, 1) .vnil, s.N + 2, acall_body code89 ?_, ?_, by simp only; omega, by omega, .inr (by simp only; omega), fun p hp hpo => (upd_old (by omega) _ _ _).trans (hs.fr p hp hpo)⟩
   ·simp [plc_raw, hv, Term.enc, Nat.add_assoc, hrun]
   ·have hcs := hrow.len
    have h00 : n + (occL args).length = 0 := by rw [← e2]; exact h0
    rw [h00] at hcs ⊢
    rw [List.length_eq_zero_iff.1 (hcs.trans (Nat.zero_mul 1))]
    exact .vn _ (upd_same _ _ _)
  ·refine ⟨_, s.q, s.H, s.N + 2, acall_body code89 ?_, hrow, by omega, by omega, hs.or, hs.fr⟩
   simp [plc_raw, hv, Term.enc, Nat.add_assoc, hrun]
end Go.Proofs.Ytiafeijkifpfaaa.Am


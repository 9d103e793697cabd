/-
  Joined texts: AmRow, AmT, AmCr, AmCo, AmOa, AmG, AmWk, AmNe, AmOb. No condition.
-/
import Derived.Test.YtkpomccbohjjpaaAmPan
import Derived.ChangeArms
import Derived.WalkKit
import Derived.ProofKit
import Derived.OpenShut
import Derived.ShutString
import Derived.ChangeOld
import Derived.Below
import Derived.JoinedCond
/-
 What the statements' arguments are read as: terms, binds. No condition.
-/
namespace Go.Proofs.Ytkpomccbohjjpaa.Am
open Go Go.Proofs
open Go.ChangeShapes Go.WideShapes Go.ChangeAt Go.RowKit
open Go.ChangeMaps (open_string shut_string)
set_option linter.unusedVariables false
theorem row_own : ownKnob Try.prog.godebug = none := by kernel_rfl
theorem row_laidOut : laidOutB Try.prog = true := by kernel_rfl
theorem encL_flat : ∀ (ts : List Am.Term), encL ts = ts.flatMap Am.Term.enc
 | [] => rfl
 | t :: r => by simp [encL, encL_flat r]
theorem okL_of : ∀ {ts : List Am.Term}, (∀ x ∈ ts, x.ok) → okL ts
 | [], _ => trivial
 | t :: r, h => ⟨h t (by simp), okL_of fun x hx => h x (by simp [hx])⟩
theorem sizeL_sum : ∀ (ts : List Am.Term), sizeL ts = (ts.map Am.Term.size).sum
 | [] => rfl
 | t :: r => by simp [sizeL, sizeL_sum r]
theorem reads_term : ∀ n, ReadsB Try.prog 36 n Am.Term.enc Am.Term.ok Am.Term.size
 | 0 => .zero
 | n + 1 => by
  have hs : ReadsB Try.prog 34 n (fun xs : List Am.Term => [D.sl (xs.flatMap Am.Term.enc) xs.length false none]) (fun xs => xs.length ≤ maxLen ∧ ∀ x ∈ xs, x.ok) (fun xs => (xs.map Am.Term.size).sum + 1) := by
   cases n with
   | zero => exact .zero
   | succ m => exact .slice Try.underlying34 (by rw [show Try.prog.cellsOf 36 = 3 from by kernel_rfl]; decide) ((reads_term (m + 1)).le (by omega))
  exact (ReadsB.struct3 (s0 := 1) (s1 := 1) (s2 := 1) Try.underlying36 (by kernel_rfl) ⟨by kernel_rfl, rfl⟩ ⟨by kernel_rfl, rfl⟩ ⟨by kernel_rfl, rfl⟩ (ReadsB.int Try.underlying3) (ReadsB.str Try.underlying9) hs).map (fun x => .mk x.1 x.2.1 x.2.2)
   (fun x => by simp [Am.Term.enc, encL_flat]) (fun x hx => ⟨by have := hx.2.2.1; simp [maxLen] at this; omega, okL_of hx.2.2.2⟩) (fun x => by simp only [Am.Term.size, sizeL_sum]; omega)
theorem sum_one {α : Type} (l : List α) : (l.map fun _ => 1).sum = l.length := by induction l <;> simp_all <;> omega
def okBz (bs : List Bd) : Prop := okB bs
theorem encB_flat (l : List Bd) : encB l = l.flatMap Bd.enc := rfl
theorem reads_bind (m : Nat) : ReadsB Try.prog 77 m Bd.enc (fun b => b.t.ok) (fun b => b.t.size) := by
 cases m with
 | zero => exact .zero
 | succ k =>
  exact (ReadsB.struct2 (s0 := 1) (s1 := 3) Try.underlying77 (by kernel_rfl) ⟨by kernel_rfl, rfl⟩ ⟨by kernel_rfl, rfl⟩ (ReadsB.int Try.underlying3) (reads_term k)).map (fun x => ⟨x.1, x.2⟩) (fun x => rfl) (fun x hx => hx.2) (fun x => by show x.2.size ≤ 1 + x.2.size + 1; omega)
theorem reads_binds (n : Nat) : ReadsB Try.prog 51 n (fun bs : List Bd => [D.sl (encB bs) bs.length false none]) okB (fun bs => (bs.map fun b => b.t.size).sum) := by
 cases n with
 | zero => exact .zero
 | succ m =>
  exact (ReadsB.slice Try.underlying51 (by rw [show Try.prog.cellsOf 77 = 4 from by kernel_rfl]; decide) (reads_bind m)).map (fun xs => xs) (fun xs => rfl) (fun xs hx => ⟨by have := hx.1; simp [maxLen] at this; omega, hx.2⟩) (fun xs => Nat.le_succ _)
theorem binds_le {bs : List Bd} {n : Nat} (h : (bs.map fun b => b.t.size).sum ≤ n) : ∀ x ∈ bs, x.t.size ≤ n := by
 induction bs with
 | nil => intro x hx; simp at hx
 | cons b r ih =>
  intro x hx
  simp only [List.map_cons, List.sum_cons] at h
  rcases List.mem_cons.1 hx with rfl | hx
  ·omega
  ·have := ih (by omega) x hx; omega
theorem binds_len {bs : List Bd} {n : Nat} (h : (bs.map fun b => b.t.size).sum ≤ n) : bs.length ≤ n := by
 have : bs.length ≤ (bs.map fun b => b.t.size).sum := by
  clear h
  induction bs with
  | nil => simp
  | cons b r ih => have := b.t.size_pos; simp only [List.map_cons, List.sum_cons, List.length_cons]; omega
 omega
theorem ReadsB.bool {P : Program} {t : TypeId} {n : Nat} (ht : P.underlying t = some .bool) : ReadsB P t n (fun x : Bool => [D.bool x]) (fun _ => True) (fun _ => 1) := by
 intro H e w base sp held fuel hf cs d h
 obtain ⟨b, rfl, _⟩ := DataW.trod_bool ht h
 exact ⟨b, .one1 (.bool _) rfl, trivial, bulk_pos _⟩
theorem reads_lit (m : Nat) : ReadsB Try.prog 38 m Lt.enc Lt.ok (fun x => x.l.size + x.r.size) := by
 cases m with
 | zero => exact .zero
 | succ k =>
  exact (ReadsB.struct3 (s0 := 1) (s1 := 3) (s2 := 3) Try.underlying38 (by kernel_rfl) ⟨by kernel_rfl, rfl⟩ ⟨by kernel_rfl, rfl⟩ ⟨by kernel_rfl, rfl⟩ (ReadsB.bool Try.underlying4) (reads_term k) (reads_term k)).map (fun x => ⟨x.1, x.2.1, x.2.2⟩)
   (fun x => by simp [Lt.enc]) (fun x hx => ⟨hx.2.1, hx.2.2⟩) (fun x => by simp only []; omega)
theorem arg_slice {w : World} {a : Option Addr} {l c : Nat} {x : D} (h : CD w [x] (Value.slice a l c).cells.toList) : RepD (· < w.heap.size) w x (.slice a l c) := by
 have := h.rep 0 x rfl
 simpa [Value.cells] using this
theorem arg_agg {w : World} {cs : Array Value} {ds : List D} (h : CD w ds (Value.agg cs).cells.toList) : RepD (· < w.heap.size) w (.agg ds) (.agg cs) := by
 have hl := h.len
 simp only [Value.cells, Array.length_toList] at hl
 refine .agg ds cs hl (fun j hj => ?_) (fun j x hx => ?_)
 ·have := h.one j (by simpa [Value.cells] using hj)
  simpa [Value.cells] using this
 ·have := h.rep j x hx
  simpa [Value.cells] using this
end Go.Proofs.Ytkpomccbohjjpaa.Am

/-
 Terms: what the program's functions and the document's compute of them, as the abstract machine runs them. No condition.
-/
namespace Go.Proofs.Ytkpomccbohjjpaa.Am
open Go Go.Proofs
set_option maxHeartbeats 4000000
set_option linter.unusedSimpArgs false
def termH (v : Int) (fn : ByteArray) (args : List Term) : Hp := upd (fun _ => none) (0, 0) (.cells [.d (.int .i64 v), .d (.str fn), .d (.sl (encL args) args.length false none)])
theorem size_loop (ts : List Term) (hn : ts.length ≤ 9223372036854775807) (H : Hp) (hH : below 7 H = H) (hrec : ∀ x ∈ ts, pcl Cp 89 [.agg x.enc] = some (.int .i64 x.sizeW)) :
  ∃ e t, aloop Try.prog plc b89_0 ⟨[false, false, true, true, false, false, false, true, true, true, false, false, false, false, false, false, false, false, true], some 7⟩ ⟨[.junk, .junk, .d (.int .i64 0), .d (.int .i64 1), .junk, .junk, .junk, .d (.sl (encL ts) ts.length false none), .d (.int .i64 ts.length), .d (.int .i64 0), .junk, .junk, .junk, .junk, .junk, .junk, .junk, .junk, .junk], H, 7⟩ = some (e, t) ∧
   AtExit 0 [.junk, .junk, .d (.int .i64 0), .d (.int .i64 (sizeWL 1 ts)), .junk, .junk, .junk, .d (.sl (encL ts) ts.length false none), .d (.int .i64 ts.length), .d (.int .i64 ts.length), .junk, .junk, .junk, .junk, .junk, .junk, .junk, .junk, .junk] H e t := by
 refine loop_rule (b := 7) (tm := fun (s : Nat × Int) => [.junk, .junk, .d (.int .i64 0), .d (.int .i64 s.2), .junk, .junk, .junk, .d (.sl (encL ts) ts.length false none), .d (.int .i64 ts.length), .d (.int .i64 s.1), .junk, .junk, .junk, .junk, .junk, .junk, .junk, .junk, .junk]) (Hf := fun _ => H)
  (I := fun s => s.1 ≤ ts.length) (μ := fun s => ts.length - s.1) (res := fun s => sizeWL s.2 (ts.drop s.1)) (R := fun r => AtExit 0 [.junk, .junk, .d (.int .i64 0), .d (.int .i64 r), .junk, .junk, .junk, .d (.sl (encL ts) ts.length false none), .d (.int .i64 ts.length), .d (.int .i64 ts.length), .junk, .junk, .junk, .junk, .junk, .junk, .junk, .junk, .junk] H) (fun s nx hi => ?_) (0, 1) (Nat.zero_le _)
 obtain ⟨i, acc⟩ := s
 rcases Nat.lt_or_ge i ts.length with hl | hl
 ·obtain ⟨v, fn, args, a⟩ := at_ok hn hl
  have hcall := hrec _ a.mem
  simp [Term.enc] at hcall
  conv => arg 9; arg 4; unfold b89_0
  simp [a.lti, a.sz, a.ltm, a.cells, a.le3, plc_raw, hcall, a.w, hH]
  exact .next (i + 1, IntKind.i64.wrap (acc + (Term.mk v fn args).sizeW)) (by omega) rfl rfl hl (by simp; omega) (by simp only [a.dr, sizeWL])
 ·obtain rfl : i = ts.length := Nat.le_antisymm hi hl
  simp [b89_0, hH]
  exact .fin _ _ (by simp [sizeWL]; exact .mk)
theorem size_ok (t : Term) : t.ok → pcl Cp 89 [.agg t.enc] = some (.int .i64 t.sizeW) := by
 refine Term.ind (p := fun t => t.ok → pcl Cp 89 [.agg t.enc] = some (.int .i64 t.sizeW)) (fun v fn args ih h => ?_) t
 obtain ⟨e, t, hrun, rfl, nx, rfl⟩ := size_loop args h.1 (termH v fn args) (by simp [termH]) (fun x hx => ih x hx (okL_mem h.2 x hx))
 refine pcl_body code89 ?_
 simp [Term.enc, termH] at hrun ⊢
 simp [hrun, Term.sizeW]
theorem rsize_loop (v0 : Int) (fn0 : ByteArray) (ts : List Term) (hn : ts.length ≤ 9223372036854775807) (hrec : ∀ x ∈ ts, pcl Cp 57 [.agg x.enc] = some (.int .i64 x.sizeW)) :
  ∃ e t, aloop Try.prog plc b57_0 ⟨[false, true, true, true, true, false, false, false, false, false, false, false, false, false, false, false, false, false, false, false, true], some 4⟩ ⟨[.junk, .ptr (0, 0) 0 3, .d (.int .i64 0), .d (.int .i64 1), .d (.int .i64 0), .junk, .junk, .junk, .junk, .junk, .junk, .junk, .junk, .junk, .junk, .junk, .junk, .junk, .junk, .junk, .junk], termH v0 fn0 ts, 4⟩ = some (e, t) ∧
   AtExit 0 [.junk, .ptr (0, 0) 0 3, .d (.int .i64 0), .d (.int .i64 (sizeWL 1 ts)), .d (.int .i64 ts.length), .junk, .junk, .junk, .junk, .junk, .junk, .junk, .junk, .junk, .junk, .junk, .junk, .junk, .junk, .junk, .junk] (termH v0 fn0 ts) e t := by
 refine loop_rule (b := 4) (tm := fun (s : Nat × Int) => [.junk, .ptr (0, 0) 0 3, .d (.int .i64 0), .d (.int .i64 s.2), .d (.int .i64 s.1), .junk, .junk, .junk, .junk, .junk, .junk, .junk, .junk, .junk, .junk, .junk, .junk, .junk, .junk, .junk, .junk]) (Hf := fun _ => termH v0 fn0 ts)
  (I := fun s => s.1 ≤ ts.length) (μ := fun s => ts.length - s.1) (res := fun s => sizeWL s.2 (ts.drop s.1)) (R := fun r => AtExit 0 [.junk, .ptr (0, 0) 0 3, .d (.int .i64 0), .d (.int .i64 r), .d (.int .i64 ts.length), .junk, .junk, .junk, .junk, .junk, .junk, .junk, .junk, .junk, .junk, .junk, .junk, .junk, .junk, .junk, .junk] (termH v0 fn0 ts)) (fun s nx hi => ?_) (0, 1) (Nat.zero_le _)
 obtain ⟨i, acc⟩ := s
 rcases Nat.lt_or_ge i ts.length with hl | hl
 ·obtain ⟨v, fn, args, a⟩ := at_ok hn hl
  have hcall := hrec _ a.mem
  simp [Term.enc] at hcall
  conv => arg 9; arg 4; unfold b57_0
  simp [a.lti, a.sz, a.ltm, a.cells, a.le3, plc_raw, hcall, a.w, termH]
  exact .next (i + 1, IntKind.i64.wrap (acc + (Term.mk v fn args).sizeW)) (by omega) rfl rfl hl (by simp; omega) (by simp only [a.dr, sizeWL])
 ·obtain rfl : i = ts.length := Nat.le_antisymm hi hl
  simp [b57_0, termH]
  exact .fin _ _ (by simp [sizeWL, termH]; exact .mk)
theorem rsize_ok (t : Term) : t.ok → pcl Cp 57 [.agg t.enc] = some (.int .i64 t.sizeW) := by
 refine Term.ind (p := fun t => t.ok → pcl Cp 57 [.agg t.enc] = some (.int .i64 t.sizeW)) (fun v fn args ih h => ?_) t
 obtain ⟨e, t, hrun, rfl, nx, rfl⟩ := rsize_loop v fn args h.1 (fun x hx => ih x hx (okL_mem h.2 x hx))
 refine pcl_body code57 ?_
 simp [Term.enc, termH] at hrun ⊢
 simp [hrun, Term.sizeW]
theorem depth_loop (ts : List Term) (hn : ts.length ≤ 9223372036854775807) (H : Hp) (hH : below 7 H = H) (hrec : ∀ x ∈ ts, pcl Cp 88 [.agg x.enc] = some (.int .i64 x.depthW)) :
  ∃ e t, aloop Try.prog plc b88_0 ⟨[false, false, true, true, false, false, false, true, true, true, false, false, false, false, false, false, false, false, true, true], some 7⟩ ⟨[.junk, .junk, .d (.int .i64 0), .d (.int .i64 0), .junk, .junk, .junk, .d (.sl (encL ts) ts.length false none), .d (.int .i64 ts.length), .d (.int .i64 0), .junk, .junk, .junk, .junk, .junk, .junk, .junk, .junk, .junk, .junk], H, 7⟩ = some (e, t) ∧
   AtExit 0 [.junk, .junk, .d (.int .i64 0), .d (.int .i64 (depthWL 0 ts)), .junk, .junk, .junk, .d (.sl (encL ts) ts.length false none), .d (.int .i64 ts.length), .d (.int .i64 ts.length), .junk, .junk, .junk, .junk, .junk, .junk, .junk, .junk, .junk, .junk] H e t := by
 refine loop_rule (b := 7) (tm := fun (s : Nat × Int) => [.junk, .junk, .d (.int .i64 0), .d (.int .i64 s.2), .junk, .junk, .junk, .d (.sl (encL ts) ts.length false none), .d (.int .i64 ts.length), .d (.int .i64 s.1), .junk, .junk, .junk, .junk, .junk, .junk, .junk, .junk, .junk, .junk]) (Hf := fun _ => H)
  (I := fun s => s.1 ≤ ts.length) (μ := fun s => ts.length - s.1) (res := fun s => depthWL s.2 (ts.drop s.1)) (R := fun r => AtExit 0 [.junk, .junk, .d (.int .i64 0), .d (.int .i64 r), .junk, .junk, .junk, .d (.sl (encL ts) ts.length false none), .d (.int .i64 ts.length), .d (.int .i64 ts.length), .junk, .junk, .junk, .junk, .junk, .junk, .junk, .junk, .junk, .junk] H) (fun s nx hi => ?_) (0, 0) (Nat.zero_le _)
 obtain ⟨i, acc⟩ := s
 rcases Nat.lt_or_ge i ts.length with hl | hl
 ·obtain ⟨v, fn, args, a⟩ := at_ok hn hl
  have hcall := hrec _ a.mem
  simp [Term.enc] at hcall
  conv => arg 9; arg 4; unfold b88_0
  simp [a.lti, a.sz, a.ltm, a.cells, a.le3, plc_raw, hcall, a.w, hH]
  exact .next (i + 1, if (Term.mk v fn args).depthW > acc then (Term.mk v fn args).depthW else acc) (by omega) rfl rfl hl (by simp; omega) (by simp only [a.dr, depthWL])
 ·obtain rfl : i = ts.length := Nat.le_antisymm hi hl
  simp [b88_0, hH]
  exact .fin _ _ (by simp [depthWL]; exact .mk)
theorem depth_ok (t : Term) : t.ok → pcl Cp 88 [.agg t.enc] = some (.int .i64 t.depthW) := by
 refine Term.ind (p := fun t => t.ok → pcl Cp 88 [.agg t.enc] = some (.int .i64 t.depthW)) (fun v fn args ih h => ?_) t
 obtain ⟨e, t, hrun, rfl, nx, rfl⟩ := depth_loop args h.1 (termH v fn args) (by simp [termH]) (fun x hx => ih x hx (okL_mem h.2 x hx))
 refine pcl_body code88 ?_
 simp [Term.enc, termH] at hrun ⊢
 simp [hrun, Term.depthW]
theorem rdepth_loop (v0 : Int) (fn0 : ByteArray) (ts : List Term) (hn : ts.length ≤ 9223372036854775807) (hrec : ∀ x ∈ ts, pcl Cp 56 [.agg x.enc] = some (.int .i64 x.depthW)) :
  ∃ e t, aloop Try.prog plc b56_0 ⟨[false, true, true, true, true, false, false, false, false, false, false, false, false, false, false, false, false, false, false, false, true, true], some 4⟩ ⟨[.junk, .ptr (0, 0) 0 3, .d (.int .i64 0), .d (.int .i64 0), .d (.int .i64 0), .junk, .junk, .junk, .junk, .junk, .junk, .junk, .junk, .junk, .junk, .junk, .junk, .junk, .junk, .junk, .junk, .junk], termH v0 fn0 ts, 4⟩ = some (e, t) ∧
   AtExit 0 [.junk, .ptr (0, 0) 0 3, .d (.int .i64 0), .d (.int .i64 (depthWL 0 ts)), .d (.int .i64 ts.length), .junk, .junk, .junk, .junk, .junk, .junk, .junk, .junk, .junk, .junk, .junk, .junk, .junk, .junk, .junk, .junk, .junk] (termH v0 fn0 ts) e t := by
 refine loop_rule (b := 4) (tm := fun (s : Nat × Int) => [.junk, .ptr (0, 0) 0 3, .d (.int .i64 0), .d (.int .i64 s.2), .d (.int .i64 s.1), .junk, .junk, .junk, .junk, .junk, .junk, .junk, .junk, .junk, .junk, .junk, .junk, .junk, .junk, .junk, .junk, .junk]) (Hf := fun _ => termH v0 fn0 ts)
  (I := fun s => s.1 ≤ ts.length) (μ := fun s => ts.length - s.1) (res := fun s => depthWL s.2 (ts.drop s.1)) (R := fun r => AtExit 0 [.junk, .ptr (0, 0) 0 3, .d (.int .i64 0), .d (.int .i64 r), .d (.int .i64 ts.length), .junk, .junk, .junk, .junk, .junk, .junk, .junk, .junk, .junk, .junk, .junk, .junk, .junk, .junk, .junk, .junk, .junk] (termH v0 fn0 ts)) (fun s nx hi => ?_) (0, 0) (Nat.zero_le _)
 obtain ⟨i, acc⟩ := s
 rcases Nat.lt_or_ge i ts.length with hl | hl
 ·obtain ⟨v, fn, args, a⟩ := at_ok hn hl
  have hcall := hrec _ a.mem
  simp [Term.enc] at hcall
  conv => arg 9; arg 4; unfold b56_0
  simp [a.lti, a.sz, a.ltm, a.cells, a.le3, plc_raw, hcall, a.w, termH]
  exact .next (i + 1, if (Term.mk v fn args).depthW > acc then (Term.mk v fn args).depthW else acc) (by omega) rfl rfl hl (by simp; omega) (by simp only [a.dr, depthWL])
 ·obtain rfl : i = ts.length := Nat.le_antisymm hi hl
  simp [b56_0, termH]
  exact .fin _ _ (by simp [depthWL, termH]; exact .mk)
theorem rdepth_ok (t : Term) : t.ok → pcl Cp 56 [.agg t.enc] = some (.int .i64 t.depthW) := by
 refine Term.ind (p := fun t => t.ok → pcl Cp 56 [.agg t.enc] = some (.int .i64 t.depthW)) (fun v fn args ih h => ?_) t
 obtain ⟨e, t, hrun, rfl, nx, rfl⟩ := rdepth_loop v fn args h.1 (fun x hx => ih x hx (okL_mem h.2 x hx))
 refine pcl_body code56 ?_
 simp [Term.enc, termH] at hrun ⊢
 simp [hrun, Term.depthW]
theorem right_ok (v : Int) (fn : ByteArray) (cs : List D) (n : Nat) : pcl Cp 111 [.agg [.int .i64 v, .str fn, .sl cs n false none]] = some (.bool (rightB v fn n)) := by
 refine pcl_body code111 ?_
 simp
 repeat' ((try simp only [condP_ite]); split <;> (try simp only [holdE]) <;> (try simp [*, plc_raw]))
 all_goals (simp_all [rightB, noName])
 all_goals (first | omega | grind)
theorem index_loop (g : FuncId) (p : Term → Bool) (ts : List Term) (hn : ts.length ≤ 9223372036854775807) (hg : plc.raw g = false ∧ plc.weak g = false ∧ g < 1000000000) (hrec : ∀ x ∈ ts, pcl Cp g [.agg x.enc] = some (.bool (p x))) :
  ∃ e t, aloop Try.prog plc b125_0 ⟨[true, true, false, false, true, false, false, true, true, false, false, false, false, false, false, false, false, false, false], some 4⟩ ⟨[.d (.sl (encL ts) ts.length false none), .d (.fn g []), .junk, .junk, .d (.int .i64 0), .junk, .junk, .d (.int .i64 ts.length), .d (.int .i64 0), .junk, .junk, .junk, .junk, .junk, .junk, .junk, .junk, .junk, .junk], fun _ => none, 4⟩ = some (e, t) ∧
   (match fromI p ts 0 with | some k => AtRet 4 (.d (.int .i64 k)) e t | none => AtExit 0 [.d (.sl (encL ts) ts.length false none), .d (.fn g []), .junk, .junk, .d (.int .i64 0), .junk, .junk, .d (.int .i64 ts.length), .d (.int .i64 ts.length), .junk, .junk, .junk, .junk, .junk, .junk, .junk, .junk, .junk, .junk] (fun _ => none) e t) := by
 refine loop_rule (b := 4) (tm := fun (i : Nat) => [.d (.sl (encL ts) ts.length false none), .d (.fn g []), .junk, .junk, .d (.int .i64 0), .junk, .junk, .d (.int .i64 ts.length), .d (.int .i64 i), .junk, .junk, .junk, .junk, .junk, .junk, .junk, .junk, .junk, .junk]) (Hf := fun _ => fun _ => none)
  (I := fun i => i ≤ ts.length) (μ := fun i => ts.length - i) (res := fun i => fromI p ts i) (R := fun o e t => match o with | some k => AtRet 4 (.d (.int .i64 k)) e t | none => AtExit 0 [.d (.sl (encL ts) ts.length false none), .d (.fn g []), .junk, .junk, .d (.int .i64 0), .junk, .junk, .d (.int .i64 ts.length), .d (.int .i64 ts.length), .junk, .junk, .junk, .junk, .junk, .junk, .junk, .junk, .junk, .junk] (fun _ => none) e t)
  (fun i nx hi => ?_) 0 (Nat.zero_le _)
 rcases Nat.lt_or_ge i ts.length with hl | hl
 ·obtain ⟨v, fn, args, a⟩ := at_ok hn hl
  have hcall := hrec _ a.mem
  have hget : ts[i] = .mk v fn args := a.get
  simp [Term.enc] at hcall
  conv => arg 9; arg 4; unfold b125_0
  cases hp : p (.mk v fn args) <;> rw [hp] at hcall <;> simp [a.lti, a.sz, a.ltm, a.cells, a.le3, hg.1, hg.2.1, hg.2.2, -plc_weak, hcall, a.w]
  ·exact .next (i + 1) (by omega) rfl rfl hl (by omega) (by rw [fromI_step hl, hget, hp]; rfl)
  ·exact .fin _ _ (by rw [fromI_step hl, hget, hp]; exact ⟨rfl, rfl⟩)
 ·obtain rfl : i = ts.length := Nat.le_antisymm hi hl
  simp [b125_0]
  exact .fin _ _ (by rw [fromI_end]; exact .mk)
theorem index_ok {g : FuncId} {p : Term → Bool} {ts : List Term} (hn : ts.length ≤ 9223372036854775807) (hg : plc.raw g = false ∧ plc.weak g = false ∧ g < 1000000000) (hrec : ∀ x ∈ ts, pcl Cp g [.agg x.enc] = some (.bool (p x))) :
  pcl Cp 125 [.sl (encL ts) ts.length false none, .fn g []] = some (.int .i64 (match ts.findIdx? p with | some k => k | none => -1)) := by
 obtain ⟨e, t, h1, h2⟩ := index_loop g p ts hn hg hrec
 refine pcl_body code125 ?_
 simp [fromI_zero] at h1 h2
 simp [h1]
 revert h2
 cases ts.findIdx? p with
 | some k => rintro ⟨rfl, h⟩; simp [h]
 | none => rintro ⟨rfl, nx, rfl⟩; simp
theorem any_findIdx {α : Type} (p : α → Bool) (l : List α) : l.any p = (l.findIdx? p).isSome := by
 induction l with
 | nil => rfl
 | cons x l ih => rw [List.any_cons, List.findIdx?_cons, ih]; cases p x <;> simp
theorem contains_ok {g : FuncId} {p : Term → Bool} {ts : List Term} (hn : ts.length ≤ 9223372036854775807) (hg : plc.raw g = false ∧ plc.weak g = false ∧ g < 1000000000) (hrec : ∀ x ∈ ts, pcl Cp g [.agg x.enc] = some (.bool (p x))) :
  pcl Cp 112 [.sl (encL ts) ts.length false none, .fn g []] = some (.bool (ts.any p)) := by
 refine pcl_body code112 ?_
 have h := index_ok hn hg hrec
 rw [any_findIdx]
 cases hq : ts.findIdx? p <;> rw [hq] at h <;> simp [plc_raw, h]
theorem shapeBL_all : ∀ (ts : List Term), shapeBL ts = !ts.any (fun x => !x.shapeB)
 | [] => rfl
 | t :: r => by simp [shapeBL, shapeBL_all r]
theorem shaped_ok (t : Term) : t.ok → pcl Cp 87 [.agg t.enc] = some (.bool t.shapeB) := by
 refine Term.ind (p := fun t => t.ok → pcl Cp 87 [.agg t.enc] = some (.bool t.shapeB)) (fun v fn args ih h => ?_) t
 have hc := contains_ok (g := 113) (p := fun x => !x.shapeB) h.1 ⟨rfl, rfl, by decide⟩ (fun x hx => by
  have := ih x hx (okL_mem h.2 x hx)
  refine pcl_body code113 ?_
  obtain ⟨v, fn, a⟩ := x
  simp [Term.enc] at this
  simp [Term.enc, plc_raw, this])
 have hr := right_ok v fn (encL args) args.length
 refine pcl_body code87 ?_
 cases hb : rightB v fn args.length <;> rw [hb] at hr <;> simp [Term.enc, plc_raw, hr, hc, Term.shapeB, hb, shapeBL_all]
theorem rshape_loop (v0 : Int) (fn0 : ByteArray) (ts : List Term) (hn : ts.length ≤ 9223372036854775807) (hrec : ∀ x ∈ ts, pcl Cp 55 [.agg x.enc] = some (.bool x.shapeB)) :
  ∃ e t, aloop Try.prog plc b55_0 ⟨[false, true, true, true, false, false, false, false, false, false, false, false, false, false, false, false, false, false, false, false, false, false, false, false, false, false, false, false, false, false, false, false, false, false, false, false, false, false, false, false, false, false, false, false, false, false, false, false, false, false], some 21⟩ ⟨[.junk, .ptr (0, 0) 0 3, .d (.bool false), .d (.int .i64 0), .junk, .junk, .junk, .junk, .junk, .junk, .junk, .junk, .junk, .junk, .junk, .junk, .junk, .junk, .junk, .junk, .junk, .junk, .junk, .junk, .junk, .junk, .junk, .junk, .junk, .junk, .junk, .junk, .junk, .junk, .junk, .junk, .junk, .junk, .junk, .junk, .junk, .junk, .junk, .junk, .junk, .junk, .junk, .junk, .junk, .junk], termH v0 fn0 ts, 21⟩ = some (e, t) ∧
   (if shapeBL ts then AtExit 0 [.junk, .ptr (0, 0) 0 3, .d (.bool false), .d (.int .i64 ts.length), .junk, .junk, .junk, .junk, .junk, .junk, .junk, .junk, .junk, .junk, .junk, .junk, .junk, .junk, .junk, .junk, .junk, .junk, .junk, .junk, .junk, .junk, .junk, .junk, .junk, .junk, .junk, .junk, .junk, .junk, .junk, .junk, .junk, .junk, .junk, .junk, .junk, .junk, .junk, .junk, .junk, .junk, .junk, .junk, .junk, .junk] (termH v0 fn0 ts) e t else AtRet 2 (.d (.bool false)) e t) := by
 refine loop_rule (b := 21) (tm := fun (i : Nat) => [.junk, .ptr (0, 0) 0 3, .d (.bool false), .d (.int .i64 i), .junk, .junk, .junk, .junk, .junk, .junk, .junk, .junk, .junk, .junk, .junk, .junk, .junk, .junk, .junk, .junk, .junk, .junk, .junk, .junk, .junk, .junk, .junk, .junk, .junk, .junk, .junk, .junk, .junk, .junk, .junk, .junk, .junk, .junk, .junk, .junk, .junk, .junk, .junk, .junk, .junk, .junk, .junk, .junk, .junk, .junk]) (Hf := fun _ => termH v0 fn0 ts)
  (I := fun i => i ≤ ts.length) (μ := fun i => ts.length - i) (res := fun i => shapeBL (ts.drop i)) (R := fun b e t => if b then AtExit 0 [.junk, .ptr (0, 0) 0 3, .d (.bool false), .d (.int .i64 ts.length), .junk, .junk, .junk, .junk, .junk, .junk, .junk, .junk, .junk, .junk, .junk, .junk, .junk, .junk, .junk, .junk, .junk, .junk, .junk, .junk, .junk, .junk, .junk, .junk, .junk, .junk, .junk, .junk, .junk, .junk, .junk, .junk, .junk, .junk, .junk, .junk, .junk, .junk, .junk, .junk, .junk, .junk, .junk, .junk, .junk, .junk] (termH v0 fn0 ts) e t else AtRet 2 (.d (.bool false)) e t)
  (fun i nx hi => ?_) 0 (Nat.zero_le _)
 rcases Nat.lt_or_ge i ts.length with hl | hl
 ·obtain ⟨v, fn, args, a⟩ := at_ok hn hl
  have hcall := hrec _ a.mem
  simp [Term.enc] at hcall
  conv => arg 9; arg 4; unfold b55_0
  cases hp : (Term.mk v fn args).shapeB <;> rw [hp] at hcall <;> simp [a.lti, a.sz, a.ltm, a.cells, a.le3, plc_raw, hcall, a.w, termH]
  ·exact .fin _ _ (by simp only [a.dr, shapeBL, hp]; exact ⟨rfl, rfl⟩)
  ·exact .next (i + 1) (by omega) rfl rfl hl (by omega) (by simp [a.dr, shapeBL, hp])
 ·obtain rfl : i = ts.length := Nat.le_antisymm hi hl
  simp [b55_0, termH]
  exact .fin _ _ (by simp [shapeBL, termH]; exact .mk)
theorem rshape_ok (t : Term) : t.ok → pcl Cp 55 [.agg t.enc] = some (.bool t.shapeB) := by
 refine Term.ind (p := fun t => t.ok → pcl Cp 55 [.agg t.enc] = some (.bool t.shapeB)) (fun v fn args ih h => ?_) t
 refine pcl_body code55 ?_
 obtain ⟨e, t, hrun, hR⟩ := rshape_loop v fn args h.1 (fun x hx => ih x hx (okL_mem h.2 x hx))
 simp [Term.enc, termH] at hrun ⊢
 have hz : args.length = 0 → args = [] := List.eq_nil_of_length_eq_zero
 cases hs : shapeBL args <;> simp only [hs, if_true, Bool.false_eq_true, if_false] at hR
 ·obtain ⟨rfl, hv⟩ := hR
  have hne : args ≠ [] := by rintro rfl; simp [shapeBL] at hs
  repeat' ((try simp only [condP_ite]); split <;> (try simp only [holdE]) <;> (try simp [*, plc_raw]))
  all_goals (simp_all [Term.shapeB, rightB, noName, shapeBL])
  all_goals (clear hrun ih; first | omega | grind)
 ·obtain ⟨rfl, nx, rfl⟩ := hR
  repeat' ((try simp only [condP_ite]); split <;> (try simp only [holdE]) <;> (try simp [*, plc_raw]))
  all_goals (simp_all [Term.shapeB, rightB, noName, shapeBL])
  all_goals (clear hrun ih; first | omega | grind)
theorem equal_loop (g : FuncId) (p : Term → Term → Bool) (hg : plc.raw g = false ∧ plc.weak g = false ∧ g < 1000000000) (ts us : List Term) (hn : ts.length ≤ 9223372036854775807) (hlen : us.length = ts.length) (hrec : ∀ x ∈ ts, ∀ y ∈ us, pcl Cp g [.agg x.enc, .agg y.enc] = some (.bool (p x y))) :
  ∃ e t, aloop Try.prog plc b73_0 ⟨[false, true, true, false, false, false, true, false, false, false, false, false, false, false, false, true, true, true, false, false, false, false, false, false, false, false, false, false, false, false, false, false], some 9⟩ ⟨[.junk, .d (.sl (encL us) us.length false none), .d (.fn g []), .junk, .junk, .junk, .d (.bool false), .junk, .junk, .junk, .junk, .junk, .junk, .junk, .junk, .d (.sl (encL ts) us.length false none), .d (.int .i64 us.length), .d (.int .i64 0), .junk, .junk, .junk, .junk, .junk, .junk, .junk, .junk, .junk, .junk, .junk, .junk, .junk, .junk], fun _ => none, 9⟩ = some (e, t) ∧
   (if all2 p ts us then AtExit 0 [.junk, .d (.sl (encL us) us.length false none), .d (.fn g []), .junk, .junk, .junk, .d (.bool false), .junk, .junk, .junk, .junk, .junk, .junk, .junk, .junk, .d (.sl (encL ts) us.length false none), .d (.int .i64 us.length), .d (.int .i64 ts.length), .junk, .junk, .junk, .junk, .junk, .junk, .junk, .junk, .junk, .junk, .junk, .junk, .junk, .junk] (fun _ => none) e t else AtRet 6 (.d (.bool false)) e t) := by
 refine loop_rule (b := 9) (tm := fun (i : Nat) => [.junk, .d (.sl (encL us) us.length false none), .d (.fn g []), .junk, .junk, .junk, .d (.bool false), .junk, .junk, .junk, .junk, .junk, .junk, .junk, .junk, .d (.sl (encL ts) us.length false none), .d (.int .i64 us.length), .d (.int .i64 i), .junk, .junk, .junk, .junk, .junk, .junk, .junk, .junk, .junk, .junk, .junk, .junk, .junk, .junk]) (Hf := fun _ => fun _ => none)
  (I := fun i => i ≤ ts.length) (μ := fun i => ts.length - i) (res := fun i => all2 p (ts.drop i) (us.drop i)) (R := fun b e t => if b then AtExit 0 [.junk, .d (.sl (encL us) us.length false none), .d (.fn g []), .junk, .junk, .junk, .d (.bool false), .junk, .junk, .junk, .junk, .junk, .junk, .junk, .junk, .d (.sl (encL ts) us.length false none), .d (.int .i64 us.length), .d (.int .i64 ts.length), .junk, .junk, .junk, .junk, .junk, .junk, .junk, .junk, .junk, .junk, .junk, .junk, .junk, .junk] (fun _ => none) e t else AtRet 6 (.d (.bool false)) e t)
  (fun i nx hi => ?_) 0 (Nat.zero_le _)
 rcases Nat.lt_or_ge i ts.length with hl | hl
 ·obtain ⟨v, fn, args, a⟩ := at_ok hn hl
  obtain ⟨v2, fn2, args2, b⟩ := at_ok (ts := us) (by omega) (i := i) (by omega)
  have hcall := hrec _ a.mem _ b.mem
  simp [Term.enc] at hcall
  have asz := a.sz
  have altm := a.ltm
  have ale3 := a.le3
  have alti := a.lti
  rw [← hlen] at asz altm ale3 alti
  conv => arg 9; arg 4; unfold b73_0
  cases hp : p (.mk v fn args) (.mk v2 fn2 args2) <;> rw [hp] at hcall <;> simp [alti, asz, altm, a.cells, ale3, b.cells, b.sz, b.ltm, b.le3, hg.1, hg.2.1, hg.2.2, -plc_weak, hcall, a.w]
  ·exact .fin _ _ (by simp only [a.dr, b.dr, all2, hp]; exact ⟨rfl, rfl⟩)
  ·exact .next (i + 1) (by omega) rfl rfl hl (by omega) (by simp [a.dr, b.dr, all2, hp])
 ·obtain rfl : i = ts.length := Nat.le_antisymm hi hl
  simp [b73_0, hlen]
  exact .fin _ _ (by simp [all2, hlen]; exact .mk)
theorem equal_ok {g : FuncId} {p : Term → Term → Bool} (hg : plc.raw g = false ∧ plc.weak g = false ∧ g < 1000000000) {ts us : List Term} (hn : ts.length ≤ 9223372036854775807) (hrec : ∀ x ∈ ts, ∀ y ∈ us, pcl Cp g [.agg x.enc, .agg y.enc] = some (.bool (p x y))) :
  pcl Cp 73 [.sl (encL ts) ts.length false none, .sl (encL us) us.length false none, .fn g []] = some (.bool (decide (ts.length = us.length) && all2 p ts us)) := by
 refine pcl_body code73 ?_
 by_cases hl : ts.length = us.length
 ·obtain ⟨e, t, hrun, hR⟩ := equal_loop g p hg ts us hn hl.symm hrec
  try simp at hrun
  simp [hl, hrun]
  cases hs : all2 p ts us <;> simp only [hs, if_true, Bool.false_eq_true, if_false] at hR
  ·obtain ⟨rfl, hv⟩ := hR; simp [hv]
  ·obtain ⟨rfl, nx, rfl⟩ := hR; simp
 ·have : ¬ ((ts.length : Int) = (us.length : Int)) := by omega
  simp [hl, this]
theorem same_ok (t : Term) : t.ok → ∀ u : Term, u.ok → pcl Cp 41 [.agg t.enc, .agg u.enc] = some (.bool (t.sameB u)) := by
 refine Term.ind (p := fun t => t.ok → ∀ u : Term, u.ok → pcl Cp 41 [.agg t.enc, .agg u.enc] = some (.bool (t.sameB u))) (fun v fn args ih h => ?_) t
 intro u hu
 obtain ⟨v2, fn2, args2⟩ := u
 have he := equal_ok (g := 41) (p := Term.sameB) ⟨rfl, rfl, by decide⟩ (ts := args) (us := args2) h.1 (fun x hx y hy => ih x hx (okL_mem h.2 x hx) y (okL_mem hu.2 y hy))
 refine pcl_body code41 ?_
 simp [Term.enc, plc_raw, he]
 repeat' ((try simp only [condP_ite]); split <;> (try simp only [holdE]) <;> (try simp [*, plc_raw]))
 all_goals (simp_all [Term.sameB, sameBL_all2])
def termH2 (v : Int) (fn : ByteArray) (args : List Term) (v2 : Int) (fn2 : ByteArray) (args2 : List Term) : Hp :=
 upd (upd (fun _ => none) (0, 0) (.cells [.d (.int .i64 v), .d (.str fn), .d (.sl (encL args) args.length false none)])) (1, 0) (.cells [.d (.int .i64 v2), .d (.str fn2), .d (.sl (encL args2) args2.length false none)])
theorem rsame_loop (v0 : Int) (fn0 : ByteArray) (v00 : Int) (fn00 : ByteArray) (ts us : List Term) (hn : ts.length ≤ 9223372036854775807) (hlen : us.length = ts.length) (hrec : ∀ x ∈ ts, ∀ y ∈ us, pcl Cp 29 [.agg x.enc, .agg y.enc] = some (.bool (x.sameB y))) :
  ∃ e t, aloop Try.prog plc b29_0 ⟨[false, false, true, true, true, true, false, false, false, false, false, false, false, false, false, false, false, false, false, false, false, false, false, false, false, false, false, false, false, false, false, false, false, false, false, false, false, false, false, false, false, false, false, false, false, false], some 25⟩ ⟨[.junk, .junk, .ptr (0, 0) 0 3, .ptr (1, 0) 0 3, .d (.bool false), .d (.int .i64 0), .junk, .junk, .junk, .junk, .junk, .junk, .junk, .junk, .junk, .junk, .junk, .junk, .junk, .junk, .junk, .junk, .junk, .junk, .junk, .junk, .junk, .junk, .junk, .junk, .junk, .junk, .junk, .junk, .junk, .junk, .junk, .junk, .junk, .junk, .junk, .junk, .junk, .junk, .junk, .junk], termH2 v0 fn0 ts v00 fn00 us, 25⟩ = some (e, t) ∧
   (if sameBL ts us then AtExit 0 [.junk, .junk, .ptr (0, 0) 0 3, .ptr (1, 0) 0 3, .d (.bool false), .d (.int .i64 ts.length), .junk, .junk, .junk, .junk, .junk, .junk, .junk, .junk, .junk, .junk, .junk, .junk, .junk, .junk, .junk, .junk, .junk, .junk, .junk, .junk, .junk, .junk, .junk, .junk, .junk, .junk, .junk, .junk, .junk, .junk, .junk, .junk, .junk, .junk, .junk, .junk, .junk, .junk, .junk, .junk] (termH2 v0 fn0 ts v00 fn00 us) e t else AtRet 4 (.d (.bool false)) e t) := by
 refine loop_rule (b := 25) (tm := fun (i : Nat) => [.junk, .junk, .ptr (0, 0) 0 3, .ptr (1, 0) 0 3, .d (.bool false), .d (.int .i64 i), .junk, .junk, .junk, .junk, .junk, .junk, .junk, .junk, .junk, .junk, .junk, .junk, .junk, .junk, .junk, .junk, .junk, .junk, .junk, .junk, .junk, .junk, .junk, .junk, .junk, .junk, .junk, .junk, .junk, .junk, .junk, .junk, .junk, .junk, .junk, .junk, .junk, .junk, .junk, .junk]) (Hf := fun _ => termH2 v0 fn0 ts v00 fn00 us)
  (I := fun i => i ≤ ts.length) (μ := fun i => ts.length - i) (res := fun i => sameBL (ts.drop i) (us.drop i)) (R := fun b e t => if b then AtExit 0 [.junk, .junk, .ptr (0, 0) 0 3, .ptr (1, 0) 0 3, .d (.bool false), .d (.int .i64 ts.length), .junk, .junk, .junk, .junk, .junk, .junk, .junk, .junk, .junk, .junk, .junk, .junk, .junk, .junk, .junk, .junk, .junk, .junk, .junk, .junk, .junk, .junk, .junk, .junk, .junk, .junk, .junk, .junk, .junk, .junk, .junk, .junk, .junk, .junk, .junk, .junk, .junk, .junk, .junk, .junk] (termH2 v0 fn0 ts v00 fn00 us) e t else AtRet 4 (.d (.bool false)) e t)
  (fun i nx hi => ?_) 0 (Nat.zero_le _)
 rcases Nat.lt_or_ge i ts.length with hl | hl
 ·obtain ⟨v, fn, args, a⟩ := at_ok hn hl
  obtain ⟨v2, fn2, args2, b⟩ := at_ok (ts := us) (by omega) (i := i) (by omega)
  have hcall := hrec _ a.mem _ b.mem
  simp [Term.enc] at hcall
  have bsz := b.sz
  have bltm := b.ltm
  have ble3 := b.le3
  rw [hlen] at bsz bltm ble3
  conv => arg 9; arg 4; unfold b29_0
  cases hp : (Term.mk v fn args).sameB (.mk v2 fn2 args2) <;> rw [hp] at hcall <;> simp [a.lti, a.sz, a.ltm, a.cells, a.le3, b.cells, bsz, bltm, ble3, hlen, plc_raw, hcall, a.w, termH2]
  ·exact .fin _ _ (by simp only [a.dr, b.dr, sameBL, hp]; exact ⟨rfl, rfl⟩)
  ·exact .next (i + 1) (by simp) (by simp) (by simp [termH2, hlen]) hl (by omega) (by simp [a.dr, b.dr, sameBL, hp])
 ·obtain rfl : i = ts.length := Nat.le_antisymm hi hl
  simp [b29_0, termH2, hlen]
  exact .fin _ _ (by simp [sameBL, termH2, hlen]; exact .mk)
theorem rsame_ok (t : Term) : t.ok → ∀ u : Term, u.ok → pcl Cp 29 [.agg t.enc, .agg u.enc] = some (.bool (t.sameB u)) := by
 refine Term.ind (p := fun t => t.ok → ∀ u : Term, u.ok → pcl Cp 29 [.agg t.enc, .agg u.enc] = some (.bool (t.sameB u))) (fun v fn args ih h => ?_) t
 intro u hu
 obtain ⟨v2, fn2, args2⟩ := u
 refine pcl_body code29 ?_
 by_cases h3 : args.length = args2.length
 ·obtain ⟨e, t, hrun, hR⟩ := rsame_loop v fn v2 fn2 args args2 h.1 h3.symm (fun x hx y hy => ih x hx (okL_mem h.2 x hx) y (okL_mem hu.2 y hy))
  simp [Term.enc, termH2, h3] at hrun ⊢
  cases hs : sameBL args args2 <;> simp only [hs, if_true, Bool.false_eq_true, if_false] at hR
  ·obtain ⟨rfl, hv⟩ := hR
   repeat' ((try simp only [condP_ite]); split <;> (try simp only [holdE]) <;> (try simp [*, plc_raw]))
   all_goals (simp_all [Term.sameB])
  ·obtain ⟨rfl, nx, rfl⟩ := hR
   repeat' ((try simp only [condP_ite]); split <;> (try simp only [holdE]) <;> (try simp [*, plc_raw]))
   all_goals (simp_all [Term.sameB])
 ·have h3' : ¬ ((args.length : Int) = (args2.length : Int)) := by omega
  simp [Term.enc, h3, h3']
  repeat' ((try simp only [condP_ite]); split <;> (try simp only [holdE]) <;> (try simp [*, plc_raw]))
  all_goals (simp_all [Term.sameB])
theorem tright_ok (t : Term) (h : t.ok) : pcl Cp 67 [.agg t.enc] = some (.int .i64 t.rightE) := by
 have h1 := shaped_ok t h
 have h2 := depth_ok t h
 have h3 := size_ok t h
 refine pcl_body code67 ?_
 unfold Term.rightE
 generalize hs : t.shapeB = b at h1
 generalize hd : t.depthW = d at h2
 generalize hz : t.sizeW = z at h3
 obtain ⟨v, fn, args⟩ := t
 simp [Term.enc] at h1 h2 h3 ⊢
 simp [plc_raw, h1, h2, h3]
 repeat' ((try simp only [condP_ite]); split <;> (try simp only [holdE]) <;> (try simp [*, plc_raw]))
 all_goals (simp_all)
theorem rright_ok (t : Term) (h : t.ok) : pcl Cp 23 [.agg t.enc] = some (.int .i64 t.rightE) := by
 have h1 := rshape_ok t h
 have h2 := rdepth_ok t h
 have h3 := rsize_ok t h
 refine pcl_body code23 ?_
 unfold Term.rightE
 generalize hs : t.shapeB = b at h1
 generalize hd : t.depthW = d at h2
 generalize hz : t.sizeW = z at h3
 obtain ⟨v, fn, args⟩ := t
 simp [Term.enc] at h1 h2 h3 ⊢
 simp [plc_raw, h1, h2, h3]
 repeat' ((try simp only [condP_ite]); split <;> (try simp only [holdE]) <;> (try simp [*, plc_raw]))
 all_goals (simp_all)
end Go.Proofs.Ytkpomccbohjjpaa.Am

/-
 The order of terms: what the program's function and the document's compute. No condition.
-/
namespace Go.Proofs.Ytkpomccbohjjpaa.Am
open Go Go.Proofs
set_option maxHeartbeats 4000000
set_option linter.unusedSimpArgs false
set_option linter.unusedVariables false
theorem sign_ok (a b : Int) : pcl Cp 79 [.int .i64 a, .int .i64 b] = some (.int .i64 (cmpI a b)) := by
 refine pcl_body code79 ?_
 unfold cmpI
 by_cases h1 : a < b
 ·simp [h1]
 ·by_cases h2 : b < a <;> simp [h1, h2]
theorem nanI_ok (a : Int) : pcl Cp 86 [.int .i64 a] = some (.bool false) := by
 refine pcl_body code86 ?_
 simp
theorem nanS_ok (a : ByteArray) : pcl Cp 97 [.str a] = some (.bool false) := by
 refine pcl_body code97 ?_
 simp
theorem cmpInt_ok (a b : Int) : pcl Cp 62 [.int .i64 a, .int .i64 b] = some (.int .i64 (cmpI a b)) := by
 refine pcl_body code62 ?_
 unfold cmpI
 by_cases h1 : a < b
 ·simp [h1, nanI_ok, plc_raw]
 ·by_cases h2 : b < a <;> simp [h1, h2, nanI_ok, plc_raw]
theorem cmpStr_ok (a b : ByteArray) : pcl Cp 77 [.str a, .str b] = some (.int .i64 (cmpS a.toList b.toList)) := by
 refine pcl_body code77 ?_
 unfold cmpS
 cases h1 : Op.bytesLess a.toList b.toList
 ·by_cases h2 : a.toList = b.toList
  ·simp [h1, h2, nanS_ok, plc_raw, less_irrefl]
  ·simp [h1, h2, nanS_ok, plc_raw]
 ·simp [h1, nanS_ok, plc_raw]
def first2 (p : Term → Term → Int) : List Term → List Term → Int
 | t :: r, u :: s => if p t u = 0 then first2 p r s else p t u
 | _, _ => 0
theorem cmpL_first : ∀ (ts us : List Term), cmpL ts us = first2 Term.cmp ts us
 | [], _ => by simp [cmpL, first2]
 | _ :: _, [] => by simp [cmpL, first2]
 | t :: r, u :: s => by simp only [cmpL, first2, cmpL_first r s]
theorem cmpF_loop (g : FuncId) (p : Term → Term → Int) (hg : plc.raw g = false ∧ plc.weak g = false ∧ g < 1000000000) (ts us : List Term) (hn : ts.length ≤ 9223372036854775807) (hlen : us.length = ts.length) (hrec : ∀ x ∈ ts, ∀ y ∈ us, pcl Cp g [.agg x.enc, .agg y.enc] = some (.int .i64 (p x y))) :
  ∃ e t, aloop Try.prog plc b78_0 ⟨[true, true, true, false, false, false, true, false, false, false, false, true, true, true, false, false, false, false, false, false, false, false, false, false, false, false, false, false, false, false, false, false, false, false, true, true, true, true, true], some 4⟩ ⟨[.d (.sl (encL ts) ts.length false none), .d (.sl (encL us) us.length false none), .d (.fn g []), .junk, .junk, .junk, .d (.int .i64 0), .junk, .junk, .junk, .junk, .d (.sl (encL ts) ts.length false none), .d (.int .i64 ts.length), .d (.int .i64 0), .junk, .junk, .junk, .junk, .junk, .junk, .junk, .junk, .junk, .junk, .junk, .junk, .junk, .junk, .junk, .junk, .junk, .junk, .junk, .junk, .junk, .junk, .junk, .junk, .junk], fun _ => none, 4⟩ = some (e, t) ∧
   (if first2 p ts us = 0 then AtExit 0 [.d (.sl (encL ts) ts.length false none), .d (.sl (encL us) us.length false none), .d (.fn g []), .junk, .junk, .junk, .d (.int .i64 0), .junk, .junk, .junk, .junk, .d (.sl (encL ts) ts.length false none), .d (.int .i64 ts.length), .d (.int .i64 ts.length), .junk, .junk, .junk, .junk, .junk, .junk, .junk, .junk, .junk, .junk, .junk, .junk, .junk, .junk, .junk, .junk, .junk, .junk, .junk, .junk, .junk, .junk, .junk, .junk, .junk] (fun _ => none) e t else AtRet 6 (.d (.int .i64 (first2 p ts us))) e t) := by
 refine loop_rule (b := 4) (tm := fun (i : Nat) => [.d (.sl (encL ts) ts.length false none), .d (.sl (encL us) us.length false none), .d (.fn g []), .junk, .junk, .junk, .d (.int .i64 0), .junk, .junk, .junk, .junk, .d (.sl (encL ts) ts.length false none), .d (.int .i64 ts.length), .d (.int .i64 i), .junk, .junk, .junk, .junk, .junk, .junk, .junk, .junk, .junk, .junk, .junk, .junk, .junk, .junk, .junk, .junk, .junk, .junk, .junk, .junk, .junk, .junk, .junk, .junk, .junk]) (Hf := fun _ => fun _ => none)
  (I := fun i => i ≤ ts.length) (μ := fun i => ts.length - i) (res := fun i => first2 p (ts.drop i) (us.drop i)) (R := fun c e t => if c = 0 then AtExit 0 [.d (.sl (encL ts) ts.length false none), .d (.sl (encL us) us.length false none), .d (.fn g []), .junk, .junk, .junk, .d (.int .i64 0), .junk, .junk, .junk, .junk, .d (.sl (encL ts) ts.length false none), .d (.int .i64 ts.length), .d (.int .i64 ts.length), .junk, .junk, .junk, .junk, .junk, .junk, .junk, .junk, .junk, .junk, .junk, .junk, .junk, .junk, .junk, .junk, .junk, .junk, .junk, .junk, .junk, .junk, .junk, .junk, .junk] (fun _ => none) e t else AtRet 6 (.d (.int .i64 c)) e t)
  (fun i nx hi => ?_) 0 (Nat.zero_le _)
 rcases Nat.lt_or_ge i ts.length with hl | hl
 ·obtain ⟨v, fn, args, a⟩ := at_ok hn hl
  obtain ⟨v2, fn2, args2, b⟩ := at_ok (ts := us) (by omega) (i := i) (by omega)
  have hcall := hrec _ a.mem _ b.mem
  simp [Term.enc] at hcall
  have hge := Int.not_le.2 b.lti
  have hge2 := Nat.not_le.2 b.lt
  conv => arg 9; arg 4; unfold b78_0
  by_cases hp : p (.mk v fn args) (.mk v2 fn2 args2) = 0
  ·rw [hp] at hcall
   simp [a.lti, a.sz, a.ltm, a.cells, a.le3, b.lti, b.cells, b.sz, b.ltm, b.le3, hge, hge2, hg.1, hg.2.1, hg.2.2, -plc_weak, hcall, a.w]
   exact .next (i + 1) (by omega) rfl rfl hl (by omega) (by simp [a.dr, b.dr, first2, hp])
  ·simp [a.lti, a.sz, a.ltm, a.cells, a.le3, b.lti, b.cells, b.sz, b.ltm, b.le3, hge, hge2, hg.1, hg.2.1, hg.2.2, -plc_weak, hcall, a.w, hp]
   exact .fin _ _ (by simp only [a.dr, b.dr, first2, if_neg hp]; exact ⟨rfl, rfl⟩)
 ·obtain rfl : i = ts.length := Nat.le_antisymm hi hl
  simp [b78_0]
  exact .fin _ _ (by simp [first2]; exact .mk)
theorem cmpF_ok {g : FuncId} {p : Term → Term → Int} (hg : plc.raw g = false ∧ plc.weak g = false ∧ g < 1000000000) {ts us : List Term} (hn : ts.length ≤ 9223372036854775807) (hlen : us.length = ts.length) (hrec : ∀ x ∈ ts, ∀ y ∈ us, pcl Cp g [.agg x.enc, .agg y.enc] = some (.int .i64 (p x y))) :
  pcl Cp 78 [.sl (encL ts) ts.length false none, .sl (encL us) us.length false none, .fn g []] = some (.int .i64 (first2 p ts us)) := by
 obtain ⟨e, t, hrun, hR⟩ := cmpF_loop g p hg ts us hn hlen hrec
 refine pcl_body code78 ?_
 try simp at hrun
 simp [hrun]
 by_cases hs : first2 p ts us = 0
 ·rw [if_pos hs] at hR
  obtain ⟨rfl, nx, rfl⟩ := hR
  simp [hlen, hs]
 ·rw [if_neg hs] at hR
  obtain ⟨rfl, hv⟩ := hR
  simp [hv]
theorem cmp_ok (t : Term) : t.ok → ∀ u : Term, u.ok → pcl Cp 48 [.agg t.enc, .agg u.enc] = some (.int .i64 (t.cmp u)) := by
 refine Term.ind (p := fun t => t.ok → ∀ u : Term, u.ok → pcl Cp 48 [.agg t.enc, .agg u.enc] = some (.int .i64 (t.cmp u))) (fun v fn args ih h => ?_) t
 intro u hu
 obtain ⟨v2, fn2, args2⟩ := u
 refine pcl_body code48 ?_
 by_cases e : fn.toList = fn2.toList
 ·obtain rfl := bytes_ext e
  by_cases n : fn.toList = []
  ·simp [Term.enc, Term.cmp, plc_raw, n, cmpInt_ok]
  ·by_cases l : args.length = args2.length
   ·have he := cmpF_ok (g := 48) (p := Term.cmp) ⟨rfl, rfl, by decide⟩ (ts := args) (us := args2) h.1 l.symm (fun x hx y hy => ih x hx (okL_mem h.2 x hx) y (okL_mem hu.2 y hy))
    rw [l] at he
    simp [Term.enc, Term.cmp, plc_raw, n, l, he, cmpL_first]
   ·have l' : ¬ (args.length : Int) = (args2.length : Int) := by omega
    simp [Term.enc, Term.cmp, plc_raw, n, l, l', cmpInt_ok]
 ·by_cases n : fn.toList = []
  ·have n2 : ¬ fn2.toList = [] := fun n2 => e (by rw [n, n2])
   have n2' : ¬ [] = fn2.toList := fun q => n2 q.symm
   have hc := cmpStr_ok fn fn2
   rw [n] at hc
   simp [Term.enc, Term.cmp, plc_raw, n, n2, n2', hc]
  ·simp [Term.enc, Term.cmp, plc_raw, n, e, cmpStr_ok]
theorem rcmp_loop (v0 : Int) (fn0 : ByteArray) (v00 : Int) (ts us : List Term) (hn : ts.length ≤ 9223372036854775807) (hlen : us.length = ts.length) (hrec : ∀ x ∈ ts, ∀ y ∈ us, pcl Cp 49 [.agg x.enc, .agg y.enc] = some (.int .i64 (x.cmp y))) :
  ∃ e t, aloop Try.prog plc b49_0 ⟨[false, false, true, true, true, true, false, false, false, false, false, false, false, false, false, false, false, false, false, false, false, false, false, false, false, false, false, false, false, false, false, false, false, false, false, false, false, false, false, false, false, false, false, false, false, false, false, false, false, false, false, false, false, false, false, false, false, false, false, false, false, false, false, false, false, false, false, false, false, false, false, false, false, false, false, false], some 29⟩ ⟨[.junk, .junk, .ptr (0, 0) 0 3, .ptr (1, 0) 0 3, .d (.int .i64 0), .d (.int .i64 0), .junk, .junk, .junk, .junk, .junk, .junk, .junk, .junk, .junk, .junk, .junk, .junk, .junk, .junk, .junk, .junk, .junk, .junk, .junk, .junk, .junk, .junk, .junk, .junk, .junk, .junk, .junk, .junk, .junk, .junk, .junk, .junk, .junk, .junk, .junk, .junk, .junk, .junk, .junk, .junk, .junk, .junk, .junk, .junk, .junk, .junk, .junk, .junk, .junk, .junk, .junk, .junk, .junk, .junk, .junk, .junk, .junk, .junk, .junk, .junk, .junk, .junk, .junk, .junk, .junk, .junk, .junk, .junk, .junk, .junk], termH2 v0 fn0 ts v00 fn0 us, 29⟩ = some (e, t) ∧
   (if cmpL ts us = 0 then AtExit 0 [.junk, .junk, .ptr (0, 0) 0 3, .ptr (1, 0) 0 3, .d (.int .i64 0), .d (.int .i64 ts.length), .junk, .junk, .junk, .junk, .junk, .junk, .junk, .junk, .junk, .junk, .junk, .junk, .junk, .junk, .junk, .junk, .junk, .junk, .junk, .junk, .junk, .junk, .junk, .junk, .junk, .junk, .junk, .junk, .junk, .junk, .junk, .junk, .junk, .junk, .junk, .junk, .junk, .junk, .junk, .junk, .junk, .junk, .junk, .junk, .junk, .junk, .junk, .junk, .junk, .junk, .junk, .junk, .junk, .junk, .junk, .junk, .junk, .junk, .junk, .junk, .junk, .junk, .junk, .junk, .junk, .junk, .junk, .junk, .junk, .junk] (termH2 v0 fn0 ts v00 fn0 us) e t else AtRet 4 (.d (.int .i64 (cmpL ts us))) e t) := by
 refine loop_rule (b := 29) (tm := fun (i : Nat) => [.junk, .junk, .ptr (0, 0) 0 3, .ptr (1, 0) 0 3, .d (.int .i64 0), .d (.int .i64 i), .junk, .junk, .junk, .junk, .junk, .junk, .junk, .junk, .junk, .junk, .junk, .junk, .junk, .junk, .junk, .junk, .junk, .junk, .junk, .junk, .junk, .junk, .junk, .junk, .junk, .junk, .junk, .junk, .junk, .junk, .junk, .junk, .junk, .junk, .junk, .junk, .junk, .junk, .junk, .junk, .junk, .junk, .junk, .junk, .junk, .junk, .junk, .junk, .junk, .junk, .junk, .junk, .junk, .junk, .junk, .junk, .junk, .junk, .junk, .junk, .junk, .junk, .junk, .junk, .junk, .junk, .junk, .junk, .junk, .junk]) (Hf := fun _ => termH2 v0 fn0 ts v00 fn0 us)
  (I := fun i => i ≤ ts.length) (μ := fun i => ts.length - i) (res := fun i => cmpL (ts.drop i) (us.drop i)) (R := fun c e t => if c = 0 then AtExit 0 [.junk, .junk, .ptr (0, 0) 0 3, .ptr (1, 0) 0 3, .d (.int .i64 0), .d (.int .i64 ts.length), .junk, .junk, .junk, .junk, .junk, .junk, .junk, .junk, .junk, .junk, .junk, .junk, .junk, .junk, .junk, .junk, .junk, .junk, .junk, .junk, .junk, .junk, .junk, .junk, .junk, .junk, .junk, .junk, .junk, .junk, .junk, .junk, .junk, .junk, .junk, .junk, .junk, .junk, .junk, .junk, .junk, .junk, .junk, .junk, .junk, .junk, .junk, .junk, .junk, .junk, .junk, .junk, .junk, .junk, .junk, .junk, .junk, .junk, .junk, .junk, .junk, .junk, .junk, .junk, .junk, .junk, .junk, .junk, .junk, .junk] (termH2 v0 fn0 ts v00 fn0 us) e t else AtRet 4 (.d (.int .i64 c)) e t)
  (fun i nx hi => ?_) 0 (Nat.zero_le _)
 rcases Nat.lt_or_ge i ts.length with hl | hl
 ·obtain ⟨v, fn, args, a⟩ := at_ok hn hl
  obtain ⟨v2, fn2, args2, b⟩ := at_ok (ts := us) (by omega) (i := i) (by omega)
  have hcall := hrec _ a.mem _ b.mem
  simp [Term.enc] at hcall
  have bsz := b.sz
  have bltm := b.ltm
  have ble3 := b.le3
  rw [hlen] at bsz bltm ble3
  conv => arg 9; arg 4; unfold b49_0
  by_cases hp : (Term.mk v fn args).cmp (.mk v2 fn2 args2) = 0
  ·rw [hp] at hcall
   simp [a.lti, a.sz, a.ltm, a.cells, a.le3, b.cells, bsz, bltm, ble3, hlen, plc_raw, hcall, a.w, termH2]
   exact .next (i + 1) (by simp) (by simp) (by simp [termH2, hlen]) hl (by omega) (by simp [a.dr, b.dr, cmpL, hp])
  ·simp [a.lti, a.sz, a.ltm, a.cells, a.le3, b.cells, bsz, bltm, ble3, hlen, plc_raw, hcall, a.w, termH2, hp]
   exact .fin _ _ (by simp only [a.dr, b.dr, cmpL, if_neg hp]; exact ⟨rfl, rfl⟩)
 ·obtain rfl : i = ts.length := Nat.le_antisymm hi hl
  simp [b49_0, termH2, hlen]
  exact .fin _ _ (by simp [cmpL, termH2, hlen]; exact .mk)
theorem rcmp_ok (t : Term) : t.ok → ∀ u : Term, u.ok → pcl Cp 49 [.agg t.enc, .agg u.enc] = some (.int .i64 (t.cmp u)) := by
 refine Term.ind (p := fun t => t.ok → ∀ u : Term, u.ok → pcl Cp 49 [.agg t.enc, .agg u.enc] = some (.int .i64 (t.cmp u))) (fun v fn args ih h => ?_) t
 intro u hu
 obtain ⟨v2, fn2, args2⟩ := u
 refine pcl_body code49 ?_
 by_cases e : fn.toList = fn2.toList
 ·obtain rfl := bytes_ext e
  by_cases n : fn.toList = []
  ·simp [Term.enc, Term.cmp, plc_raw, n, sign_ok]
  ·by_cases l : args.length = args2.length
   ·obtain ⟨e, t, hrun, hR⟩ := rcmp_loop v fn v2 args args2 h.1 l.symm (fun x hx y hy => ih x hx (okL_mem h.2 x hx) y (okL_mem hu.2 y hy))
    simp [Term.enc, termH2, l] at hrun ⊢
    by_cases hs : cmpL args args2 = 0
    ·rw [if_pos hs] at hR
     obtain ⟨rfl, nx, rfl⟩ := hR
     simp [n, less_irrefl, hrun, Term.cmp, l, hs, plc_raw]
    ·rw [if_neg hs] at hR
     obtain ⟨rfl, hv⟩ := hR
     simp [n, less_irrefl, hrun, Term.cmp, l, hv, plc_raw]
   ·have l' : ¬ (args.length : Int) = (args2.length : Int) := by omega
    simp [Term.enc, Term.cmp, plc_raw, n, l, l', sign_ok, less_irrefl]
 ·by_cases n : fn.toList = []
  ·have n2 : ¬ fn2.toList = [] := fun n2 => e (by rw [n, n2])
   have n2' : ¬ [] = fn2.toList := fun q => n2 q.symm
   have hb : Op.bytesLess [] fn2.toList = true := by
    cases q : fn2.toList with
    | nil => exact absurd q n2
    | cons => simp [Op.bytesLess]
   simp [Term.enc, Term.cmp, plc_raw, n, n2, n2', cmpS, hb]
  ·by_cases n2 : fn2.toList = []
   ·have hb : Op.bytesLess fn.toList [] = false := by
     cases q : fn.toList <;> simp [Op.bytesLess]
    simp [Term.enc, Term.cmp, plc_raw, n, n2, cmpS, hb]
   ·cases hb : Op.bytesLess fn.toList fn2.toList
    ·simp [Term.enc, Term.cmp, plc_raw, n, n2, e, cmpS, hb]
    ·simp [Term.enc, Term.cmp, plc_raw, n, n2, e, cmpS, hb]
end Go.Proofs.Ytkpomccbohjjpaa.Am

/-
 The order of terms answers one of three numbers; of literals too. No condition.
-/
namespace Go.Proofs.Ytkpomccbohjjpaa.Am
open Go Go.Proofs
set_option linter.unusedSimpArgs false
set_option linter.unusedVariables false
theorem cmpI_or (a b : Int) : cmpI a b = -1 ∨ cmpI a b = 0 ∨ cmpI a b = 1 := by
 unfold cmpI
 split
 ·exact .inl rfl
 ·split
  ·exact .inr (.inr rfl)
  ·exact .inr (.inl rfl)
theorem cmpS_or (a b : List UInt8) : cmpS a b = -1 ∨ cmpS a b = 0 ∨ cmpS a b = 1 := by
 unfold cmpS
 split
 ·exact .inl rfl
 ·split
  ·exact .inr (.inl rfl)
  ·exact .inr (.inr rfl)
theorem cmp_or (t : Term) : ∀ u : Term, t.cmp u = -1 ∨ t.cmp u = 0 ∨ t.cmp u = 1 := by
 refine Term.ind (p := fun t => ∀ u : Term, t.cmp u = -1 ∨ t.cmp u = 0 ∨ t.cmp u = 1) (fun v fn args ih u => ?_) t
 obtain ⟨v2, fn2, args2⟩ := u
 have hl : ∀ (ts us : List Term), (∀ x ∈ ts, ∀ u : Term, x.cmp u = -1 ∨ x.cmp u = 0 ∨ x.cmp u = 1) → cmpL ts us = -1 ∨ cmpL ts us = 0 ∨ cmpL ts us = 1 := by
  intro ts
  induction ts with
  | nil => intro us _; simp [cmpL]
  | cons x r ih2 =>
   intro us h
   cases us with
   | nil => simp [cmpL]
   | cons y s =>
    simp only [cmpL]
    split
    ·exact ih2 s fun z hz => h z (by simp [hz])
    ·exact h x (by simp) y
 simp only [Term.cmp]
 split
 ·exact cmpI_or _ _
 ·split
  ·split
   ·exact hl _ _ ih
   ·exact cmpI_or _ _
  ·exact cmpS_or _ _
theorem Lt.cmp_or (a b : Lt) : a.cmp b = -1 ∨ a.cmp b = 0 ∨ a.cmp b = 1 := by
 unfold Lt.cmp
 split
 ·split
  ·exact Am.cmp_or _ _
  ·exact Am.cmp_or _ _
 ·split
  ·exact .inl rfl
  ·exact .inr (.inr rfl)
end Go.Proofs.Ytkpomccbohjjpaa.Am

/-
 The order of literals, both programs'. No condition.
-/
namespace Go.Proofs.Ytkpomccbohjjpaa.Am
open Go Go.Proofs
set_option maxHeartbeats 4000000
set_option maxRecDepth 20000
set_option linter.unusedSimpArgs false
set_option linter.unusedVariables false
def orI : List Int → Int
 | [] => 0
 | x :: r => if x = 0 then orI r else x
abbrev orT (l : List Int) (fl : Bool) (nl : Option Bool) (i : Nat) : List AV := [.junk, .junk, .d (.int .i64 0), .d (.int .i64 0), .junk, .junk, .d (.sl (l.map (D.int .i64)) l.length fl nl), .d (.int .i64 l.length), .d (.int .i64 i), .junk, .junk, .junk, .junk, .junk, .junk, .junk, .junk, .junk]
theorem or_ok (l : List Int) (hn : l.length ≤ 1048576) (fl : Bool) (nl : Option Bool) : pcl Cp 47 [.sl (l.map (D.int .i64)) l.length fl nl] = some (.int .i64 (orI l)) := by
 have h := loop_rule (P := Try.prog) (pol := plc) (c := b47_0) (m := ⟨[false, false, true, true, false, false, true, true, true, false, false, false, false, false, false, false, false, true], some 5⟩)
  (b := 5) (tm := fun (i : Nat) => orT l fl nl i) (Hf := fun _ => fun _ => none)
  (I := fun i => i ≤ l.length) (μ := fun i => l.length - i) (res := fun i => orI (l.drop i)) (R := fun r e t => if r = 0 then AtExit 0 (orT l fl nl l.length) (fun _ => none) e t else AtRet 2 (.d (.int .i64 r)) e t)
  (fun i nx hi => by
   rcases Nat.lt_or_ge i l.length with hl | hl
   ·have h1 : i < (l.map (D.int .i64)).length := by simpa using hl
    have hil : (i : Int) < (l.length : Int) := by omega
    have hiw : IntKind.i64.wrap ((i : Int) + 1) = (i : Int) + 1 := wrap_i64 (by omega) (by omega)
    have h2 : 1 ≤ l.length - i := by omega
    have hd : orI (l.drop i) = if l[i] = 0 then orI (l.drop (i + 1)) else l[i] := by rw [List.drop_eq_getElem_cons hl]; rfl
    conv => arg 9; arg 4; unfold b47_0
    by_cases h0 : l[i] = 0
    ·rw [if_pos h0] at hd
     simp [hil, hl, h1, h2, hiw, h0, -List.map_drop, -List.map_take]
     exact .next (i + 1) (by omega) (by simp) rfl hl (by omega) (by simp only [hd])
    ·rw [if_neg h0] at hd
     simp [hil, hl, h1, h2, hiw, h0, -List.map_drop, -List.map_take]
     exact .fin _ _ (by simp only [hd]; rw [if_neg h0]; exact ⟨rfl, rfl⟩)
   ·obtain rfl : i = l.length := Nat.le_antisymm hi hl
    simp [b47_0]
    exact .fin _ _ (by simp [orI]; exact .mk)) 0 (Nat.zero_le _)
 obtain ⟨e, t, hrun, hR⟩ := h
 simp only [List.drop_zero] at hR
 refine pcl_body code47 ?_
 generalize orI l = r at *
 simp [orT] at hrun
 by_cases hr : r = 0
 ·rw [if_pos hr] at hR
  obtain ⟨rfl, nx, rfl⟩ := hR
  simp [hrun, hr]
 ·rw [if_neg hr] at hR
  obtain ⟨rfl, hv⟩ := hR
  simp [hrun, hv]
theorem lCmp_ok (x y : Lt) (hx : x.ok) (hy : y.ok) : pcl Cp 19 [.agg x.enc, .agg y.enc] = some (.int .i64 (x.cmp y)) := by
 have h1 := cmp_ok x.l hx.1 y.l hy.1
 have h2 := cmp_ok x.r hx.2 y.r hy.2
 have h3 := or_ok [x.l.cmp y.l, x.r.cmp y.r] (by simp) false (some false)
 refine pcl_body code19 ?_
 unfold Lt.cmp
 generalize x.l.cmp y.l = p at *
 generalize x.r.cmp y.r = q at *
 obtain ⟨n, ⟨v, fn, args⟩, ⟨v2, fn2, args2⟩⟩ := x
 obtain ⟨m, ⟨w, fm, brgs⟩, ⟨w2, fm2, brgs2⟩⟩ := y
 simp [Term.enc, orI] at h1 h2 h3
 have e : (if p = 0 then if q = 0 then 0 else q else p) = if p = 0 then q else p := by
  by_cases hp : p = 0
  ·by_cases hq : q = 0 <;> simp [hp, hq]
  ·simp [hp]
 try rw [e] at h3
 cases n <;> cases m <;> simp [Lt.enc, Term.enc, plc_raw, h1, h2, h3]
theorem rlCmp_ok (x y : Lt) (hx : x.ok) (hy : y.ok) : pcl Cp 20 [.agg x.enc, .agg y.enc] = some (.int .i64 (x.cmp y)) := by
 have h1 := rcmp_ok x.l hx.1 y.l hy.1
 have h2 := rcmp_ok x.r hx.2 y.r hy.2
 refine pcl_body code20 ?_
 unfold Lt.cmp
 generalize x.l.cmp y.l = p at *
 generalize x.r.cmp y.r = q at *
 obtain ⟨n, ⟨v, fn, args⟩, ⟨v2, fn2, args2⟩⟩ := x
 obtain ⟨m, ⟨w, fm, brgs⟩, ⟨w2, fm2, brgs2⟩⟩ := y
 simp [Term.enc] at h1 h2
 by_cases hp : p = 0
 ·cases n <;> cases m <;> simp [Lt.enc, Term.enc, plc_raw, h1, h2, hp]
 ·cases n <;> cases m <;> simp [Lt.enc, Term.enc, plc_raw, h1, h2, hp]
end Go.Proofs.Ytkpomccbohjjpaa.Am

/-
 Signatures as data: names and weights; names' places, which signatures are right, which name is above. No condition.
-/
namespace Go.Proofs.Ytkpomccbohjjpaa.Am
open Go
structure Sg where
 names : List ByteArray
 weights : List Int
def encS (ns : List ByteArray) : List D := ns.map .str
def encI (ws : List Int) : List D := ws.map (.int .i64)
@[simp] theorem encS_len (ns : List ByteArray) : (encS ns).length = ns.length := by simp [encS]
@[simp] theorem encI_len (ns : List Int) : (encI ns).length = ns.length := by simp [encI]
@[simp] theorem encS_get (ns : List ByteArray) (i : Nat) (h : i < (encS ns).length) : (encS ns)[i] = .str (ns[i]'(by simpa using h)) := by simp [encS]
@[simp] theorem encI_get (ns : List Int) (i : Nat) (h : i < (encI ns).length) : (encI ns)[i] = .int .i64 (ns[i]'(by simpa using h)) := by simp [encI]
def Sg.enc (g : Sg) : List D := [.sl (encS g.names) g.names.length false none, .sl (encI g.weights) g.weights.length false none]
def Sg.ok (g : Sg) : Prop := g.names.length ≤ 9223372036854775807 ∧ g.weights.length ≤ 9223372036854775807
def eqS (a b : ByteArray) : Bool := a.toList == b.toList
def idxS (ns : List ByteArray) (s : ByteArray) : Int := match ns.findIdx? (fun n => eqS n s) with | some k => k | none => -1
def dollarTrue : List UInt8 := [36, 116, 114, 117, 101]
def badN (ns : List ByteArray) (i : Nat) (n : ByteArray) : Bool := n.toList.isEmpty || decide (64 < (n.size : Int)) || (n.toList == dollarTrue) || decide (idxS ns n ≠ (i : Int))
def badW (w : Int) : Bool := decide (w < 1) || decide (1000 < w)
def anyI {α : Type} (p : Nat → α → Bool) (l : List α) (i : Nat) : Bool := (l.drop i).zipIdx i |>.any fun q => p q.2 q.1
theorem anyI_end {α : Type} (p : Nat → α → Bool) (l : List α) : anyI p l l.length = false := by simp [anyI]
theorem anyI_step {α : Type} {p : Nat → α → Bool} {l : List α} {i : Nat} (h : i < l.length) : anyI p l i = (p i l[i] || anyI p l (i + 1)) := by
 unfold anyI
 rw [List.drop_eq_getElem_cons h, List.zipIdx_cons, List.any_cons]
def Sg.right (g : Sg) : Bool :=
 !(decide (200 < (g.names.length : Int)) || decide (g.names.length < g.weights.length) || anyI (badN g.names) g.names 0 || anyI (fun _ => badW) g.weights 0)
def Sg.rank (g : Sg) (s : ByteArray) : Int := if s.toList = dollarTrue then -2 else idxS g.names s
def gtS (a b : ByteArray) : Bool := !(Op.bytesLess a.toList b.toList || a.toList == b.toList)
def Sg.above (g : Sg) (a b : ByteArray) : Bool := if g.rank a ≠ g.rank b then decide (g.rank a > g.rank b) else gtS a b
def Sg.aboveR (g : Sg) (a b : ByteArray) : Bool :=
 if a.toList = b.toList ∨ a.toList = dollarTrue then false else if b.toList = dollarTrue then true
 else if idxS g.names a < 0 ∧ idxS g.names b < 0 then gtS a b else decide (idxS g.names a > idxS g.names b)
def Sg.of (g : Sg) (s : ByteArray) : Int :=
 let i := idxS g.names s
 if s.toList = [] ∨ i < 0 ∨ (g.weights.length : Int) ≤ i then 1 else
 let w := g.weights.getD i.toNat 0
 if w < 1 ∨ 1000 < w then 1 else w
theorem idxS_lt {ns : List ByteArray} {s : ByteArray} : idxS ns s = -1 ∨ ∃ k : Nat, idxS ns s = k ∧ k < ns.length := by
 unfold idxS
 cases h : ns.findIdx? (fun n => eqS n s) with
 | none => exact .inl rfl
 | some k =>
  rw [List.findIdx?_eq_some_iff_getElem] at h
  exact .inr ⟨k, rfl, h.1⟩
end Go.Proofs.Ytkpomccbohjjpaa.Am

/-
 Data of which less is known: terms, binds, names, numbers are that already. No condition.
-/
namespace Go.Proofs.Ytkpomccbohjjpaa.Am
open Go Go.Proofs
set_option linter.unusedSimpArgs false
@[simp] theorem wkL_encL : ∀ (ts : List Term), wkL (encL ts) = encL ts
 | [] => rfl
 | .mk v fn args :: r => by simp [encL, Term.enc, wkL_encL args, wkL_encL r]
@[simp] theorem wkL_encS (l : List ByteArray) : wkL (encS l) = encS l := by induction l <;> simp_all [encS]
@[simp] theorem wkL_encI (l : List Int) : wkL (encI l) = encI l := by induction l <;> simp_all [encI]
@[simp] theorem wkL_encB : ∀ (bs : List Bd), wkL (encB bs) = encB bs
 | [] => rfl
 | ⟨x, .mk v fn args⟩ :: r => by
  have := wkL_encB r
  simp [encB] at this
  simp [encB, Bd.enc, Term.enc, this]
theorem mapD_encT (H : Hp) (n : Nat) : ∀ (l : List D), mapD (reify H n) (l.map .d) = some (l, [])
 | [] => rfl
 | x :: r => by
  have h := mapD_encT H n r
  rw [List.map_cons, mapD, h]
  cases n <;> simp [reify]
end Go.Proofs.Ytkpomccbohjjpaa.Am

/-
 Which clauses are right, as the document says. No condition.
-/
namespace Go.Proofs.Ytkpomccbohjjpaa.Am
open Go Go.Proofs
set_option maxHeartbeats 4000000
set_option maxRecDepth 20000
set_option linter.unusedSimpArgs false
set_option linter.unusedVariables false
@[simp] theorem wkL_encC : ∀ (c : List Lt), wkL (encC c) = encC c
 | [] => rfl
 | ⟨n, ⟨v, fn, args⟩, ⟨v2, fn2, args2⟩⟩ :: r => by simp [encC, Lt.enc, Term.enc, wkL_encC r]
theorem AtC.f1 {c : List Lt} {i : Nat} {n : Bool} {v v2 : Int} {fn fn2 : ByteArray} {args args2 : List Term} (a : AtC c i n v fn args v2 fn2 args2) : ((encC c).drop (i * 7 + 1)).take 3 = [.int .i64 v, .str fn, .sl (encL args) args.length false none] := by
 have h := congrArg (fun l => (l.drop 1).take 3) a.cells
 simp only [List.drop_take, List.drop_drop, List.take_take] at h
 exact h
theorem AtC.f2 {c : List Lt} {i : Nat} {n : Bool} {v v2 : Int} {fn fn2 : ByteArray} {args args2 : List Term} (a : AtC c i n v fn args v2 fn2 args2) : ((encC c).drop (i * 7 + 4)).take 3 = [.int .i64 v2, .str fn2, .sl (encL args2) args2.length false none] := by
 have h := congrArg (fun l => (l.drop 4).take 3) a.cells
 simp only [List.drop_take, List.drop_drop, List.take_take] at h
 exact h
abbrev sz6T (c : List Lt) (fl : Bool) (nl : Option Bool) (acc : Int) (i : Nat) : List AV := [.d (.sl (encC c) c.length fl nl), .junk, .d (.int .i64 0), .d (.int .i64 acc), .d (.int .i64 i), .junk, .junk, .junk, .junk, .junk, .junk, .junk, .junk, .junk, .junk, .junk, .junk, .junk, .junk, .junk, .junk, .junk, .junk, .junk, .junk, .junk, .junk]
theorem rsize6_ok {c : List Lt} (hc : okC c) (fl : Bool) (nl : Option Bool) : pcl Cp 24 [.sl (encC c) c.length fl nl] = some (.int .i64 (csizeW 0 c)) := by
 have h := loop_rule (P := Try.prog) (pol := plc) (c := b24_0) (m := ⟨[true, false, true, true, true, false, false, false, false, false, false, false, false, false, false, false, false, false, false, false, false, false, false, false, false, false, true], some 3⟩)
  (b := 3) (tm := fun (s : Int × Nat) => sz6T c fl nl s.1 s.2) (Hf := fun _ => fun _ => none)
  (I := fun s => s.2 ≤ c.length) (μ := fun s => c.length - s.2) (res := fun s => csizeW s.1 (c.drop s.2)) (R := fun r => AtExit 0 (sz6T c fl nl r c.length) (fun _ => none))
  (fun s nx1 hi => by
   obtain ⟨acc, i⟩ := s
   simp only at hi
   rcases Nat.lt_or_ge i c.length with hl | hl
   ·obtain ⟨n, v, fn, args, v2, fn2, args2, a⟩ := atC_ok hc.1 hl
    have hx := hc.2 _ a.mem
    have c1 := rsize_ok _ hx.1
    have c2 := rsize_ok _ hx.2
    simp [Term.enc] at c1 c2
    have e1 : i * 7 + 7 ≤ c.length * 7 := by omega
    have e4 : 4 ≤ c.length * 7 - i * 7 := by omega
    have e5 : 3 ≤ c.length * 7 - (i * 7 + 1) := by omega
    have e6 : 3 ≤ c.length * 7 - (i * 7 + 4) := by omega
    have e7 : 7 ≤ c.length * 7 - i * 7 := by omega
    have hf1 := a.f1
    have hf2 := a.f2
    conv => arg 9; arg 4; unfold b24_0
    simp [a.lti, a.sz, a.ltm, a.le7, hf1, hf2, e1, e4, e5, e6, e7, plc_raw, c1, c2, a.w]
    exact .next (Lt.sizeW ⟨n, .mk v fn args, .mk v2 fn2 args2⟩ acc, i + 1) (by omega) (by simp [Lt.sizeW]) rfl hl (by simp only; omega) (by simp only [a.dr, csizeW])
   ·obtain rfl : i = c.length := Nat.le_antisymm hi hl
    simp [b24_0]
    exact .fin _ _ (by simp [csizeW]; exact .mk)) (0, 0) (Nat.zero_le _)
 obtain ⟨e, t, hrun, rfl, nx, rfl⟩ := h
 refine pcl_body code24 ?_
 simp [sz6T] at hrun
 simp [hrun]
abbrev rt6T (c : List Lt) (fl : Bool) (nl : Option Bool) (i : Nat) : List AV := [.d (.sl (encC c) c.length fl nl), .junk, .d (.int .i64 0), .d (.int .i64 i), .junk, .junk, .junk, .junk, .junk, .junk, .junk, .junk, .junk, .junk, .junk, .junk, .junk, .junk, .junk, .junk, .junk, .junk, .junk, .junk, .junk, .junk, .junk, .junk, .junk, .junk, .junk, .junk, .junk, .junk, .junk, .junk]
theorem rright6_ok {c : List Lt} (hc : okC c) (fl : Bool) (nl : Option Bool) : pcl Cp 7 [.sl (encC c) c.length fl nl] = some (.int .i64 (clE c)) := by
 have h := loop_rule (P := Try.prog) (pol := plc) (c := b7_0) (m := ⟨[true, false, true, true, false, false, false, false, false, false, false, false, false, false, false, false, false, false, false, false, false, false, false, false, false, false, false, false, false, false, false, false, false, true, true, true], some 5⟩)
  (b := 5) (tm := fun (i : Nat) => rt6T c fl nl i) (Hf := fun _ => fun _ => none)
  (I := fun i => i ≤ c.length) (μ := fun i => c.length - i) (res := fun i => firstE (c.drop i)) (R := fun r e t => if r = 0 then AtExit 0 (rt6T c fl nl c.length) (fun _ => none) e t else AtRet 2 (.d (.int .i64 r)) e t)
  (fun i nx1 hi => by
   rcases Nat.lt_or_ge i c.length with hl | hl
   ·obtain ⟨n, v, fn, args, v2, fn2, args2, a⟩ := atC_ok hc.1 hl
    have hx := hc.2 _ a.mem
    have c1 := rright_ok _ hx.1
    have c2 := rright_ok _ hx.2
    have hd : firstE (c.drop i) = if (Term.mk v fn args).rightE ≠ 0 then (Term.mk v fn args).rightE else if (Term.mk v2 fn2 args2).rightE ≠ 0 then (Term.mk v2 fn2 args2).rightE else firstE (c.drop (i + 1)) := by rw [a.dr]; rfl
    simp only at c1 c2
    generalize (Term.mk v fn args).rightE = z1 at c1 hd
    generalize (Term.mk v2 fn2 args2).rightE = z2 at c2 hd
    simp [Term.enc] at c1 c2
    have e1 : i * 7 + 7 ≤ c.length * 7 := by omega
    have e4 : 4 ≤ c.length * 7 - i * 7 := by omega
    have e5 : 3 ≤ c.length * 7 - (i * 7 + 1) := by omega
    have e6 : 3 ≤ c.length * 7 - (i * 7 + 4) := by omega
    have e7 : 7 ≤ c.length * 7 - i * 7 := by omega
    have hf1 := a.f1
    have hf2 := a.f2
    conv => arg 9; arg 4; unfold b7_0
    by_cases h1 : z1 = 0
    ·by_cases h2 : z2 = 0
     ·simp [a.lti, a.sz, a.ltm, a.le7, hf1, hf2, e1, e4, e5, e6, e7, plc_raw, c1, c2, a.w, h1, h2]
      exact .next (i + 1) (by omega) (by simp) rfl hl (by omega) (by rw [hd, if_neg (by simp [h1]), if_neg (by simp [h2])])
     ·simp [a.lti, a.sz, a.ltm, a.le7, hf1, hf2, e1, e4, e5, e6, e7, plc_raw, c1, c2, a.w, h1, h2]
      have hr : firstE (c.drop i) = z2 := by rw [hd]; simp [h1, h2]
      exact .fin _ _ (by simp only [hr]; rw [if_neg h2]; exact ⟨rfl, rfl⟩)
    ·simp [a.lti, a.sz, a.ltm, a.le7, hf1, hf2, e1, e4, e5, e6, e7, plc_raw, c1, c2, a.w, h1]
     have hr : firstE (c.drop i) = z1 := by rw [hd]; simp [h1]
     exact .fin _ _ (by simp only [hr]; rw [if_neg h1]; exact ⟨rfl, rfl⟩)
   ·obtain rfl : i = c.length := Nat.le_antisymm hi hl
    simp [b7_0]
    exact .fin _ _ (by simp [firstE]; exact .mk)) 0 (Nat.zero_le _)
 obtain ⟨e, t, hrun, hR⟩ := h
 have hsz := rsize6_ok hc fl nl
 refine pcl_body code7 ?_
 unfold clE
 simp only [List.drop_zero] at hR
 generalize csizeW 0 c = z at *
 generalize firstE c = f at *
 simp [rt6T] at hrun
 by_cases h60 : c.length > 60
 ·have h60' : (60 : Int) < (c.length : Int) := by omega
  simp [h60, h60']
 ·have h60' : ¬ (60 : Int) < (c.length : Int) := by omega
  by_cases hf : f = 0
  ·rw [if_pos hf] at hR
   obtain ⟨rfl, nx, rfl⟩ := hR
   by_cases hz : 4000 < z <;> simp [h60, h60', hrun, plc_raw, hsz, hf, hz]
  ·rw [if_neg hf] at hR
   obtain ⟨rfl, hv⟩ := hR
   simp [h60, h60', hrun, hv, hf]
end Go.Proofs.Ytkpomccbohjjpaa.Am

/-
 The law on the order of literals: the function returns true. No condition.
-/
namespace Go.Proofs.Ytkpomccbohjjpaa.Am
open Go Go.Proofs
set_option maxHeartbeats 4000000
set_option maxRecDepth 20000
set_option linter.unusedSimpArgs false
set_option linter.unusedVariables false
theorem alive_ok : pcl Cp 8 [] = some (.bool true) := by
 have h : acall Try.prog plc 8 [] (fun _ => none) 0 = some (.d (.bool true), fun _ => none, 0) := by
  refine acall_of Try.prog plc ?_
  unfold callF
  have : plc.ext 8 = some aliveX := rfl
  rw [this]
  rfl
 unfold pcl
 simp [h, reify]
theorem rightE_shapeB {t : Term} (h : t.rightE = 0) : t.shapeB = true := by
 unfold Term.rightE at h
 cases hs : t.shapeB with
 | true => rfl
 | false => rw [hs] at h; simp at h
theorem litsOrder_ok (a : Lt) (ha : a.ok) (b : Lt) (hb : b.ok) (c : Lt) (hc : c.ok) : pcl Cp 5 [.agg a.enc, .agg b.enc, .agg c.enc] = some (.bool true) := by
 have hR := rright6_ok (c := [a, b, c]) ⟨by simp, fun x hx => by simp at hx; rcases hx with rfl | rfl | rfl <;> assumption⟩ false none
 have k1 := lCmp_ok a b ha hb
 have k2 := lCmp_ok b c hb hc
 have k3 := lCmp_ok a c ha hc
 have k4 := lCmp_ok b a hb ha
 have k5 := rlCmp_ok a b ha hb
 have h7 := alive_ok
 have hs := fun h => clE_mem (c := [a, b, c]) h
 have hneg := Lt.cmp_neg b a
 have hor := Lt.cmp_or a b
 have hle : clE [a, b, c] = 0 → a.cmp b ≤ 0 → b.cmp c ≤ 0 → a.cmp c ≤ 0 := fun h0 h1 h2 => by
  have s1 := hs h0 a (by simp)
  have s2 := hs h0 b (by simp)
  have s3 := hs h0 c (by simp)
  exact Lt.cmp_le a b c ⟨rightE_shapeB s1.1, rightE_shapeB s1.2⟩ ⟨rightE_shapeB s2.1, rightE_shapeB s2.2⟩ ⟨rightE_shapeB s3.1, rightE_shapeB s3.2⟩ h1 h2
 refine pcl_body code5 ?_
 clear hs
 generalize clE [a, b, c] = e at *
 generalize a.cmp b = x at *
 generalize b.cmp c = y at *
 generalize a.cmp c = z at *
 generalize b.cmp a = w at *
 subst hneg
 obtain ⟨n, ⟨v, fn, args⟩, ⟨v2, fn2, args2⟩⟩ := a
 obtain ⟨n3, ⟨v3, fn3, args3⟩, ⟨v4, fn4, args4⟩⟩ := b
 obtain ⟨n5, ⟨v5, fn5, args5⟩, ⟨v6, fn6, args6⟩⟩ := c
 simp [encC, Lt.enc, Term.enc] at hR k1 k2 k3 k4 k5
 by_cases h0 : e = 0
 ·have hle := hle h0
  have hw1 : IntKind.i64.wrap (-1) = -1 := by decide
  have hw2 : IntKind.i64.wrap 1 = 1 := by decide
  have hw0 : IntKind.i64.wrap 0 = 0 := by decide
  rcases hor with rfl | rfl | rfl
  ·by_cases hy : 0 < y
   ·simp [encC, Lt.enc, Term.enc, plc_raw, hR, k1, k2, k3, k4, k5, h0, h7, hw1, hw2, hw0, hy]
   ·have hz := hle (by omega) (by omega)
    simp [encC, Lt.enc, Term.enc, plc_raw, hR, k1, k2, k3, k4, k5, h0, h7, hw1, hw2, hw0, hy, hz]
  ·by_cases hy : 0 < y
   ·simp [encC, Lt.enc, Term.enc, plc_raw, hR, k1, k2, k3, k4, k5, h0, h7, hw1, hw2, hw0, hy]
   ·have hz := hle (by omega) (by omega)
    simp [encC, Lt.enc, Term.enc, plc_raw, hR, k1, k2, k3, k4, k5, h0, h7, hw1, hw2, hw0, hy, hz]
  ·simp [encC, Lt.enc, Term.enc, plc_raw, hR, k1, k2, k3, k4, k5, h0, h7, hw1, hw2, hw0]
 ·simp [encC, Lt.enc, Term.enc, plc_raw, hR, h0, h7]
end Go.Proofs.Ytkpomccbohjjpaa.Am


/-
  Joined texts: AmRow. No condition.
-/
import Derived.Test.YtfcedichoigbbaaAmPaq
import Derived.WalkKit
import Derived.ProofKit
import Derived.OpenShut
import Derived.ShutString
import Derived.ChangeOld
import Derived.Below
import Derived.JoinedCond
/-
  What the statements' arguments are read as: signatures, terms, numbers, texts. No condition.
-/
namespace Go.Proofs.Ytfcedichoigbbaa.Am
open Go Go.Proofs
open Go.ChangeShapes Go.WideShapes Go.ChangeAt Go.RowKit
open Go.ChangeMaps (open_string shut_string)
set_option linter.unusedVariables false

theorem row_own : ownKnob Try.prog.godebug = none := by kernel_rfl
theorem row_laidOut : laidOutB Try.prog = true := by kernel_rfl
theorem row_orders : Try.prog.follows .mixedOrders = true := by kernel_rfl
theorem row_pol : PolOk Try.prog plc := ⟨fun f g h => (by cases h), hole_ok⟩

theorem encL_flat : ∀ (ts : List Am.Term), encL ts = ts.flatMap Am.Term.enc
  | [] => rfl
  | t :: r => by simp [encL, encL_flat r]
theorem encS_flat (l : List ByteArray) : encS l = l.flatMap fun x => [D.str x] := by induction l <;> simp_all [encS]
theorem encI_flat (l : List Int) : encI l = l.flatMap fun x => [D.int .i64 x] := by induction l <;> simp_all [encI]
theorem okL_of : ∀ {ts : List Am.Term}, (∀ x ∈ ts, x.ok) → okL ts
  | [], _ => trivial
  | t :: r, h => ⟨h t (by simp), okL_of fun x hx => h x (by simp [hx])⟩
theorem sizeL_sum : ∀ (ts : List Am.Term), sizeL ts = (ts.map Am.Term.size).sum
  | [] => rfl
  | t :: r => by simp [sizeL, sizeL_sum r]
theorem reads_term : ∀ n, ReadsB Try.prog 28 n Am.Term.enc Am.Term.ok Am.Term.size
  | 0 => .zero
  | n + 1 => by
    have hs : ReadsB Try.prog 26 n (fun xs : List Am.Term => [D.sl (xs.flatMap Am.Term.enc) xs.length false none]) (fun xs => xs.length ≤ maxLen ∧ ∀ x ∈ xs, x.ok) (fun xs => (xs.map Am.Term.size).sum + 1) := by
      cases n with
      | zero => exact .zero
      | succ m => exact .slice Try.underlying26 (by rw [show Try.prog.cellsOf 28 = 3 from by kernel_rfl]; decide) ((reads_term (m + 1)).le (by omega))
    exact (ReadsB.struct3 (s0 := 1) (s1 := 1) (s2 := 1) Try.underlying28 (by kernel_rfl) ⟨by kernel_rfl, rfl⟩ ⟨by kernel_rfl, rfl⟩ ⟨by kernel_rfl, rfl⟩ (ReadsB.int Try.underlying3) (ReadsB.str Try.underlying9) hs).map (fun x => .mk x.1 x.2.1 x.2.2)
      (fun x => by simp [Am.Term.enc, encL_flat]) (fun x hx => ⟨by have := hx.2.2.1; simp [maxLen] at this; omega, okL_of hx.2.2.2⟩) (fun x => by simp only [Am.Term.size, sizeL_sum]; omega)
theorem sum_one {α : Type} (l : List α) : (l.map fun _ => 1).sum = l.length := by induction l <;> simp_all <;> omega
theorem reads_ints (n : Nat) : ReadsB Try.prog 23 n (fun l : List Int => [D.sl (encI l) l.length false none]) (fun l => l.length ≤ 9223372036854775807 ∧ ∀ x ∈ l, (Lit.int .i64 x).wf = true) (fun l => l.length) := by
  cases n with
  | zero => exact .zero
  | succ m =>
    exact (ReadsB.slice Try.underlying23 (by rw [show Try.prog.cellsOf 3 = 1 from by kernel_rfl]; decide) (ReadsB.int Try.underlying3)).map (fun l => l) (fun l => by rw [encI_flat]) (fun l hl => ⟨by have := hl.1; simp [maxLen] at this; omega, hl.2⟩) (fun l => by show l.length ≤ (l.map fun _ => 1).sum + 1; rw [sum_one]; omega)
theorem reads_strs (n : Nat) : ReadsB Try.prog 22 n (fun l : List ByteArray => [D.sl (encS l) l.length false none]) (fun l => l.length ≤ 9223372036854775807) (fun l => l.length) := by
  cases n with
  | zero => exact .zero
  | succ m =>
    exact (ReadsB.slice Try.underlying22 (by rw [show Try.prog.cellsOf 9 = 1 from by kernel_rfl]; decide) (ReadsB.str Try.underlying9)).map (fun l => l) (fun l => by rw [encS_flat]) (fun l hl => by have := hl.1; simp [maxLen] at this; omega) (fun l => by show l.length ≤ (l.map fun _ => 1).sum + 1; rw [sum_one]; omega)
theorem reads_sign (n : Nat) : ReadsB Try.prog 25 n Sg.enc Sg.ok (fun _ => 0) := by
  cases n with
  | zero => exact .zero
  | succ m =>
    exact (ReadsB.struct2 (s0 := 1) (s1 := 1) Try.underlying25 (by kernel_rfl) ⟨by kernel_rfl, rfl⟩ ⟨by kernel_rfl, rfl⟩ (reads_strs m) (reads_ints m)).map (fun x => ⟨x.1, x.2⟩) (fun x => rfl) (fun x hx => ⟨hx.1, hx.2.1⟩) (fun x => by simp)

def okBz (bs : List Bd) : Prop := okB bs
theorem encB_flat (l : List Bd) : encB l = l.flatMap Bd.enc := rfl
theorem reads_bind (m : Nat) : ReadsB Try.prog 40 m Bd.enc (fun b => b.t.ok) (fun b => b.t.size) := by
  cases m with
  | zero => exact .zero
  | succ k =>
    exact (ReadsB.struct2 (s0 := 1) (s1 := 3) Try.underlying40 (by kernel_rfl) ⟨by kernel_rfl, rfl⟩ ⟨by kernel_rfl, rfl⟩ (ReadsB.int Try.underlying3) (reads_term k)).map (fun x => ⟨x.1, x.2⟩) (fun x => rfl) (fun x hx => hx.2) (fun x => by show x.2.size ≤ 1 + x.2.size + 1; omega)
theorem reads_binds (n : Nat) : ReadsB Try.prog 37 n (fun bs : List Bd => [D.sl (encB bs) bs.length false none]) okB (fun bs => (bs.map fun b => b.t.size).sum) := by
  cases n with
  | zero => exact .zero
  | succ m =>
    exact (ReadsB.slice Try.underlying37 (by rw [show Try.prog.cellsOf 40 = 4 from by kernel_rfl]; decide) (reads_bind m)).map (fun xs => xs) (fun xs => rfl) (fun xs hx => ⟨by have := hx.1; simp [maxLen] at this; omega, hx.2⟩) (fun xs => Nat.le_succ _)
theorem binds_le {bs : List Bd} {n : Nat} (h : (bs.map fun b => b.t.size).sum ≤ n) : ∀ x ∈ bs, x.t.size ≤ n := by
  induction bs with
  | nil => intro x hx; simp at hx
  | cons b r ih =>
    intro x hx
    simp only [List.map_cons, List.sum_cons] at h
    rcases List.mem_cons.1 hx with rfl | hx
    · omega
    · have := ih (by omega) x hx; omega

/-- An argument is what was read. -/
theorem arg_slice {w : World} {a : Option Addr} {l c : Nat} {x : D} (h : CD w [x] (Value.slice a l c).cells.toList) : RepD (· < w.heap.size) w x (.slice a l c) := by
  have := h.rep 0 x rfl
  simpa [Value.cells] using this
theorem arg_agg {w : World} {cs : Array Value} {ds : List D} (h : CD w ds (Value.agg cs).cells.toList) : RepD (· < w.heap.size) w (.agg ds) (.agg cs) := by
  have hl := h.len
  simp only [Value.cells, Array.length_toList] at hl
  refine .agg ds cs hl (fun j hj => ?_) (fun j x hx => ?_)
  · have := h.one j (by simpa [Value.cells] using hj)
    simpa [Value.cells] using this
  · have := h.rep j x hx
    simpa [Value.cells] using this
end Go.Proofs.Ytfcedichoigbbaa.Am


/-
  Joined texts: AmRow. No condition.
-/
import Derived.Test.YtnlmonokkppagaaAmPan
import Derived.WalkKit
import Derived.ProofKit
import Derived.OpenShut
import Derived.ShutString
import Derived.ChangeOld
import Derived.Below
import Derived.JoinedCond
/-
  What carries the scheduler's laws over to their statements. No condition.
-/
namespace Go.Proofs.Ytnlmonokkppagaa.Am
open Go Go.Proofs
open Go.ChangeShapes Go.WideShapes Go.ChangeAt Go.RowKit
open Go.ChangeMaps (open_string shut_string)
set_option linter.unusedVariables false

theorem row_own : ownKnob Try.prog.godebug = none := by kernel_rfl
theorem row_laidOut : laidOutB Try.prog = true := by kernel_rfl
theorem row_orders : Try.prog.follows .mixedOrders = true := by kernel_rfl
theorem row_pol : PolOk Try.prog plc := ⟨fun f g h => (by cases h), fun c g h => (by cases h)⟩
theorem reads_struct4 {P : Program} {t : TypeId} {n : Nat} {α β γ δ : Type} {f0 f1 f2 f3 : Field} {s0 s1 s2 s3 : Nat} {e0 : α → List D} {w0 : α → Prop} {z0 : α → Nat} {e1 : β → List D} {w1 : β → Prop} {z1 : β → Nat} {e2 : γ → List D} {w2 : γ → Prop} {z2 : γ → Nat} {e3 : δ → List D} {w3 : δ → Prop} {z3 : δ → Nat} (ht : P.underlying t = some (.struct #[f0, f1, f2, f3])) (hs : P.cellsOf t = s0 + s1 + s2 + s3)
    (h0 : P.cellsOf f0.type = s0 ∧ f0.offset = 0) (h1 : P.cellsOf f1.type = s1 ∧ f1.offset = s0) (h2 : P.cellsOf f2.type = s2 ∧ f2.offset = s0 + s1) (h3 : P.cellsOf f3.type = s3 ∧ f3.offset = s0 + s1 + s2) (r0 : ReadsB P f0.type n e0 w0 z0) (r1 : ReadsB P f1.type n e1 w1 z1) (r2 : ReadsB P f2.type n e2 w2 z2) (r3 : ReadsB P f3.type n e3 w3 z3) :
    ReadsB P t (n + 1) (fun x : α × β × γ × δ => e0 x.1 ++ e1 x.2.1 ++ e2 x.2.2.1 ++ e3 x.2.2.2) (fun x => w0 x.1 ∧ w1 x.2.1 ∧ w2 x.2.2.1 ∧ w3 x.2.2.2) (fun x => z0 x.1 + z1 x.2.1 + z2 x.2.2.1 + z3 x.2.2.2 + 1) := by
  intro H e w base sp held fuel hf cs d hd
  obtain ⟨xs, m, rfl, rfl, hl, hn, hat⟩ := DataW.trod_struct ht hd
  match xs, hn with
  | [y0, y1, y2, y3], _ =>
    obtain ⟨x, hx, hwx, hb0⟩ := r0 H e w base sp held m (by omega) _ y0 (hat 0 f0 rfl)
    obtain ⟨y, hy, hwy, hb1⟩ := r1 H e w base sp held m (by omega) _ y1 (hat 1 f1 rfl)
    obtain ⟨z, hz, hwz, hb2⟩ := r2 H e w base sp held m (by omega) _ y2 (hat 2 f2 rfl)
    obtain ⟨u, hu, hwu, hb3⟩ := r3 H e w base sp held m (by omega) _ y3 (hat 3 f3 rfl)
    refine ⟨(x, y, z, u), ?_, ⟨hwx, hwy, hwz, hwu⟩, by simp only [List.map_cons, List.map_nil, Rows.uptoBulk, Rows.uptoBulkAll]; omega⟩
    rw [h0.1, h0.2] at hx
    rw [h1.1, h1.2] at hy
    rw [h2.1, h2.2] at hz
    rw [h3.1, h3.2] at hu
    have e : cs = (((cs.drop 0).take s0 ++ (cs.drop s0).take s1) ++ (cs.drop (s0 + s1)).take s2) ++ (cs.drop (s0 + s1 + s2)).take s3 := by
      have d2 : cs.drop (s0 + s1 + s2) = (cs.drop (s0 + s1)).drop s2 := by rw [List.drop_drop]
      have d1 : cs.drop (s0 + s1) = (cs.drop s0).drop s1 := by rw [List.drop_drop]
      rw [List.drop_zero, List.take_of_length_le (l := cs.drop (s0 + s1 + s2)) (by simp; omega), d2, List.append_assoc, List.take_append_drop, d1, List.append_assoc, List.take_append_drop, List.take_append_drop]
    rw [e]
    exact ((hx.append hy).append hz).append hu
theorem encO_flat (l : List Op4) : encO l = l.flatMap fun x => [D.int .i64 x.1] ++ [D.int .i64 x.2.1] ++ [D.int .i64 x.2.2.1] ++ [D.int .i64 x.2.2.2] := by induction l <;> simp_all [encO]
theorem reads_op (m : Nat) : ReadsB Try.prog 39 m (fun x : Op4 => [D.int .i64 x.1] ++ [D.int .i64 x.2.1] ++ [D.int .i64 x.2.2.1] ++ [D.int .i64 x.2.2.2]) (fun _ => True) (fun _ => 1) := by
  cases m with
  | zero => exact .zero
  | succ k =>
    exact (reads_struct4 (s0 := 1) (s1 := 1) (s2 := 1) (s3 := 1) Try.underlying39 (by kernel_rfl) ⟨by kernel_rfl, rfl⟩ ⟨by kernel_rfl, rfl⟩ ⟨by kernel_rfl, rfl⟩ ⟨by kernel_rfl, rfl⟩ (ReadsB.int Try.underlying3) (ReadsB.int Try.underlying3) (ReadsB.int Try.underlying3) (ReadsB.int Try.underlying3)).map (fun x => x) (fun _ => rfl) (fun _ _ => trivial) (fun x => by omega)
theorem reads_ops (n : Nat) : ReadsB Try.prog 35 n (fun l : List Op4 => [dO l]) (fun l => l.length ≤ 9223372036854775807) (fun _ => 0) := by
  cases n with
  | zero => exact .zero
  | succ m =>
    exact (ReadsB.slice Try.underlying35 (by rw [show Try.prog.cellsOf 39 = 4 from by kernel_rfl]; decide) (reads_op m)).map (fun xs => xs) (fun xs => by rw [dO, encO_flat]) (fun xs hx => by have := hx.1; simp [maxLen] at this; omega) (fun xs => Nat.zero_le _)
theorem arg_slice {w : World} {a : Option Addr} {l c : Nat} {x : D} (h : CD w [x] (Value.slice a l c).cells.toList) : RepD (· < w.heap.size) w x (.slice a l c) := by
  have := h.rep 0 x rfl
  simpa [Value.cells] using this
end Go.Proofs.Ytnlmonokkppagaa.Am


/-
  'assizelaw04.SubstSame' returns true, whatever the input. No condition.
-/
import Derived.Test.YtiafeijkifpfaaaAmB34b
import Derived.Test.YtiafeijkifpfaaaAm19
import Derived.Test.YtiafeijkifpfaaaRows
import Derived.WalkKit
import Derived.ProofKit
import Derived.OpenShut
import Derived.ShutString
import Derived.ChangeOld
import Derived.Below
namespace Go.Proofs.Ytiafeijkifpfaaa.substSame
open Go Go.Proofs Go.Proofs.Ytiafeijkifpfaaa.Am
open Go.ChangeShapes Go.WideShapes Go.ChangeAt Go.RowKit
open Go.ChangeMaps (open_string shut_string)
set_option linter.unusedVariables false

theorem own : ownKnob Try.prog.godebug = none := by kernel_rfl
theorem laidOut : laidOutB Try.prog = true := by kernel_rfl
theorem orders : Try.prog.follows .mixedOrders = true := by kernel_rfl

theorem encL_flat : ∀ (ts : List Am.Term), encL ts = ts.flatMap Am.Term.enc
  | [] => rfl
  | t :: r => by simp [encL, encL_flat r]
theorem okL_of : ∀ {ts : List Am.Term}, (∀ x ∈ ts, x.ok) → okL ts
  | [], _ => trivial
  | t :: r, h => ⟨h t (by simp), okL_of fun x hx => h x (by simp [hx])⟩
theorem reads_term : ∀ n, Reads Try.prog 32 n Am.Term.enc Am.Term.ok
  | 0 => .zero
  | n + 1 => by
    have hs : Reads Try.prog 30 n (fun xs : List Am.Term => [D.sl (xs.flatMap Am.Term.enc) xs.length false none]) (fun xs => xs.length ≤ maxLen ∧ ∀ x ∈ xs, x.ok) := by
      cases n with
      | zero => exact .zero
      | succ m => exact .slice Try.underlying30 (by rw [show Try.prog.cellsOf 32 = 3 from by kernel_rfl]; decide) ((reads_term (m + 1)).le (by omega))
    exact (Reads.struct3 (s0 := 1) (s1 := 1) (s2 := 1) Try.underlying32 (by kernel_rfl) ⟨by kernel_rfl, rfl⟩ ⟨by kernel_rfl, rfl⟩ ⟨by kernel_rfl, rfl⟩ (Reads.int Try.underlying3) (Reads.str Try.underlying9) hs).map (fun x => .mk x.1 x.2.1 x.2.2)
      (fun x => by simp [Am.Term.enc, encL_flat]) (fun x hx => ⟨by have := hx.2.2.1; simp [maxLen] at this; omega, okL_of hx.2.2.2⟩)
theorem reads_binds (n : Nat) : Reads Try.prog 55 n (fun bs : List Bd => [D.sl (encB bs) bs.length false none]) okB := by
  cases n with
  | zero => exact .zero
  | succ m =>
    have hb : Reads Try.prog 61 m Bd.enc (fun b => b.t.ok) := by
      cases m with
      | zero => exact .zero
      | succ k =>
        exact (Reads.struct2 (s0 := 1) (s1 := 3) Try.underlying61 (by kernel_rfl) ⟨by kernel_rfl, rfl⟩ ⟨by kernel_rfl, rfl⟩ (Reads.int Try.underlying3) (reads_term k)).map (fun x => ⟨x.1, x.2⟩) (fun x => rfl) (fun x hx => hx.2)
    exact (Reads.slice Try.underlying55 (by rw [show Try.prog.cellsOf 61 = 4 from by kernel_rfl]; decide) hb).map (fun xs => xs) (fun xs => rfl) (fun xs hx => ⟨by have := hx.1; simp [maxLen] at this; omega, hx.2⟩)

/-- A slice argument is what was read. -/
theorem arg_slice {P : Program} {w : World} {a : Option Addr} {l c : Nat} {x : D} (h : CD w [x] (Value.slice a l c).cells.toList) : RepD (· < w.heap.size) w x (.slice a l c) := by
  have := h.rep 0 x rfl
  simpa [Value.cells] using this

set_option maxRecDepth 100000 in
theorem lifted (os : Os) (started : os.Started) (H : Type) (enc : TypeId × Value → H) :
    ReturnsInHanded {} Try.checked os 10 .any (Rows.substSameSpec.pre6 enc Try.prog Try.f10 Rows.substSameRow.domain false) (Rows.substSameSpec.post enc Try.prog Try.f10 false true false false) := by
  refine returnsInHanded_of_change (C := Try.checked) own started (by kernel_rfl) Try.func10
    (ChangeSpec.witness6 (enc := enc) (C := Try.checked) false ⟨#[], #[.slice none 0 0, .slice none 0 0], []⟩ 8 (by kernel_rfl) (by kernel_rfl) (by kernel_rfl) (by kernel_rfl)) ?_
  intro W base args ds gs before hval0 hW hcnd _
  have hval : ∀ (j : Nat) t v, Try.f10.params[j]? = some t → args[j]? = some v → Value.okWide Try.prog W .any base t v := hval0
  have hW' := hW
  obtain ⟨p, q, hA0, hV, rfl, hfz, hnd⟩ := hW
  have hA : DataW.TrodAll enc Try.prog W 0 (fun _ => true) true Try.f10.params.toList args.toList ds p := hA0
  rw [Try.params10] at hA hval
  obtain ⟨v0, vs0, d0, ds0, p0, q0, hargs, rfl, rfl, h0, r0⟩ := trodAll_cons hA
  obtain ⟨v1, vs1, d1, ds1, p1, q1, rfl, rfl, rfl, h1, r1⟩ := trodAll_cons r0
  obtain ⟨rfl, rfl, rfl⟩ := trodAll_nil r1
  obtain rfl : args = #[v0, v1] := by cases args; simp_all
  obtain ⟨rfl, rfl⟩ := trodVars_none hV
  obtain ⟨a0, len0, cap0, rfl⟩ := okWide_slice Try.underlying55 (hval 0 55 v0 rfl rfl)
  obtain ⟨a1, len1, cap1, rfl⟩ := okWide_slice Try.underlying55 (hval 1 55 v1 rfl rfl)
  have k0 := h0
  have k1 := h1
  have lt0 : ∀ x ∈ p0, x.block < W.heap.size := by obtain ⟨m, hm⟩ := k0; exact DataW.trod_lt m _ _ _ hm
  have lt1 : ∀ x ∈ p1, x.block < W.heap.size := by obtain ⟨m, hm⟩ := k1; exact DataW.trod_lt m _ _ _ hm
  obtain ⟨n0, hn0⟩ := h0
  obtain ⟨n1, hn1⟩ := h1
  obtain ⟨bs, hbs, okbs⟩ := reads_binds n0 _ _ _ _ _ _ n0 (Nat.le_refl _) _ _ hn0
  obtain ⟨us, hus, okus⟩ := reads_binds n1 _ _ _ _ _ _ n1 (Nat.le_refl _) _ _ hn1
  have rb := arg_slice (P := Try.prog) hbs
  have ru := arg_slice (P := Try.prog) hus
  clear hA0 hval0
  have hcall := pcl_calls (pol := pol34) orders (substSame_ok bs us okbs okus) (args := #[.slice a0 len0 cap0, .slice a1 len1 cap1]) (w := W) ⟨rfl, fun j d hj => by
    match j, hj with
    | 0, hj => cases hj; exact rb
    | 1, hj => cases hj; exact ru
    | j + 2, hj => simp at hj⟩
  refine hcall.mono ?_
  rintro e W' ⟨v, rfl, bel, hv⟩
  cases hv
  exact ⟨_, rfl, _, _, _, [], _, [], hW', trodAll_mk1 (shut_bool Try.underlying4 _), (trodAll_cons_mk (Below.trod laidOut (by kernel_rfl) (of_decide_eq_true (by kernel_rfl)) k0 bel lt0) (trodAll_cons_mk (Below.trod laidOut (by kernel_rfl) (of_decide_eq_true (by kernel_rfl)) k1 bel lt1) trodAll_mk0)), rfl, bel.frame _, fun h => by cases h⟩

theorem over : Rows.substSameRow.holds Try.pinned (OpenSpec.ofChange Rows.substSameSpec) :=
  OpenClaim.holds_of_wide 10 Try.f10 rfl rfl rfl rfl rfl rfl rfl ⟨rfl, rfl, rfl, rfl, rfl⟩ rfl rfl rfl rfl rfl (by kernel_rfl) Try.func10 (by kernel_rfl)
    (of_decide_eq_true (by kernel_rfl)) (by unfold Func.isWrapper; first | (rw [if_pos (by decide +kernel)]; kernel_rfl) | (rw [if_neg (by decide +kernel)]; exact ⟨rfl, rfl⟩))
    (fun os started H enc _ => lifted os started H enc)

/-- The statement. -/
theorem proved : Rows.SubstSameSaid := over
#print axioms proved
end Go.Proofs.Ytiafeijkifpfaaa.substSame

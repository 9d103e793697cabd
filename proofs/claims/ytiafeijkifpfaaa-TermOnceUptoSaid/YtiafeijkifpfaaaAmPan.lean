/-
  Joined texts: AmX2, AmPol, AmX3. No condition.
-/
import Derived.Test.YtiafeijkifpfaaaAmPam
import Derived.Test.YtiafeijkifpfaaaProg
import Derived.WalkKit
import Derived.ProofKit
/-
 A call that is known by another policy is a call of the machine. No condition.
-/
namespace Go.Proofs.Ytiafeijkifpfaaa.Am
open Go Go.Proofs
set_option linter.unusedSimpArgs false
set_option linter.unusedVariables false
theorem row_orders : Try.prog.follows .mixedOrders = true := by kernel_rfl
theorem mapD_all (H : Hp) (n : Nat) : ∀ (l : List D), mapD (reify H n) (l.map .d) = some (l, [])
 | [] => rfl
 | x :: r => by
  have h := mapD_all H n r
  rw [List.map_cons, mapD, h]
  cases n <;> simp [reify]
theorem sim_of_pcl {pol : Pol} (hp : PolOk Try.prog pol) {f : FuncId} {ds : List D} {x : D} (hne : f ≠ yieldF) (hraw : pol.raw f = false) (hweak : pol.weak f = false) (h : pcl (acall Try.prog pol) f ds = some x) {C : Cx} {args : Array Value} (hI : Inv C) {nx : Nat} (hlt : ∀ o, C.U o → o.1 < nx)
  (hv : args.size = ds.length ∧ ∀ j d, ds[j]? = some d → RepD C.F C.w d (args.getD j undef)) :
  Enters Try.prog f ∧ Calls Try.prog f args C.w fun e w' => ∃ v C', e = .returned v ∧ w' = C'.w ∧ CallPost C nx (.d x) C.H nx v C' := by
 refine callA_sim (pol := pol) (acall_sim row_orders hp) hne (vs := ds.map .d) ?_ hI hlt ⟨by simp [hv.1], fun j y hy => ?_⟩
 ·unfold callA reifyAll
  rw [mapD_all, hraw, hweak]
  simp [h, kill_nil']
 ·simp only [List.getElem?_map, Option.map_eq_some_iff] at hy
  obtain ⟨d, hd, rfl⟩ := hy
  exact .d _ _ (hv.2 j d hd)
end Go.Proofs.Ytiafeijkifpfaaa.Am

/-
 Which functions of this seat run on the caller's objects; of which data less is known; what is known from elsewhere: the chapter's examples. No condition.
-/
namespace Go.Proofs.Ytiafeijkifpfaaa.Am
open Go Go.Proofs
def aliveX : CallF' := fun vs H nx => match vs with
 | [] => some (.d (.bool true), H, nx)
 | _ => none
def rawF (f : FuncId) : Bool := f == 12 || f == 13 || f == 16 || f == 18 || f == 20 || f == 23 || f == 48 || f == 49 || f == 54 || f == 17 || f == 19 || f == 21
def plc : Pol := { raw := rawF, ext := fun f => if f == 14 then some aliveX else none, weak := fun f => f == 22 || f == 24 }
theorem plc_raw (f : FuncId) : plc.raw f = (f == 12 || f == 13 || f == 16 || f == 18 || f == 20 || f == 23 || f == 48 || f == 49 || f == 54 || f == 17 || f == 19 || f == 21) := rfl
@[simp] theorem plc_weak (f : FuncId) : plc.weak f = (f == 22 || f == 24) := rfl
@[simp] theorem plc_deep (f : FuncId) : plc.deep f = 6 := rfl
theorem plc_ext (f : FuncId) : plc.ext f = if f == 14 then some aliveX else none := rfl
noncomputable abbrev Cp := acall Try.prog plc
@[simp] theorem wkL_encL : ∀ (ts : List Term), wkL (encL ts) = encL ts
 | [] => rfl
 | .mk v fn args :: r => by simp [encL, Term.enc, wkL_encL args, wkL_encL r]
theorem mapD_encT (H : Hp) (n : Nat) : ∀ (l : List D), mapD (reify H n) (l.map .d) = some (l, [])
 | [] => rfl
 | x :: r => by
  have h := mapD_encT H n r
  rw [List.map_cons, mapD, h]
  cases n <;> simp [reify]
end Go.Proofs.Ytiafeijkifpfaaa.Am

/-
 The chapter's examples hold: the machine runs them. No condition.
-/
namespace Go.Proofs.Ytiafeijkifpfaaa.Am
open Go Go.Proofs
set_option maxHeartbeats 4000000
set_option linter.unusedSimpArgs false
set_option linter.unusedVariables false
def pol0 : Pol := { raw := fun f => f == 12 || f == 16 || f == 48 || f == 20 || f == 54 || f == 23 || f == 93 || f == 92 || f == 100 }
theorem pol0_ok : PolOk Try.prog pol0 := ⟨fun f g h => (by cases h), fun c g h => (by cases h)⟩
theorem alive_pol0 : pcl (acall Try.prog pol0) 14 [] = some (.bool true) :=
 pcl_mono (fun f vs H nx r h => (acall_some Try.prog pol0).2 ⟨60, h⟩) (show pcl (oracles Try.prog pol0 60).1 14 [] = some (.bool true) by kernel_rfl)
theorem aliveX_sim : SimF Try.prog 14 aliveX := by
 intro vs H nx r H' nx' h
 match vs, h with
 | [], h =>
  simp [aliveX] at h
  obtain ⟨rfl, rfl, rfl⟩ := h
  refine ⟨⟨Try.f14, Try.func14, by kernel_rfl, by kernel_rfl⟩, fun C args hI hH hlt hv => ?_⟩
  have := sim_of_pcl pol0_ok (by decide) (by rfl) (by rfl) alive_pol0 hI hlt (args := args) ⟨by simpa using hv.1, fun j d hd => by simp at hd⟩
  refine this.2.mono ?_
  rintro e w' ⟨v', C', rfl, rfl, hp⟩
  exact ⟨v', C', rfl, rfl, ⟨hp.H.trans hH, hp.inv, hp.ext, hp.rep, hp.le, hp.lt, hp.use⟩⟩
theorem row_pol : PolOk Try.prog plc := by
 refine ⟨fun f g h => ?_, fun c g h => (by cases h)⟩
 by_cases h2 : f = 14
 ·subst h2
  have : g = aliveX := (Option.some.inj h).symm
  subst this
  exact aliveX_sim
 ·have : plc.ext f = none := by rw [plc_ext]; simp [h2]
  rw [this] at h; cases h
end Go.Proofs.Ytiafeijkifpfaaa.Am


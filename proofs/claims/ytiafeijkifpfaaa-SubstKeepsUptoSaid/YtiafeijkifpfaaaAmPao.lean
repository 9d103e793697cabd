/-
  Joined texts: AmX1. No condition.
-/
import Derived.Test.YtiafeijkifpfaaaAmPan
import Derived.WalkKit
import Derived.ProofKit
/-
 What is known from elsewhere is so: a term's copy, the chapter's examples, the library's sort. No condition.
-/
namespace Go.Proofs.Ytiafeijkifpfaaa.Am
open Go Go.Proofs
set_option maxHeartbeats 4000000
set_option linter.unusedSimpArgs false
set_option linter.unusedVariables false
theorem row_orders : Try.prog.follows .mixedOrders = true := by kernel_rfl
theorem pol0_ok : PolOk Try.prog pol0 := ⟨fun f g h => (by cases h), fun c g h => (by cases h)⟩
theorem fill_term {F : Nat → Prop} {w : World} (t : Term) : ∀ f : Nat → Value, (∀ j x, t.enc[j]? = some x → RepD F w x (f j)) → ∃ c, Fill t c ∧ ∀ j x, c[j]? = some x → RepD F w x (f j) := by
 refine Term.ind (p := fun t => ∀ f : Nat → Value, (∀ j x, t.enc[j]? = some x → RepD F w x (f j)) → ∃ c, Fill t c ∧ ∀ j x, c[j]? = some x → RepD F w x (f j)) (fun v fn args ih f h => ?_) t
 have hl : ∀ (a : List Term), (∀ x ∈ a, ∀ f : Nat → Value, (∀ j y, x.enc[j]? = some y → RepD F w y (f j)) → ∃ c, Fill x c ∧ ∀ j y, c[j]? = some y → RepD F w y (f j)) →
   ∀ f : Nat → Value, (∀ j x, (encL a)[j]? = some x → RepD F w x (f j)) → ∃ cs, FillL a cs ∧ ∀ j x, cs[j]? = some x → RepD F w x (f j) := by
  intro a
  induction a with
  | nil => intro _ f _; exact ⟨[], .nil, fun j x hx => by simp at hx⟩
  | cons u r ih2 =>
   intro hh f hf
   have hlen := u.enc_len
   obtain ⟨c, hc, hc2⟩ := hh u (by simp) f (fun j y hy => hf j y (by
    simp only [encL]
    rw [List.getElem?_append_left (List.getElem?_eq_some_iff.1 hy).1]
    exact hy))
   obtain ⟨cs, hcs, hcs2⟩ := ih2 (fun z hz => hh z (by simp [hz])) (fun j => f (3 + j)) (fun j y hy => hf (3 + j) y (by
    simp only [encL]
    rw [List.getElem?_append_right (by omega), hlen, Nat.add_sub_cancel_left]
    exact hy))
   have hcl := hc.len
   refine ⟨c ++ cs, .cons _ _ _ _ hc hcs, fun j x hx => ?_⟩
   by_cases hj : j < 3
   ·rw [List.getElem?_append_left (by omega)] at hx
    exact hc2 j x hx
   ·rw [List.getElem?_append_right (by omega), hcl] at hx
    have := hcs2 (j - 3) x hx
    rwa [show 3 + (j - 3) = j by omega] at this
 have h0 := h 0 (.int .i64 v) rfl
 have h1 := h 1 (.str fn) rfl
 have h2 := h 2 (.sl (encL args) args.length false none) rfl
 obtain ⟨c, hc, hc2⟩ : ∃ c : D, (∃ cs b, c = .sl cs args.length false (some b) ∧ FillL args cs ∧ (args ≠ [] → b = false)) ∧ RepD F w c (f 2) := by
  generalize f 2 = f2 at h2
  cases h2 with
  | sl _ _ cap _ _ a vs hlc hfu h1' hr hcc hnl =>
   obtain ⟨cs, hcs, hcs2⟩ := hl args ih vs hr
   have hlen := hcs.len
   have hel := encL_len args
   refine ⟨.sl cs args.length false (some a.isNone), ⟨cs, _, rfl, hcs, fun hne => ?_⟩, ?_⟩
   ·obtain ⟨ad, had, _⟩ := hcc (fun e => hne (by
     have : (encL args).length = 0 := by rw [e]; rfl
     exact List.length_eq_zero_iff.1 (by omega)))
    rw [had]; rfl
   ·refine .sl cs args.length cap false (some a.isNone) a vs hlc (fun h => by cases h) (fun j hj => h1' j (by omega)) hcs2 (fun hne => ?_) (fun b hb => by cases hb; rfl)
    obtain ⟨ad, had, hF, hcell⟩ := hcc (fun e => hne (by
     have : (encL args).length = 0 := by rw [e]; rfl
     exact List.length_eq_zero_iff.1 (by omega)))
    exact ⟨ad, had, hF, fun j hj => hcell j (by omega)⟩
 obtain ⟨cs, b, rfl, hcs, hb⟩ := hc
 refine ⟨[.int .i64 v, .str fn, .sl cs args.length false (some b)], .mk _ _ _ _ _ hcs hb, fun j x hx => ?_⟩
 match j, hx with
 | 0, hx => cases hx; exact h0
 | 1, hx => cases hx; exact h1
 | 2, hx => cases hx; exact hc2
 | j + 3, hx => simp at hx
theorem sim_of_pcl {pol : Pol} (hp : PolOk Try.prog pol) {f : FuncId} {ds : List D} {x : D} (hne : f ≠ yieldF) (hraw : pol.raw f = false) (hweak : pol.weak f = false) (h : pcl (acall Try.prog pol) f ds = some x) {C : Cx} {args : Array Value} (hI : Inv C) {nx : Nat} (hlt : ∀ o, C.U o → o.1 < nx)
  (hv : args.size = ds.length ∧ ∀ j d, ds[j]? = some d → RepD C.F C.w d (args.getD j undef)) :
  Enters Try.prog f ∧ Calls Try.prog f args C.w fun e w' => ∃ v C', e = .returned v ∧ w' = C'.w ∧ CallPost C nx (.d x) C.H nx v C' := by
 refine callA_sim (pol := pol) (acall_sim row_orders hp) hne (vs := ds.map .d) ?_ hI hlt ⟨by simp [hv.1], fun j y hy => ?_⟩
 ·unfold callA reifyAll
  rw [mapD_encT, hraw, hweak]
  simp [h, kill_nil']
 ·simp only [List.getElem?_map, Option.map_eq_some_iff] at hy
  obtain ⟨d, hd, rfl⟩ := hy
  exact .d _ _ (hv.2 j d hd)
theorem copyX_sim : SimF Try.prog 66 copyX := by
 intro vs H nx r H' nx' h
 unfold copyX at h
 split at h
 ·rename_i ht
  obtain ⟨t, hz, rfl⟩ := ht
  simp at h
  obtain ⟨rfl, rfl, rfl⟩ := h
  refine ⟨⟨Try.f66, Try.func66, by kernel_rfl, by kernel_rfl⟩, fun C args hI hH hlt hv => ?_⟩
  obtain ⟨ha, hr⟩ := hv
  have h0 := hr 0 _ rfl
  generalize hg : args.getD 0 undef = v0 at h0
  cases h0 with
  | d _ _ h0 =>
  cases h0 with
  | agg _ arr hn h1 hr0 =>
   obtain ⟨c, hc, hc2⟩ := fill_term t (fun j => arr.getD j undef) hr0
   obtain ⟨v, fn, az, zs, nl, rfl, hpcl, hzs⟩ := copy0 t c hc hz
   have hcl := hc.len
   have hel := Term.enc_len (.mk v fn az)
   have := sim_of_pcl pol0_ok (by decide) (by rfl) (by rfl) hpcl hI hlt (args := args) ⟨by simpa using ha, fun j d hd => by
    match j, hd with
    | 0, hd =>
     cases hd
     rw [hg]
     exact .agg c arr (by omega) h1 hc2
    | j + 1, hd => simp at hd⟩
   refine this.2.mono ?_
   rintro e w' ⟨v', C', rfl, rfl, hp⟩
   refine ⟨v', C', rfl, rfl, ⟨hp.H.trans hH, hp.inv, hp.ext, ?_, hp.le, hp.lt, hp.use⟩⟩
   have hrep := hp.rep
   cases hrep with
   | d _ _ hd =>
    have := hd.wk
    simp [hzs] at this
    exact .d _ _ (by simpa [Term.enc] using this)
 ·cases h
theorem alive_pol0 : pcl (acall Try.prog pol0) 29 [] = some (.bool true) :=
 pcl_mono (fun f vs H nx r h => (acall_some Try.prog pol0).2 ⟨60, h⟩) (show pcl (oracles Try.prog pol0 60).1 29 [] = some (.bool true) by kernel_rfl)
theorem aliveX_sim : SimF Try.prog 29 aliveX := by
 intro vs H nx r H' nx' h
 match vs, h with
 | [], h =>
  simp [aliveX] at h
  obtain ⟨rfl, rfl, rfl⟩ := h
  refine ⟨⟨Try.f29, Try.func29, by kernel_rfl, by kernel_rfl⟩, fun C args hI hH hlt hv => ?_⟩
  have := sim_of_pcl pol0_ok (by decide) (by rfl) (by rfl) alive_pol0 hI hlt (args := args) ⟨by simpa using hv.1, fun j d hd => by simp at hd⟩
  refine this.2.mono ?_
  rintro e w' ⟨v', C', rfl, rfl, hp⟩
  exact ⟨v', C', rfl, rfl, ⟨hp.H.trans hH, hp.inv, hp.ext, hp.rep, hp.le, hp.lt, hp.use⟩⟩
theorem row_pol : PolOk Try.prog plc := by
 refine ⟨fun f g h => ?_, fun c g h => (by cases h)⟩
 by_cases h1 : f = 66
 ·subst h1
  have : g = copyX := (Option.some.inj h).symm
  subst this
  exact copyX_sim
 ·by_cases h2 : f = 29
  ·subst h2
   have : g = aliveX := (Option.some.inj h).symm
   subst this
   exact aliveX_sim
  ·by_cases h3 : f = 90
   ·subst h3
    have : g = sortX := (Option.some.inj h).symm
    subst this
    exact sortX_sim
   ·have : plc.ext f = none := by rw [plc_ext]; simp [h1, h2, h3]
    rw [this] at h; cases h
end Go.Proofs.Ytiafeijkifpfaaa.Am


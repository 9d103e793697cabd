/-
  The abstract machine: calls and loops as fixed points (a call's answer at some number of rounds). No condition.
-/
import Derived.Test.YtiafeijkifpfaaaAm1
namespace Go.Proofs.Ytiafeijkifpfaaa.Am
open Go

def LeC (c c' : CallF) : Prop := ∀ f vs H nx r, c f vs H nx = some r → c' f vs H nx = some r
def LeL (l l' : LoopF) : Prop := ∀ c m st r, l c m st = some r → l' c m st = some r
theorem LeC.refl (c : CallF) : LeC c c := fun _ _ _ _ _ h => h
theorem LeL.refl (c : LoopF) : LeL c c := fun _ _ _ _ h => h
theorem LeC.trans {a b c : CallF} (h : LeC a b) (k : LeC b c) : LeC a c := fun _ _ _ _ _ e => k _ _ _ _ _ (h _ _ _ _ _ e)
theorem LeL.trans {a b c : LoopF} (h : LeL a b) (k : LeL b c) : LeL a c := fun _ _ _ _ e => k _ _ _ _ (h _ _ _ _ e)

section
variable {P : Program} {pol : Pol} {cl cl' : CallF} {lp lp' : LoopF}

theorem pcl_mono (hc : LeC cl cl') {f ds r} (h : pcl cl f ds = some r) : pcl cl' f ds = some r := by
  unfold pcl at h ⊢
  cases hq : cl f (ds.map .d) (fun _ => none) 0 with
  | none => rw [hq] at h; cases h
  | some q => rw [hq] at h; rw [hc _ _ _ _ _ hq]; exact h
theorem callA_mono (hc : LeC cl cl') {H nx f vs r} (h : callA pol cl H nx f vs = some r) : callA pol cl' H nx f vs = some r := by
  unfold callA at h ⊢
  split at h
  · rename_i ds is _
    cases hq : pcl cl f (wkIf (pol.weak f) ds) with
    | none => rw [hq] at h; cases h
    | some q => rw [hq] at h; rw [pcl_mono hc hq]; exact h
  · exact hc _ _ _ _ _ h

theorem stepOp_mono (hc : LeC cl cl') {id o st r} (h : stepOp P pol cl id o st = some r) : stepOp P pol cl' id o st = some r := by
  unfold stepOp at h ⊢
  split at h
  · rename_i f as _
    cases hg : isFnD (ev st.tm f) with
    | none => rw [hg] at h; cases h
    | some g =>
      rw [hg] at h
      obtain ⟨g, cap⟩ := g
      simp only [Option.bind_eq_bind, Option.bind_some] at h ⊢
      cases hq : callA pol cl st.hp st.nx g (as.map (ev st.tm) ++ cap) with
      | none => rw [hq] at h; cases h
      | some q => rw [hq] at h; rw [callA_mono hc hq]; exact h
  · exact h

theorem guarded_mono {o : AOp} {st : St} {k k' : Option St} {r : St} (hk : ∀ r, k = some r → k' = some r) (h : guarded o st k = some r) : guarded o st k' = some r := by
  unfold guarded at h ⊢
  split at h
  · exact hk _ h
  · split at h
    · split at h
      · rename_i hb; rw [if_pos hb]; exact hk _ h
      · rename_i hb; rw [if_neg hb]; exact h
    · exact h
    · cases h
theorem stepG_mono (hc : LeC cl cl') {id o st r} (h : stepG P pol cl id o st = some r) : stepG P pol cl' id o st = some r := guarded_mono (fun _ h => stepOp_mono hc h) h
theorem callS_mono (hc : LeC cl cl') {H f vs r} (h : callS pol cl H f vs = some r) : callS pol cl' H f vs = some r := by
  unfold callS at h ⊢
  split at h
  · rename_i ds is _
    cases hq : pcl cl f (wkIf (pol.weak f) ds) with
    | none => rw [hq] at h; cases h
    | some q => rw [hq] at h; rw [pcl_mono hc hq]; exact h
  · cases h
theorem stepOpS_mono (hc : LeC cl cl') {id o st r} (h : stepOpS P pol cl id o st = some r) : stepOpS P pol cl' id o st = some r := by
  unfold stepOpS at h ⊢
  split at h
  · rename_i hs; rw [if_pos hs]; exact stepOp_mono hc h
  rename_i hs; rw [if_neg hs]
  split at h
  · rename_i f as _
    cases hg : isFnD (ev st.tm f) with
    | none => rw [hg] at h; cases h
    | some g =>
      rw [hg] at h
      obtain ⟨g, cap⟩ := g
      simp only [Option.bind_eq_bind, Option.bind_some] at h ⊢
      cases hq : callS pol cl st.hp g (as.map (ev st.tm) ++ cap) with
      | none => rw [hq] at h; cases h
      | some q => rw [hq] at h; rw [callS_mono hc hq]; exact h
  · exact h
theorem runOpsS_mono (hc : LeC cl cl') (l : List AOp) : ∀ {id st r}, runOpsS P pol cl id l st = some r → runOpsS P pol cl' id l st = some r := by
  induction l with
  | nil => intro id st r h; exact h
  | cons o l ih =>
    intro id st r h
    simp only [runOpsS] at h ⊢
    cases hq : stepGS P pol cl id o st with
    | none => rw [hq] at h; cases h
    | some q => rw [hq] at h; rw [show stepGS P pol cl' id o st = some q from guarded_mono (fun _ h => stepOpS_mono hc h) hq]; exact ih h

theorem runOpsL_mono (hc : LeC cl cl') (l : List AOp) : ∀ {id st lg r}, runOpsL P pol cl id l st lg = some r → runOpsL P pol cl' id l st lg = some r := by
  induction l with
  | nil => intro id st lg r h; exact h
  | cons o l ih =>
    intro id st lg r h
    simp only [runOpsL, Option.bind_eq_some_iff] at h ⊢
    obtain ⟨st1, h1, h2⟩ := h
    refine ⟨st1, guarded_mono (fun _ h => stepOpS_mono hc h) h1, ih h2⟩
theorem runOps_mono (hc : LeC cl cl') (l : List AOp) : ∀ {id st r}, runOps P pol cl id l st = some r → runOps P pol cl' id l st = some r := by
  induction l with
  | nil => intro id st r h; exact h
  | cons o l ih =>
    intro id st r h
    simp only [runOps] at h ⊢
    cases hq : stepG P pol cl id o st with
    | none => rw [hq] at h; cases h
    | some q => rw [hq] at h; rw [stepG_mono hc hq]; exact ih h

theorem exec_mono (hc : LeC cl cl') (hl : LeL lp lp') (c : ACode) : ∀ {st r}, exec P pol cl lp c st = some r → exec P pol cl' lp' c st = some r := by
  induction c with
  | region ops =>
    intro st r h
    simp only [exec, runRegion] at h ⊢
    cases hq : runOps P pol cl st.nx ops ⟨st.tm, st.hp, st.nx + ops.length⟩ with
    | none => rw [hq] at h; cases h
    | some q => rw [hq] at h; rw [runOps_mono hc _ hq]; exact h
  | dregion ops =>
    intro st r h
    simp only [exec] at h ⊢
    cases hq : runOpsS P pol cl st.nx ops ⟨st.tm, st.hp, st.nx + ops.length⟩ with
    | none => rw [hq] at h; cases h
    | some q => rw [hq] at h; rw [runOpsS_mono hc _ hq]; exact h
  | tregion ops prs =>
    intro st r h
    simp only [exec] at h ⊢
    cases hq : runOpsL P pol cl st.nx ops ⟨st.tm, st.hp, st.nx + ops.length⟩ [] with
    | none => rw [hq] at h; cases h
    | some q => rw [hq] at h; rw [runOpsL_mono hc _ hq]; exact h
  | seq a b iha ihb =>
    intro st r h
    simp only [exec] at h ⊢
    cases hq : exec P pol cl lp a st with
    | none => rw [hq] at h; cases h
    | some q =>
      rw [hq] at h; rw [iha hq]
      obtain ⟨e, st'⟩ := q
      cases e with
      | normal => exact ihb h
      | exit j => exact h
      | ret => exact h
  | cond x a b iha ihb =>
    intro st r h
    simp only [exec] at h ⊢
    split at h
    · split at h
      · rename_i hb; rw [if_pos hb]; exact iha h
      · rename_i hb; rw [if_neg hb]; exact ihb h
    · cases h
  | block id c ih =>
    intro st r h
    simp only [exec] at h ⊢
    cases hq : exec P pol cl lp c st with
    | none => rw [hq] at h; cases h
    | some q => rw [hq] at h; rw [ih hq]; exact h
  | loop ks keep c ih => intro st r h; exact hl _ _ _ _ h
  | skip => intro st r h; exact h
  | exit id => intro st r h; exact h
  | ret => intro st r h; exact h
  | hole c => intro st r h; exact h

theorem callF_mono (hc : LeC cl cl') (hl : LeL lp lp') : LeC (callF P pol cl lp) (callF P pol cl' lp') := by
  intro f vs H nx r h
  simp only [callF] at h ⊢
  cases h0 : pol.ext f with
  | some g => rw [h0] at h; exact h
  | none =>
  rw [h0] at h
  simp only at h ⊢
  cases h1 : bodyOf P f with
  | none => rw [h1] at h; cases h
  | some q =>
    obtain ⟨c, n, rs⟩ := q
    rw [h1] at h
    simp only [Option.bind_some] at h ⊢
    cases h3 : exec P pol cl lp c ⟨vs ++ List.replicate (n - vs.length) .junk, H, nx⟩ with
    | none => rw [h3] at h; cases h
    | some q => rw [h3] at h; rw [exec_mono hc hl _ h3]; exact h

theorem loopF_mono (hc : LeC cl cl') (hl : LeL lp lp') : LeL (loopF P pol cl lp) (loopF P pol cl' lp') := by
  intro c m st r h
  simp only [loopF] at h ⊢
  cases h3 : exec P pol cl lp c st with
  | none => rw [h3] at h; cases h
  | some q =>
    rw [h3] at h; rw [exec_mono hc hl _ h3]
    obtain ⟨e, st'⟩ := q
    cases e with
    | normal =>
      simp only [Option.bind_some] at h ⊢
      exact hl _ _ _ _ h
    | exit j => exact h
    | ret => exact h
end

section
variable (P : Program) (pol : Pol)

theorem oracles_step (n : Nat) : LeC (oracles P pol n).1 (oracles P pol (n + 1)).1 ∧ LeL (oracles P pol n).2 (oracles P pol (n + 1)).2 := by
  induction n with
  | zero =>
    refine ⟨?_, ?_⟩
    · intro f vs H nx r h; simp [oracles] at h
    · intro c m st r h; simp [oracles] at h
  | succ n ih => exact ⟨callF_mono ih.1 ih.2, loopF_mono ih.1 ih.2⟩
theorem oracles_le {n m : Nat} (h : n ≤ m) : LeC (oracles P pol n).1 (oracles P pol m).1 ∧ LeL (oracles P pol n).2 (oracles P pol m).2 := by
  induction h with
  | refl => exact ⟨.refl _, .refl _⟩
  | step _ ih => exact ⟨ih.1.trans (oracles_step P pol _).1, ih.2.trans (oracles_step P pol _).2⟩

open Classical in
/-- A call's answer. -/
noncomputable def acall : CallF := fun f vs H nx => if h : ∃ r n, (oracles P pol n).1 f vs H nx = some r then some h.choose else none
open Classical in
/-- A loop's end. -/
noncomputable def aloop : LoopF := fun c m st => if h : ∃ r n, (oracles P pol n).2 c m st = some r then some h.choose else none

theorem acall_some {f vs H nx r} : acall P pol f vs H nx = some r ↔ ∃ n, (oracles P pol n).1 f vs H nx = some r := by
  unfold acall
  constructor
  · intro h
    split at h
    · rename_i hx
      obtain rfl := Option.some.inj h
      exact hx.choose_spec
    · cases h
  · rintro ⟨n, hn⟩
    have hx : ∃ r n, (oracles P pol n).1 f vs H nx = some r := ⟨r, n, hn⟩
    rw [dif_pos hx]
    obtain ⟨m, hm⟩ := hx.choose_spec
    have a := (oracles_le P pol (Nat.le_max_left n m)).1 _ _ _ _ _ hn
    have b := (oracles_le P pol (Nat.le_max_right n m)).1 _ _ _ _ _ hm
    rw [a] at b
    exact b.symm
theorem aloop_some {c m st r} : aloop P pol c m st = some r ↔ ∃ n, (oracles P pol n).2 c m st = some r := by
  unfold aloop
  constructor
  · intro h
    split at h
    · rename_i hx
      obtain rfl := Option.some.inj h
      exact hx.choose_spec
    · cases h
  · rintro ⟨n, hn⟩
    have hx : ∃ r n, (oracles P pol n).2 c m st = some r := ⟨r, n, hn⟩
    rw [dif_pos hx]
    obtain ⟨k, hk⟩ := hx.choose_spec
    have a := (oracles_le P pol (Nat.le_max_left n k)).2 _ _ _ _ hn
    have b := (oracles_le P pol (Nat.le_max_right n k)).2 _ _ _ _ hk
    rw [a] at b
    exact b.symm

theorem pcl_cont {f ds r} (h : pcl (acall P pol) f ds = some r) : ∃ n, pcl (oracles P pol n).1 f ds = some r := by
  unfold pcl at h
  cases hq : acall P pol f (ds.map .d) (fun _ => none) 0 with
  | none => rw [hq] at h; cases h
  | some q =>
    obtain ⟨n, hn⟩ := (acall_some P pol).1 hq
    rw [hq] at h
    exact ⟨n, by unfold pcl; rw [hn]; exact h⟩
theorem callA_cont {H nx f vs r} (h : callA pol (acall P pol) H nx f vs = some r) : ∃ n, callA pol (oracles P pol n).1 H nx f vs = some r := by
  unfold callA at h
  split at h
  · rename_i ds is hd
    cases hq : pcl (acall P pol) f (wkIf (pol.weak f) ds) with
    | none => rw [hq] at h; cases h
    | some q =>
      obtain ⟨n, hn⟩ := pcl_cont P pol hq
      rw [hq] at h
      exact ⟨n, by unfold callA; rw [hd]; simp only [hn]; exact h⟩
  · rename_i hd
    obtain ⟨n, hn⟩ := (acall_some P pol).1 h
    exact ⟨n, by unfold callA; rw [hd]; exact hn⟩
theorem stepOp_cont {id o st r} (h : stepOp P pol (acall P pol) id o st = some r) : ∃ n, stepOp P pol (oracles P pol n).1 id o st = some r := by
  unfold stepOp at h
  split at h
  · rename_i f as hi
    cases hg : isFnD (ev st.tm f) with
    | none => rw [hg] at h; cases h
    | some g =>
      rw [hg] at h
      obtain ⟨g, cap⟩ := g
      simp only [Option.bind_eq_bind, Option.bind_some] at h
      cases hq : callA pol (acall P pol) st.hp st.nx g (as.map (ev st.tm) ++ cap) with
      | none => rw [hq] at h; cases h
      | some q =>
        obtain ⟨n, hn⟩ := callA_cont P pol hq
        refine ⟨n, ?_⟩
        unfold stepOp
        rw [hi]
        simp only [hg, Option.bind_eq_bind, Option.bind_some, hn]
        rw [hq] at h
        exact h
  · rename_i hi
    exact ⟨0, by unfold stepOp; rw [hi]; exact h⟩
theorem guarded_cont {o : AOp} {st : St} {k : Option St} {k' : Nat → Option St} {r : St} (hk : ∀ r, k = some r → ∃ n, k' n = some r) (h : guarded o st k = some r) : ∃ n, guarded o st (k' n) = some r := by
  unfold guarded at h ⊢
  split at h
  · exact hk _ h
  · split at h
    · split at h
      · rename_i hb; obtain ⟨n, hn⟩ := hk _ h; exact ⟨n, by rw [if_pos hb]; exact hn⟩
      · rename_i hb; exact ⟨0, by rw [if_neg hb]; exact h⟩
    · exact ⟨0, h⟩
    · cases h
theorem stepG_cont {id o st r} (h : stepG P pol (acall P pol) id o st = some r) : ∃ n, stepG P pol (oracles P pol n).1 id o st = some r := guarded_cont (fun _ h => stepOp_cont P pol h) h
theorem callS_cont {H f vs r} (h : callS pol (acall P pol) H f vs = some r) : ∃ n, callS pol (oracles P pol n).1 H f vs = some r := by
  unfold callS at h
  split at h
  · rename_i ds is hd
    cases hq : pcl (acall P pol) f (wkIf (pol.weak f) ds) with
    | none => rw [hq] at h; cases h
    | some q =>
      obtain ⟨n, hn⟩ := pcl_cont P pol hq
      rw [hq] at h
      exact ⟨n, by unfold callS; rw [hd]; simp only [hn]; exact h⟩
  · cases h
theorem stepOpS_cont {id o st r} (h : stepOpS P pol (acall P pol) id o st = some r) : ∃ n, stepOpS P pol (oracles P pol n).1 id o st = some r := by
  unfold stepOpS at h
  split at h
  · rename_i hs
    obtain ⟨n, hn⟩ := stepOp_cont P pol h
    exact ⟨n, by unfold stepOpS; rw [if_pos hs]; exact hn⟩
  rename_i hs
  split at h
  · rename_i f as hi
    cases hg : isFnD (ev st.tm f) with
    | none => rw [hg] at h; cases h
    | some g =>
      rw [hg] at h
      obtain ⟨g, cap⟩ := g
      simp only [Option.bind_eq_bind, Option.bind_some] at h
      cases hq : callS pol (acall P pol) st.hp g (as.map (ev st.tm) ++ cap) with
      | none => rw [hq] at h; cases h
      | some q =>
        obtain ⟨n, hn⟩ := callS_cont P pol hq
        refine ⟨n, ?_⟩
        unfold stepOpS
        rw [if_neg hs, hi]
        simp only [hg, Option.bind_eq_bind, Option.bind_some, hn]
        rw [hq] at h
        exact h
  · rename_i hi
    exact ⟨0, by unfold stepOpS; rw [if_neg hs, hi]; exact h⟩
theorem runOpsS_cont (l : List AOp) : ∀ {id st r}, runOpsS P pol (acall P pol) id l st = some r → ∃ n, runOpsS P pol (oracles P pol n).1 id l st = some r := by
  induction l with
  | nil => intro id st r h; exact ⟨0, h⟩
  | cons o l ih =>
    intro id st r h
    simp only [runOpsS] at h
    cases hq : stepGS P pol (acall P pol) id o st with
    | none => rw [hq] at h; cases h
    | some q =>
      rw [hq] at h
      obtain ⟨n, hn⟩ := guarded_cont (k' := fun n => stepOpS P pol (oracles P pol n).1 id o st) (fun _ h => stepOpS_cont P pol h) hq
      obtain ⟨m, hm⟩ := ih h
      refine ⟨max n m, ?_⟩
      simp only [runOpsS]
      rw [show stepGS P pol (oracles P pol (max n m)).1 id o st = some q from guarded_mono (fun _ h => stepOpS_mono (oracles_le P pol (Nat.le_max_left n m)).1 h) hn]
      exact runOpsS_mono (oracles_le P pol (Nat.le_max_right n m)).1 _ hm
theorem runOpsL_cont (l : List AOp) : ∀ {id st lg r}, runOpsL P pol (acall P pol) id l st lg = some r → ∃ n, runOpsL P pol (oracles P pol n).1 id l st lg = some r := by
  induction l with
  | nil => intro id st lg r h; exact ⟨0, h⟩
  | cons o l ih =>
    intro id st lg r h
    simp only [runOpsL, Option.bind_eq_some_iff] at h
    obtain ⟨st1, h1, h2⟩ := h
    obtain ⟨n, hn⟩ := guarded_cont (fun _ h => stepOpS_cont P pol h) h1
    obtain ⟨k, hk⟩ := ih h2
    refine ⟨max n k, ?_⟩
    simp only [runOpsL, Option.bind_eq_some_iff]
    exact ⟨st1, guarded_mono (fun _ h => stepOpS_mono (oracles_le P pol (Nat.le_max_left n k)).1 h) hn, runOpsL_mono (oracles_le P pol (Nat.le_max_right n k)).1 _ hk⟩
theorem runOps_cont (l : List AOp) : ∀ {id st r}, runOps P pol (acall P pol) id l st = some r → ∃ n, runOps P pol (oracles P pol n).1 id l st = some r := by
  induction l with
  | nil => intro id st r h; exact ⟨0, h⟩
  | cons o l ih =>
    intro id st r h
    simp only [runOps] at h
    cases hq : stepG P pol (acall P pol) id o st with
    | none => rw [hq] at h; cases h
    | some q =>
      rw [hq] at h
      obtain ⟨n, hn⟩ := stepG_cont P pol hq
      obtain ⟨m, hm⟩ := ih h
      refine ⟨max n m, ?_⟩
      simp only [runOps]
      rw [stepG_mono (oracles_le P pol (Nat.le_max_left n m)).1 hn]
      exact runOps_mono (oracles_le P pol (Nat.le_max_right n m)).1 _ hm
theorem exec_cont (c : ACode) : ∀ {st r}, exec P pol (acall P pol) (aloop P pol) c st = some r → ∃ n, exec P pol (oracles P pol n).1 (oracles P pol n).2 c st = some r := by
  induction c with
  | region ops =>
    intro st r h
    simp only [exec, runRegion] at h
    cases hq : runOps P pol (acall P pol) st.nx ops ⟨st.tm, st.hp, st.nx + ops.length⟩ with
    | none => rw [hq] at h; cases h
    | some q =>
      rw [hq] at h
      obtain ⟨n, hn⟩ := runOps_cont P pol _ hq
      exact ⟨n, by simp only [exec, runRegion, hn]; exact h⟩
  | dregion ops =>
    intro st r h
    simp only [exec] at h
    cases hq : runOpsS P pol (acall P pol) st.nx ops ⟨st.tm, st.hp, st.nx + ops.length⟩ with
    | none => rw [hq] at h; cases h
    | some q =>
      rw [hq] at h
      obtain ⟨n, hn⟩ := runOpsS_cont P pol _ hq
      exact ⟨n, by simp only [exec, hn]; exact h⟩
  | tregion ops prs =>
    intro st r h
    simp only [exec] at h
    cases hq : runOpsL P pol (acall P pol) st.nx ops ⟨st.tm, st.hp, st.nx + ops.length⟩ [] with
    | none => rw [hq] at h; cases h
    | some q =>
      rw [hq] at h
      obtain ⟨n, hn⟩ := runOpsL_cont P pol _ hq
      exact ⟨n, by simp only [exec, hn]; exact h⟩
  | seq a b iha ihb =>
    intro st r h
    simp only [exec] at h
    cases hq : exec P pol (acall P pol) (aloop P pol) a st with
    | none => rw [hq] at h; cases h
    | some q =>
      rw [hq] at h
      obtain ⟨n, hn⟩ := iha hq
      obtain ⟨e, st'⟩ := q
      cases e with
      | normal =>
        obtain ⟨m, hm⟩ := ihb h
        refine ⟨max n m, ?_⟩
        simp only [exec]
        rw [exec_mono (oracles_le P pol (Nat.le_max_left n m)).1 (oracles_le P pol (Nat.le_max_left n m)).2 _ hn]
        exact exec_mono (oracles_le P pol (Nat.le_max_right n m)).1 (oracles_le P pol (Nat.le_max_right n m)).2 _ hm
      | exit j => exact ⟨n, by simp only [exec, hn]; exact h⟩
      | ret => exact ⟨n, by simp only [exec, hn]; exact h⟩
  | cond x a b iha ihb =>
    intro st r h
    simp only [exec] at h
    split at h
    · rename_i t hx
      split at h
      · rename_i hb
        obtain ⟨n, hn⟩ := iha h
        exact ⟨n, by simp only [exec, hx, if_pos hb]; exact hn⟩
      · rename_i hb
        obtain ⟨n, hn⟩ := ihb h
        exact ⟨n, by simp only [exec, hx, if_neg hb]; exact hn⟩
    · cases h
  | block id c ih =>
    intro st r h
    simp only [exec] at h
    cases hq : exec P pol (acall P pol) (aloop P pol) c st with
    | none => rw [hq] at h; cases h
    | some q =>
      obtain ⟨n, hn⟩ := ih hq
      rw [hq] at h
      exact ⟨n, by simp only [exec, hn]; exact h⟩
  | loop ks keep c ih =>
    intro st r h
    exact (aloop_some P pol).1 h
  | skip => intro st r h; exact ⟨0, h⟩
  | exit id => intro st r h; exact ⟨0, h⟩
  | ret => intro st r h; exact ⟨0, h⟩
  | hole c => intro st r h; exact ⟨0, h⟩

/-- What the body gives, the call gives. -/
theorem acall_of {f vs H nx r} (h : callF P pol (acall P pol) (aloop P pol) f vs H nx = some r) : acall P pol f vs H nx = some r := by
  rw [acall_some]
  simp only [callF] at h
  cases h0 : pol.ext f with
  | some g => rw [h0] at h; exact ⟨1, by simp only [oracles, callF, h0]; exact h⟩
  | none =>
  rw [h0] at h
  simp only at h
  cases h1 : bodyOf P f with
  | none => rw [h1] at h; cases h
  | some q =>
    obtain ⟨c, n, rs⟩ := q
    rw [h1] at h
    simp only [Option.bind_some] at h
    cases h3 : exec P pol (acall P pol) (aloop P pol) c ⟨vs ++ List.replicate (n - vs.length) .junk, H, nx⟩ with
    | none => rw [h3] at h; cases h
    | some q =>
      obtain ⟨n, hn⟩ := exec_cont P pol _ h3
      refine ⟨n + 1, ?_⟩
      simp only [oracles, callF, h0, h1, Option.bind_some, hn]
      rw [h3] at h
      exact h
theorem aloop_of {c m st r} (h : loopF P pol (acall P pol) (aloop P pol) c m st = some r) : aloop P pol c m st = some r := by
  rw [aloop_some]
  simp only [loopF] at h
  cases h3 : exec P pol (acall P pol) (aloop P pol) c st with
  | none => rw [h3] at h; cases h
  | some q =>
    obtain ⟨n, hn⟩ := exec_cont P pol _ h3
    rw [h3] at h
    obtain ⟨e, st'⟩ := q
    cases e with
    | normal =>
      simp only [Option.bind_some] at h
      obtain ⟨k, hk⟩ := (aloop_some P pol).1 h
      refine ⟨max n k + 1, ?_⟩
      simp only [oracles, loopF]
      rw [exec_mono (oracles_le P pol (Nat.le_max_left n k)).1 (oracles_le P pol (Nat.le_max_left n k)).2 _ hn]
      simp only [Option.bind_some]
      exact (oracles_le P pol (Nat.le_max_right n k)).2 _ _ _ _ hk
    | exit j => exact ⟨n + 1, by simp only [oracles, loopF, hn]; exact h⟩
    | ret => exact ⟨n + 1, by simp only [oracles, loopF, hn]; exact h⟩
/-- A call on data, by its body. -/
theorem pcl_of {f ds r} (h : pcl (callF P pol (acall P pol) (aloop P pol)) f ds = some r) : pcl (acall P pol) f ds = some r := by
  unfold pcl at h ⊢
  cases hq : callF P pol (acall P pol) (aloop P pol) f (ds.map .d) (fun _ => none) 0 with
  | none => rw [hq] at h; cases h
  | some q => rw [hq] at h; rw [acall_of P pol hq]; exact h
end
end Go.Proofs.Ytiafeijkifpfaaa.Am

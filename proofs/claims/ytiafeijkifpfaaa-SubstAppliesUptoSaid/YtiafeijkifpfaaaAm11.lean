/-
  The abstract machine: slices' pieces, slices made, objects read as data. No condition.
-/
import Derived.Test.YtiafeijkifpfaaaAm10
namespace Go.Proofs.Ytiafeijkifpfaaa.Am
open Go
set_option linter.unusedVariables false

section
variable {P : Program} {C : Cx}

/-- A bound of a piece. -/
theorem bound_run {d y : Nat} {X : AV} {u : Value} {n : Nat} {code : BoundsCode} (h : bound d (some X) = some n) (hu : Rep C X u) (hy : n ≤ y) (w : World) : (Instr.sliceBound u y code).run P w = .ok n w := by
  unfold bound at h
  split at h
  · rename_i h1; cases h1
  · rename_i k h1
    cases h1
    split at h
    · rename_i hk
      cases h
      cases hu.dinv
      simp only [Instr.sliceBound, asIntOf, Sem.run_bind, Sem.run_pure, Result.andThen_ok, Sem.run_ite, if_pos (show 0 ≤ k ∧ k ≤ (y : Int) by omega)]
    · cases h
  · cases h

/-- Optional operands, side by side. -/
def RepO (C : Cx) : Option AV → Option Value → Prop
  | none, none => True
  | some X, some u => Rep C X u
  | _, _ => False

theorem bounds_run {isSlice : Bool} {len cap l h m d : Nat} {lo hi mx : Option AV} {ulo uhi umx : Option Value} (hlo : bound 0 lo = some l) (hhi : bound len hi = some h) (hmx : bound d mx = some m)
    (r1 : RepO C lo ulo) (r2 : RepO C hi uhi) (r3 : RepO C mx umx) (hm : mx.isSome = true → hi.isSome = true) (h1 : l ≤ h) (h2 : mx.isSome = true → h ≤ m ∧ m ≤ cap) (h3 : h ≤ cap) (w : World) :
    (Instr.sliceBounds isSlice len cap ulo uhi umx).run P w = .ok (l, h, if mx.isSome then m else cap) w := by
  unfold Instr.sliceBounds
  cases mx with
  | none =>
    cases umx with
    | some => exact r3.elim
    | none =>
      cases hi with
      | none =>
        cases uhi with
        | some => exact r2.elim
        | none =>
          simp only [bound, Option.some.injEq] at hhi
          subst hhi
          cases lo with
          | none =>
            cases ulo with
            | some => exact r1.elim
            | none => simp only [bound, Option.some.injEq] at hlo; subst hlo; simp
          | some X =>
            cases ulo with
            | none => exact r1.elim
            | some u => simp [bound_run (P := P) hlo r1 h1]
      | some Y =>
        cases uhi with
        | none => exact r2.elim
        | some v =>
          cases lo with
          | none =>
            cases ulo with
            | some => exact r1.elim
            | none => simp only [bound, Option.some.injEq] at hlo; subst hlo; simp [bound_run (P := P) hhi r2 h3]
          | some X =>
            cases ulo with
            | none => exact r1.elim
            | some u => simp [bound_run (P := P) hlo r1 h1, bound_run (P := P) hhi r2 h3]
  | some M =>
    obtain ⟨q1, q2⟩ := h2 rfl
    cases umx with
    | none => exact r3.elim
    | some um =>
      cases hi with
      | none => cases hm rfl
      | some Y =>
        cases uhi with
        | none => exact r2.elim
        | some v =>
          cases lo with
          | none =>
            cases ulo with
            | some => exact r1.elim
            | none => simp only [bound, Option.some.injEq] at hlo; subst hlo; simp [bound_run (P := P) hhi r2 q1, bound_run (P := P) hmx r3 q2]
          | some X =>
            cases ulo with
            | none => exact r1.elim
            | some u => simp [bound_run (P := P) hlo r1 h1, bound_run (P := P) hhi r2 q1, bound_run (P := P) hmx r3 q2]

theorem tkind7 {t : TypeId} (h : tkind P t = 7) : P.underlying t = some .string := by unfold tkind at h; split at h <;> first | assumption | cases h

theorem sliceD_sim {t : TypeId} {X r : AV} {u : Value} {lo hi mx : Option AV} {ulo uhi umx : Option Value} (hI : Inv C) (h : sliceD P C.H t X lo hi mx = some r) (hu : Rep C X u) (r1 : RepO C lo ulo) (r2 : RepO C hi uhi) (r3 : RepO C mx umx) :
    ∃ z, (Instr.sliceAt t u ulo uhi umx).run P C.w = .ok z C.w ∧ Rep C r z := by
  unfold sliceD at h
  split at h
  · rename_i cs len full nl
    simp only [Option.bind_eq_bind, Option.bind_eq_some_iff] at h
    obtain ⟨e, he, n, hn, h', hh, l, hl, m, hm, h⟩ := h
    split at h
    · rename_i hc
      obtain ⟨c1, c2, c3, c4⟩ := hc
      cases h
      cases hu.dinv with
      | sl _ _ cap _ _ a vs hlc hf h1 hr hcc hnl =>
        have hb := bounds_run (P := P) (isSlice := true) (cap := cap) hl hh hm r1 r2 r3 c4 c1 (fun _ => ⟨by omega, by omega⟩) (by omega) C.w
        refine ⟨.slice (if (if mx.isSome then m else cap) = l then a else a.map (·.add (l * n))) (h' - l) ((if mx.isSome then m else cap) - l), ?_, .d _ _ (.sl _ _ _ _ _ _ (fun j => vs (l * n + j)) ?_ ?_ (fun j hj => h1 _ (by simp at hj; omega)) (fun j x hx => ?_) (fun hne => ?_) (fun b hb => ?_))⟩
        · simp only [Instr.sliceAt, Sem.run_bind, und_run (elem_und he), Result.andThen_ok, Instr.slice, hb, size_run hn, Sem.run_pure]
        · split <;> omega
        · intro hfull
          simp only [Bool.or_eq_true, Bool.and_eq_true, decide_eq_true_eq] at hfull
          rcases hfull with hq | ⟨hq, hq2⟩
          · rw [if_pos hq]; omega
          · have := hf hq
            split <;> omega
        · rw [List.getElem?_take] at hx
          split at hx
          · rw [List.getElem?_drop] at hx; exact hr _ _ hx
          · cases hx
        · have hlen : 0 < ((cs.drop (l * n)).take ((h' - l) * n)).length := by
            cases hq : (cs.drop (l * n)).take ((h' - l) * n) with
            | nil => exact absurd hq hne
            | cons => simp
          have hmm : (if mx.isSome = true then m else cap) ≠ l := by
            intro e
            have : h' - l = 0 := by split at e <;> omega
            rw [this] at hlen
            simp at hlen
          obtain ⟨ad, rfl, hF, hcell⟩ := hcc (by intro e; subst e; simp at hlen)
          refine ⟨ad.add (l * n), by rw [if_neg hmm]; rfl, by rw [add_block]; exact hF, fun j hj => ?_⟩
          rw [add_add]
          exact hcell _ (by simp at hj; omega)
        · have hq : ∀ (p : Prop) [Decidable p] (f : Addr → Addr), (if p then a else a.map f).isNone = a.isNone := by intro p _ f; split <;> simp
          exact (hq _ _).trans (hnl b hb)
    · cases h
  · rename_i s
    split at h
    · rename_i hk
      simp only [Option.bind_eq_bind, Option.bind_eq_some_iff] at h
      obtain ⟨h', hh, l, hl, h⟩ := h
      split at h
      · rename_i hc
        obtain ⟨c1, c2, c3⟩ := hc
        cases h
        cases hu.dinv
        cases mx with
        | some => cases c3
        | none =>
          cases umx with
          | some => exact r3.elim
          | none =>
            have hb := bounds_run (P := P) (isSlice := false) (cap := s.size) (mx := none) (umx := none) (d := 0) (m := 0) hl hh rfl r1 r2 trivial (by simp) c1 (by simp) c2 C.w
            simp only [Option.isSome_none, Bool.false_eq_true, if_false] at hb
            exact ⟨.string (s.extract l h'), by simp only [Instr.sliceAt, Sem.run_bind, und_run (tkind7 hk), Result.andThen_ok, Instr.slice, Option.isSome_none, Bool.false_eq_true, if_false, hb, Sem.run_pure], .d _ _ (.str _)⟩
      · cases h
    · cases h
  · rename_i o off len sz ver
    simp only [Option.bind_eq_bind, Option.bind_eq_some_iff] at h
    obtain ⟨e, he, n, hn, y, hy, h', hh, l, hl, h⟩ := h
    split at h
    · rename_i hc
      simp only [Bool.and_eq_true, decide_eq_true_eq, Bool.or_eq_true] at hc
      obtain ⟨⟨⟨⟨hrow, hver⟩, hsz⟩, hsz0⟩, hlh⟩ := hc
      cases hu with
      | osl _ _ _ _ _ cap A hlc hU hv hs =>
        have hsl := hs y hy hver
        split at h
        · split at h
          · rename_i hfit
            cases h
            cases umx with
            | some => exact r3.elim
            | none =>
              have hcap : h' ≤ cap := by
                unfold SlAt at hsl
                split at hsl
                · rename_i hr
                  obtain ⟨c, tt, hh2⟩ : ver = 0 := by
                    cases y with
                    | cells cs =>
                      obtain ⟨b, c, t2, e2, _⟩ := hI.obj o _ hy
                      rw [hr] at e2; cases e2
                    | grow cs =>
                      obtain ⟨b, S, c, t2, e2, _⟩ := hI.obj o _ hy
                      rw [hr] at e2; cases e2
                    | frz cs =>
                      obtain ⟨b, S, c, t2, e2, _⟩ := hI.obj o _ hy
                      rw [hr] at e2; cases e2
                    | vnil => exact hver.symm
                    | mp => cases hrow
                  have : h' * sz = 0 := by omega
                  rcases Nat.mul_eq_zero.1 this with q | q <;> omega
                · rename_i b S hr
                  obtain ⟨c, tt, _, _, hle, _⟩ := row_mem hI hy hrow hr
                  obtain ⟨hS, _⟩ := hsl
                  have : h' * sz ≤ cap * sz := by omega
                  exact Nat.le_of_mul_le_mul_right this hsz0
              have hb := bounds_run (P := P) (isSlice := true) (cap := cap) (mx := none) (umx := none) (d := 0) (m := 0) hl hh rfl r1 r2 trivial (by simp) hlh (by simp) hcap C.w
              simp only [Option.isSome_none, Bool.false_eq_true, if_false] at hb
              refine ⟨.slice (if cap = l then A else A.map (·.add (l * n))) (h' - l) (cap - l), by simp only [Instr.sliceAt, Sem.run_bind, und_run (elem_und he), Result.andThen_ok, Instr.slice, hb, size_run hn, Sem.run_pure], .osl _ _ _ _ _ _ _ (by omega) hU hv fun x hx e => ?_⟩
              have hs2 := hs x hx e
              unfold SlAt at hs2 ⊢
              split at hs2
              · rename_i hr
                refine ⟨by omega, ?_⟩
                rw [hs2.2]; simp
              · rename_i b S hr
                obtain ⟨hS, hA, hA2⟩ := hs2
                have hver0 : ver ≠ 0 ∨ cap = 0 ∨ True := .inr (.inr trivial)
                have hmul : (cap - l) * sz + l * sz = cap * sz := by rw [← Nat.add_mul]; congr 1; omega
                refine ⟨by omega, fun hpos => ?_, by split <;> simp [hA2]⟩
                rw [if_neg (by omega), hA (by omega)]
                have hszn : l * n = l * sz := by
                  rcases hsz with q | q
                  · rw [q]
                  · have : h' * sz = 0 := by omega
                    rcases Nat.mul_eq_zero.1 this with q2 | q2
                    · have : l = 0 := by omega
                      rw [this]; simp
                    · omega
                simp only [Option.map_some, Option.some.injEq]
                rw [hszn]
                unfold Addr.add
                split
                · rename_i h0; simp [h0]
                · rfl
          · cases h
        · rename_i M
          simp only [Option.bind_eq_some_iff] at h
          obtain ⟨m, hm, h⟩ := h
          split at h
          · rename_i hq
            obtain ⟨q1, q2, q3⟩ := hq
            have hb := bounds_run (P := P) (isSlice := true) (cap := cap) hl hh hm r1 r2 r3 (fun _ => q3) hlh (fun _ => ⟨q1, by omega⟩) (by omega) C.w
            simp only [Option.isSome_some, if_true] at hb
            have hrun : (Instr.sliceAt t (.slice A len cap) ulo uhi umx).run P C.w = .ok (.slice (if m = l then A else A.map (·.add (l * n))) (h' - l) (m - l)) C.w := by
              simp only [Instr.sliceAt, Sem.run_bind, und_run (elem_und he), Result.andThen_ok, Instr.slice, hb, size_run hn, Sem.run_pure]
            split at h
            · rename_i hlm
              cases h
              subst hlm
              refine ⟨_, hrun, .d _ _ ?_⟩
              have e1 : h' - l = 0 := by omega
              have e2 : l - l = 0 := by omega
              rw [e1, e2]
              exact .sl [] 0 0 true none _ (fun _ => undef) (Nat.le_refl _) (fun _ => rfl) (fun j hj => by simp at hj) (fun j x hx => by simp at hx) (fun hne => absurd rfl hne) (fun b hb => by cases hb)
            · cases h
              exact ⟨_, hrun, .junk _⟩
          · cases h
    · cases h
  · rename_i o off ver
    simp only [Option.bind_eq_bind, Option.bind_eq_some_iff] at h
    obtain ⟨⟨m, e⟩, hme, n, hn, h', hh, l, hl, h⟩ := h
    split at h
    · rename_i hc
      obtain ⟨c1, c2, c3, c4⟩ := hc
      cases h
      obtain rfl : mx = none := by cases mx <;> simp_all
      cases hu with
      | ptr _ _ _ a hU hv hs =>
        obtain rfl : umx = none := by cases umx <;> first | rfl | exact r3.elim
        have hb := bounds_run (P := P) (isSlice := false) (len := m) (cap := m) (d := 0) (m := 0) (mx := none) hl hh rfl r1 r2 r3 (fun q => by cases q) c1 (fun q => by cases q) c2 C.w
        simp only [Option.isSome_none, Bool.false_eq_true, if_false] at hb
        refine ⟨.slice (some (a.add (l * n))) (h' - l) (m - l), ?_, .vsl _ _ _ _ _ _ _ (by omega) hU hv fun x hx ex => ?_⟩
        · simp only [Instr.sliceAt, Instr.sureAddr, Sem.run_bind, und_run (tarr_und hme), Result.andThen_ok, hb, size_run hn, Sem.run_pure]
          rw [if_neg (by omega)]
        · obtain ⟨b, S, hb, rfl⟩ := hs x hx ex
          exact ⟨b, S, hb, by rw [add_at]⟩
    · cases h
  · rename_i cs
    simp only [Option.bind_eq_bind, Option.bind_eq_some_iff] at h
    obtain ⟨⟨m, e⟩, hme, n, hn, h', hh, l, hl, h⟩ := h
    split at h
    · rename_i hc
      obtain ⟨c1, c2, c3, c4, c5⟩ := hc
      cases h
      obtain rfl : mx = none := by cases mx <;> simp_all
      cases hu.dinv with
      | dptr _ ad vs h1 hr hF hcell =>
        obtain rfl : umx = none := by cases umx <;> first | rfl | exact r3.elim
        have hb := bounds_run (P := P) (isSlice := false) (len := m) (cap := m) (d := 0) (m := 0) (mx := none) hl hh rfl r1 r2 r3 (fun q => by cases q) c1 (fun q => by cases q) c2 C.w
        simp only [Option.isSome_none, Bool.false_eq_true, if_false] at hb
        refine ⟨.slice (some (ad.add (l * n))) (h' - l) (m - l), ?_, .d _ _ (.sl _ _ _ _ _ _ (fun j => vs (l * n + j)) (by omega) (fun hq => by cases hq) (fun j hj => h1 _ (by simp at hj; omega)) (fun j x hx => ?_) (fun hne => ?_) (fun b hb => by cases hb; rfl))⟩
        · simp only [Instr.sliceAt, Instr.sureAddr, Sem.run_bind, und_run (tarr_und hme), Result.andThen_ok, hb, size_run hn, Sem.run_pure]
          rw [if_neg (by omega)]
        · rw [List.getElem?_take] at hx
          split at hx
          · rw [List.getElem?_drop] at hx; exact hr _ _ hx
          · cases hx
        · refine ⟨ad.add (l * n), rfl, by rw [add_block]; exact hF, fun j hj => ?_⟩
          rw [add_add]
          exact hcell _ (by simp at hj; omega)
    · cases h
  · cases h

end
end Go.Proofs.Ytiafeijkifpfaaa.Am

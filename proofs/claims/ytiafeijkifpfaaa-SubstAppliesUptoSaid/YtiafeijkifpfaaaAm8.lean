/-
  The abstract machine: objects made, written, grown and forgotten. No condition.
-/
import Derived.Test.YtiafeijkifpfaaaAm7
import Derived.Laws.CopyRow
import Derived.Laws.Append
namespace Go.Proofs.Ytiafeijkifpfaaa.Am
open Go

/-- What objects' blocks do in a step: old blocks stay but for one. -/
structure Grew (w w' : World) : Prop where
  os : w'.os = w.os
  tape : w'.tape = w.tape
  output : w'.output = w.output
  size : w.heap.size ≤ w'.heap.size
  block : ∀ k, k < w.heap.size → w'.heap[k]? = w.heap[k]?
theorem Grew.refl (w : World) : Grew w w := ⟨rfl, rfl, rfl, Nat.le_refl _, fun _ _ => rfl⟩
theorem Grew.alloc (w : World) (o : Go.Obj) : Grew w (w.alloc o) := ⟨rfl, rfl, rfl, by simp, fun k hk => Go.RowKit.Below.heap_alloc _ _ _ hk⟩
theorem Grew.drew (w : World) : Grew w w.drew := ⟨rfl, rfl, rfl, Nat.le_refl _, fun _ _ => rfl⟩
theorem Grew.trans {a b c : World} (h : Grew a b) (k : Grew b c) : Grew a c :=
  ⟨k.os.trans h.os, k.tape.trans h.tape, k.output.trans h.output, Nat.le_trans h.size k.size, fun i hi => (k.block i (Nat.lt_of_lt_of_le hi h.size)).trans (h.block i hi)⟩

set_option linter.unusedVariables false
theorem ObjOk.block_lt {C : Cx} {o : Oid} {x : Am.Obj} (h : ObjOk C o x) {b S : Nat} (hb : C.ρ o = some (b, S)) : b < C.w.heap.size := by
  cases x with
  | cells cs => obtain ⟨b', c, t, e, hh, _⟩ := h; rw [e] at hb; cases hb; exact (Array.getElem?_eq_some_iff.1 hh).1
  | grow cs =>
    obtain ⟨b', S', c, t, e, hh, _⟩ := h
    rw [e] at hb; cases hb; exact (Array.getElem?_eq_some_iff.1 hh).1
  | frz cs =>
    obtain ⟨b', S', c, t, e, _, hh, _⟩ := h
    rw [e] at hb; cases hb; exact (Array.getElem?_eq_some_iff.1 hh).1
  | vnil => rw [show C.ρ o = none from h] at hb; cases hb
  | mp sh es c =>
    obtain ⟨b', S', es', e, hh, _⟩ := h
    rw [e] at hb; cases hb; exact (Array.getElem?_eq_some_iff.1 hh).1
theorem Inv.live_lt {C : Cx} (hI : Inv C) {b : Nat} (h : Live C b) : b < C.w.heap.size := by
  obtain ⟨o, x, S, hx, _, hb⟩ := h
  exact (hI.obj o x hx).block_lt hb

theorem ObjOk.keep {C C' : Cx} (hI : Inv C) (he : Ext C C') {o : Oid} {x : Am.Obj} (hρ : C'.ρ o = C.ρ o) (hb : ∀ b S, C.ρ o = some (b, S) → C'.w.heap[b]? = C.w.heap[b]?) (h : ObjOk C o x) : ObjOk C' o x := by
  cases x with
  | cells cs =>
    obtain ⟨b, c, t, e, hh, hs, h1, hr⟩ := h
    exact ⟨b, c, t, by rw [hρ]; exact e, by rw [hb b _ e]; exact hh, hs, h1, fun j x hx => (hr j x hx).ext hI he⟩
  | grow cs =>
    obtain ⟨b, S, c, t, e, hh, hs, hl, h1, hr⟩ := h
    exact ⟨b, S, c, t, by rw [hρ]; exact e, by rw [hb b _ e]; exact hh, hs, hl, h1, fun j x hx => (hr j x hx).ext hI he⟩
  | frz cs =>
    obtain ⟨b, S, c, t, e, hF, hh, hs, hl, h1, hr⟩ := h
    exact ⟨b, S, c, t, by rw [hρ]; exact e, he.F _ hF, by rw [hb b _ e]; exact hh, hs, hl, h1, fun j x hx => (hr j x hx).ext hI he⟩
  | vnil => show C'.ρ o = none; rw [hρ]; exact h
  | mp sh es c =>
    obtain ⟨b, S, es', e, hh, hs, hr⟩ := h
    refine ⟨b, S, es', by rw [hρ]; exact e, by rw [hb b _ e]; exact hh, hs, fun j k v n hj => ?_⟩
    obtain ⟨hf, x, h1, h2, h3, h4⟩ := hr j k v n hj
    exact ⟨hf, x, h1, h2, h3.ext hI he, h4⟩

/-- New objects: nothing that was there turns. -/
theorem ext_fresh {C : Cx} {ρ' : Oid → Option (Nat × Nat)} {H' : Hp} {U' : Oid → Prop} {w' : World} (hI : Inv C) (hg : Grew C.w w') (hU : ∀ o, C.U o → U' o)
    (hH : ∀ o, C.U o → H' o = C.H o ∧ ρ' o = C.ρ o) (hN : ∀ o x, H' o = some x → ¬ C.U o → ∀ b S, ρ' o = some (b, S) → C.w.heap.size ≤ b) : Ext C ⟨ρ', C.F, H', U', w'⟩ where
  U := hU
  F _ h := h
  F' _ h := .inl h
  os := hg.os
  tape := hg.tape
  output := hg.output
  size := hg.size
  keep b hb _ := hg.block b hb
  live o x' hx hU := ⟨x', by rw [← (hH o hU).1]; exact hx, rfl, Nat.le_refl _, fun _ => (hH o hU).2⟩
  blk b hb := by
    obtain ⟨o, x, S, hx, hz, hr⟩ := hb
    by_cases hu : C.U o
    · exact .inl ⟨o, x, S, by rw [← (hH o hu).1]; exact hx, hz, by rw [← (hH o hu).2]; exact hr⟩
    · exact .inr (hN o x hx hu b S hr)
theorem inv_fresh {C : Cx} {ρ' : Oid → Option (Nat × Nat)} {H' : Hp} {U' : Oid → Prop} {w' : World} (hI : Inv C) (hg : Grew C.w w') (hU : ∀ o, C.U o → U' o)
    (hH : ∀ o, C.U o → H' o = C.H o ∧ ρ' o = C.ρ o) (hN : ∀ o x, H' o = some x → ¬ C.U o → ∀ b S, ρ' o = some (b, S) → C.w.heap.size ≤ b)
    (hu : ∀ o x, H' o = some x → ¬ C.U o → U' o) (hobj : ∀ o x, H' o = some x → ¬ C.U o → ObjOk ⟨ρ', C.F, H', U', w'⟩ o x)
    (hinj : ∀ o o' x x' b S S', H' o = some x → H' o' = some x' → ¬ C.U o → ¬ C.U o' → ρ' o = some (b, S) → ρ' o' = some (b, S') → o = o') : Inv ⟨ρ', C.F, H', U', w'⟩ := by
  have he := ext_fresh hI hg hU hH hN
  have old : ∀ o x, H' o = some x → C.U o → ∀ b S, ρ' o = some (b, S) → b < C.w.heap.size := fun o x hx hc b S hb =>
    (hI.obj o x (by rw [← (hH o hc).1]; exact hx)).block_lt (by rw [← (hH o hc).2]; exact hb)
  constructor
  · intro o x hx
    by_cases hc : C.U o
    · exact hU o hc
    · exact hu o x hx hc
  · intro o x hx
    by_cases hc : C.U o
    · have hx0 : C.H o = some x := by rw [← (hH o hc).1]; exact hx
      exact (hI.obj o x hx0).keep hI he (hH o hc).2 fun b S hb => hg.block b ((hI.obj o x hx0).block_lt hb)
    · exact hobj o x hx hc
  · intro o x b S hx hz hb hF
    by_cases hc : C.U o
    · exact hI.notF o x b S (by rw [← (hH o hc).1]; exact hx) hz (by rw [← (hH o hc).2]; exact hb) hF
    · have := hN o x hx hc b S hb
      have := hI.Flt b hF
      omega
  · intro o o' x x' b S S' hx hx' hb hb'
    by_cases hc : C.U o
    · by_cases hc' : C.U o'
      · exact hI.inj o o' x x' b S S' (by rw [← (hH o hc).1]; exact hx) (by rw [← (hH o' hc').1]; exact hx') (by rw [← (hH o hc).2]; exact hb) (by rw [← (hH o' hc').2]; exact hb')
      · have := old o x hx hc b S hb
        have := hN o' x' hx' hc' b S' hb'
        omega
    · by_cases hc' : C.U o'
      · have := old o' x' hx' hc' b S' hb'
        have := hN o x hx hc b S hb
        omega
      · exact hinj o o' x x' b S S' hx hx' hc hc' hb hb'
  · intro b hb
    exact Nat.lt_of_lt_of_le (hI.Flt b hb) hg.size

/-- The same world, more numbers in use. -/
theorem use_more {C : Cx} (hI : Inv C) (U' : Oid → Prop) (hU : ∀ o, C.U o → U' o) : Inv ⟨C.ρ, C.F, C.H, U', C.w⟩ ∧ Ext C ⟨C.ρ, C.F, C.H, U', C.w⟩ :=
  have hN : ∀ o x, C.H o = some x → ¬ C.U o → ∀ b S, C.ρ o = some (b, S) → C.w.heap.size ≤ b := fun o x hx hc => absurd (hI.used o x hx) hc
  ⟨inv_fresh hI (.refl _) hU (fun _ _ => ⟨rfl, rfl⟩) hN (fun o x hx hc => absurd (hI.used o x hx) hc) (fun o x hx hc => absurd (hI.used o x hx) hc)
    (fun o _ x _ _ _ _ hx _ hc _ _ _ => absurd (hI.used o x hx) hc), ext_fresh hI (.refl _) hU (fun _ _ => ⟨rfl, rfl⟩) hN⟩
/-- The world has drawn, or has blocks that nobody knows. -/
theorem grow_world {C : Cx} (hI : Inv C) {w' : World} (hg : Grew C.w w') : Inv ⟨C.ρ, C.F, C.H, C.U, w'⟩ ∧ Ext C ⟨C.ρ, C.F, C.H, C.U, w'⟩ :=
  have hN : ∀ o x, C.H o = some x → ¬ C.U o → ∀ b S, C.ρ o = some (b, S) → C.w.heap.size ≤ b := fun o x hx hc => absurd (hI.used o x hx) hc
  ⟨inv_fresh hI hg (fun _ h => h) (fun _ _ => ⟨rfl, rfl⟩) hN (fun o x hx hc => absurd (hI.used o x hx) hc) (fun o x hx hc => absurd (hI.used o x hx) hc)
    (fun o _ x _ _ _ _ hx _ hc _ _ _ => absurd (hI.used o x hx) hc), ext_fresh hI hg (fun _ h => h) (fun _ _ => ⟨rfl, rfl⟩) hN⟩

/-! ### Nil slices that become rows -/
theorem liftH_other (id : Nat) : ∀ (cs : List AV) (j : Nat) (H : Hp) (o : Oid), (o.1 ≠ id ∨ o.2 < j) → liftH id j cs H o = H o := by
  intro cs
  induction cs with
  | nil => intro j H o _; rfl
  | cons v r ih =>
    intro j H o ho
    simp only [liftH]
    rw [ih (j + 1) _ o (ho.imp (fun h => h) (fun h => by omega))]
    split
    · simp only [upd]
      rw [if_neg]
      rintro rfl
      rcases ho with h | h
      · exact h rfl
      · simp at h
    · rfl
theorem liftH_new (id : Nat) : ∀ (cs : List AV) (j : Nat) (H : Hp) (o : Oid) (x : Am.Obj), liftH id j cs H o = some x → H o = some x ∨ (o.1 = id ∧ j ≤ o.2 ∧ x = .vnil) := by
  intro cs
  induction cs with
  | nil => intro j H o x h; exact .inl h
  | cons v r ih =>
    intro j H o x h
    simp only [liftH] at h
    rcases ih (j + 1) _ o x h with k | ⟨h1, h2, h3⟩
    · clear h
      split at k
      · simp only [upd] at k
        split at k
        · rename_i e; subst e; cases k; exact .inr ⟨rfl, Nat.le_refl _, rfl⟩
        · exact .inl k
      · exact .inl k
    · exact .inr ⟨h1, by omega, h3⟩
theorem isNil_eq {v : AV} (h : isNil v = true) : v = .d (.sl [] 0 true (some true)) := by
  unfold isNil at h
  split at h
  · rfl
  · cases h
theorem liftCells_get (id : Nat) : ∀ (cs : List AV) (j k : Nat) (x : AV), (liftCells id j cs)[k]? = some x → ∃ y, cs[k]? = some y ∧ ((isNil y = true ∧ x = .osl (id, j + k) 0 0 1 0) ∨ (isNil y = false ∧ x = y)) := by
  intro cs
  induction cs with
  | nil => intro j k x h; simp [liftCells] at h
  | cons v r ih =>
    intro j k x h
    cases k with
    | zero =>
      simp only [liftCells, List.getElem?_cons_zero, Option.some.injEq, lift1] at h
      refine ⟨v, rfl, ?_⟩
      split at h
      · exact .inl ⟨by assumption, by simpa using h.symm⟩
      · exact .inr ⟨by simpa using ‹¬ isNil v = true›, h.symm⟩
    | succ k =>
      simp only [liftCells, List.getElem?_cons_succ] at h
      obtain ⟨y, hy, hc⟩ := ih (j + 1) k x h
      refine ⟨y, by simpa using hy, ?_⟩
      rw [show j + (k + 1) = j + 1 + k by omega]
      exact hc
theorem liftCells_length (id : Nat) : ∀ (cs : List AV) (j : Nat), (liftCells id j cs).length = cs.length := by
  intro cs
  induction cs with
  | nil => intro j; rfl
  | cons v r ih => intro j; simp [liftCells, ih]

open Classical in
/-- Cells that hold nil become rows. -/
theorem lift_sim {C : Cx} (hI : Inv C) {id : Nat} (hid : ∀ j, ¬ C.U (id, j + 1)) {cs : List AV} {arr : Array Value} (hc : CellsOk C cs arr) :
    ∃ C', C'.w = C.w ∧ C'.H = liftH id 1 cs C.H ∧ C'.F = C.F ∧ C'.ρ = (fun o => if C.U o then C.ρ o else none) ∧ (∀ o, C'.U o ↔ C.U o ∨ (o.1 = id ∧ 1 ≤ o.2)) ∧ Inv C' ∧ Ext C C' ∧ CellsOk C' (liftCells id 1 cs) arr := by
  have hU : ∀ o, C.U o → o.1 ≠ id ∨ o.2 < 1 := fun o ho => by
    by_cases h1 : o.1 = id
    · right
      cases h2 : o.2 with
      | zero => omega
      | succ j => exact absurd ho (by have := hid j; rwa [show o = (id, j + 1) from Prod.ext h1 h2])
    · exact .inl h1
  have hH : ∀ o, C.U o → liftH id 1 cs C.H o = C.H o ∧ (if C.U o then C.ρ o else none) = C.ρ o := fun o ho => ⟨liftH_other id cs 1 C.H o (hU o ho), if_pos ho⟩
  have hN : ∀ o x, liftH id 1 cs C.H o = some x → ¬ C.U o → ∀ b S, (if C.U o then C.ρ o else none) = some (b, S) → C.w.heap.size ≤ b := fun o x hx hc b S hb => by rw [if_neg hc] at hb; cases hb
  have hnew : ∀ o x, liftH id 1 cs C.H o = some x → ¬ C.U o → o.1 = id ∧ 1 ≤ o.2 ∧ x = .vnil := fun o x hx hc => (liftH_new id cs 1 C.H o x hx).resolve_left fun h => hc (hI.used o x h)
  have he := ext_fresh (U' := fun o => C.U o ∨ (o.1 = id ∧ 1 ≤ o.2)) hI (.refl _) (fun _ h => .inl h) hH hN
  have hi := inv_fresh (U' := fun o => C.U o ∨ (o.1 = id ∧ 1 ≤ o.2)) hI (.refl _) (fun _ h => .inl h) hH hN (fun o x hx hc => .inr ⟨(hnew o x hx hc).1, (hnew o x hx hc).2.1⟩)
    (fun o x hx hc => by obtain ⟨_, _, rfl⟩ := hnew o x hx hc; exact if_neg hc) (fun o o' x x' b S S' hx hx' hc hc' hb hb' => by simp only [if_neg hc] at hb; cases hb)
  refine ⟨⟨fun o => if C.U o then C.ρ o else none, C.F, liftH id 1 cs C.H, fun o => C.U o ∨ (o.1 = id ∧ 1 ≤ o.2), C.w⟩, rfl, rfl, rfl, rfl, fun o => Iff.rfl, hi, he, by rw [liftCells_length]; exact hc.1, hc.2.1, fun j x hx => ?_⟩
  obtain ⟨y, hy, hc2⟩ := liftCells_get id cs 1 j x hx
  have hy2 := hc.2.2 j y hy
  rcases hc2 with ⟨hn, rfl⟩ | ⟨hn, rfl⟩
  · obtain rfl := isNil_eq hn
    have hd := hy2.dinv
    generalize arr.getD j undef = v at hd
    have hu : ¬ C.U (id, 1 + j) := by rw [Nat.add_comm]; exact hid j
    cases hd with
    | sl _ _ cap _ _ a vs hl hf h1 hr hcc hnl =>
      refine .osl _ _ _ _ _ cap a (Nat.zero_le _) (.inr ⟨rfl, by simp⟩) (fun x _ => Nat.zero_le _) (fun x hx _ => ?_)
      simp only [if_neg hu, SlAt]
      exact ⟨hf rfl, by simpa using hnl true rfl⟩
  · exact hy2.ext hI he
end Go.Proofs.Ytiafeijkifpfaaa.Am

/-
  Joined texts: Am8, Am9, Am10, Am11. No condition.
-/
import Derived.Test.YtiafeijkifpfaaaAmPad
import Derived.Laws.CopyRow
import Derived.Laws.Append
/-
 The abstract machine: objects made, written, grown and forgotten. No condition.
-/
namespace Go.Proofs.Ytiafeijkifpfaaa.Am
open Go
structure Grew (w w' : World) : Prop where
 os : w'.os = w.os
 tape : w'.tape = w.tape
 output : w'.output = w.output
 size : w.heap.size ≤ w'.heap.size
 block : ∀ k, k < w.heap.size → w'.heap[k]? = w.heap[k]?
theorem Grew.refl (w : World) : Grew w w := ⟨rfl, rfl, rfl, Nat.le_refl _, fun _ _ => rfl⟩
theorem Grew.alloc (w : World) (o : Go.Obj) : Grew w (w.alloc o) := ⟨rfl, rfl, rfl, by simp, fun k hk => Go.RowKit.Below.heap_alloc _ _ _ hk⟩
theorem Grew.drew (w : World) : Grew w w.drew := ⟨rfl, rfl, rfl, Nat.le_refl _, fun _ _ => rfl⟩
theorem Grew.trans {a b c : World} (h : Grew a b) (k : Grew b c) : Grew a c :=
 ⟨k.os.trans h.os, k.tape.trans h.tape, k.output.trans h.output, Nat.le_trans h.size k.size, fun i hi => (k.block i (Nat.lt_of_lt_of_le hi h.size)).trans (h.block i hi)⟩
set_option linter.unusedVariables false
theorem ObjOk.block_lt {C : Cx} {o : Oid} {x : Am.Obj} (h : ObjOk C o x) {b S : Nat} (hb : C.ρ o = some (b, S)) : b < C.w.heap.size := by
 cases x with
 | cells cs => obtain ⟨b', c, t, e, hh, _⟩ := h; rw [e] at hb; cases hb; exact (Array.getElem?_eq_some_iff.1 hh).1
 | grow cs =>
  obtain ⟨b', S', c, t, e, hh, _⟩ := h
  rw [e] at hb; cases hb; exact (Array.getElem?_eq_some_iff.1 hh).1
 | frz cs =>
  obtain ⟨b', S', c, t, e, _, hh, _⟩ := h
  rw [e] at hb; cases hb; exact (Array.getElem?_eq_some_iff.1 hh).1
 | vnil => rw [show C.ρ o = none from h] at hb; cases hb
 | mp sh es c =>
  obtain ⟨b', S', es', e, hh, _⟩ := h
  rw [e] at hb; cases hb; exact (Array.getElem?_eq_some_iff.1 hh).1
 | rc ps as body tm j =>
  obtain ⟨b', S', r, w, e, hh, _⟩ := h
  rw [e] at hb; cases hb; exact (Array.getElem?_eq_some_iff.1 hh).1
theorem Inv.live_lt {C : Cx} (hI : Inv C) {b : Nat} (h : Live C b) : b < C.w.heap.size := by
 obtain ⟨o, x, S, hx, _, hb⟩ := h
 exact (hI.obj o x hx).block_lt hb
theorem ObjOk.keep {C C' : Cx} (hI : Inv C) (he : Ext C C') {o : Oid} {x : Am.Obj} (hρ : C'.ρ o = C.ρ o) (hb : ∀ b S, C.ρ o = some (b, S) → C'.w.heap[b]? = C.w.heap[b]?) (h : ObjOk C o x) : ObjOk C' o x := by
 cases x with
 | cells cs =>
  obtain ⟨b, c, t, e, hh, hs, h1, hr⟩ := h
  exact ⟨b, c, t, by rw [hρ]; exact e, by rw [hb b _ e]; exact hh, hs, h1, fun j x hx => (hr j x hx).ext hI he⟩
 | grow cs =>
  obtain ⟨b, S, c, t, e, hh, hs, hl, h1, hr⟩ := h
  exact ⟨b, S, c, t, by rw [hρ]; exact e, by rw [hb b _ e]; exact hh, hs, hl, h1, fun j x hx => (hr j x hx).ext hI he⟩
 | frz cs =>
  obtain ⟨b, S, c, t, e, hF, hh, hs, hl, h1, hr⟩ := h
  exact ⟨b, S, c, t, by rw [hρ]; exact e, he.F _ hF, by rw [hb b _ e]; exact hh, hs, hl, h1, fun j x hx => (hr j x hx).ext hI he⟩
 | vnil => show C'.ρ o = none; rw [hρ]; exact h
 | mp sh es c =>
  obtain ⟨b, S, es', e, hh, hs, hr⟩ := h
  refine ⟨b, S, es', by rw [hρ]; exact e, by rw [hb b _ e]; exact hh, hs, fun j k v n hj => ?_⟩
  obtain ⟨hf, x, h1, h2, h3, h4⟩ := hr j k v n hj
  exact ⟨hf, x, h1, h2, h3.ext hI he, h4⟩
 | rc ps as body tm j =>
  obtain ⟨b, S, r, w, e, hh, h1, h2, h3, h4, h5, h6⟩ := h
  exact ⟨b, S, r, w, by rw [hρ]; exact e, by rw [hb b _ e]; exact hh, h1, h2, h3, h4, h5, fun k x hx => (h6 k x hx).ext hI he⟩
theorem ext_fresh {C : Cx} {ρ' : Oid → Option (Nat × Nat)} {H' : Hp} {U' : Oid → Prop} {w' : World} (hI : Inv C) (hg : Grew C.w w') (hU : ∀ o, C.U o → U' o)
  (hH : ∀ o, C.U o → H' o = C.H o ∧ ρ' o = C.ρ o) (hN : ∀ o x, H' o = some x → ¬ C.U o → ∀ b S, ρ' o = some (b, S) → C.w.heap.size ≤ b) : Ext C ⟨ρ', C.F, H', U', w'⟩ where
 U := hU
 F _ h := h
 F' _ h := .inl h
 os := hg.os
 tape := hg.tape
 output := hg.output
 size := hg.size
 keep b hb _ := hg.block b hb
 live o x' hx hU := ⟨x', by rw [← (hH o hU).1]; exact hx, rfl, Nat.le_refl _, fun _ => (hH o hU).2⟩
 blk b hb := by
  obtain ⟨o, x, S, hx, hz, hr⟩ := hb
  by_cases hu : C.U o
  ·exact .inl ⟨o, x, S, by rw [← (hH o hu).1]; exact hx, hz, by rw [← (hH o hu).2]; exact hr⟩
  ·exact .inr (hN o x hx hu b S hr)
theorem inv_fresh {C : Cx} {ρ' : Oid → Option (Nat × Nat)} {H' : Hp} {U' : Oid → Prop} {w' : World} (hI : Inv C) (hg : Grew C.w w') (hU : ∀ o, C.U o → U' o)
  (hH : ∀ o, C.U o → H' o = C.H o ∧ ρ' o = C.ρ o) (hN : ∀ o x, H' o = some x → ¬ C.U o → ∀ b S, ρ' o = some (b, S) → C.w.heap.size ≤ b)
  (hu : ∀ o x, H' o = some x → ¬ C.U o → U' o) (hobj : ∀ o x, H' o = some x → ¬ C.U o → ObjOk ⟨ρ', C.F, H', U', w'⟩ o x)
  (hinj : ∀ o o' x x' b S S', H' o = some x → H' o' = some x' → ¬ C.U o → ¬ C.U o' → ρ' o = some (b, S) → ρ' o' = some (b, S') → o = o') : Inv ⟨ρ', C.F, H', U', w'⟩ := by
 have he := ext_fresh hI hg hU hH hN
 have old : ∀ o x, H' o = some x → C.U o → ∀ b S, ρ' o = some (b, S) → b < C.w.heap.size := fun o x hx hc b S hb =>
  (hI.obj o x (by rw [← (hH o hc).1]; exact hx)).block_lt (by rw [← (hH o hc).2]; exact hb)
 constructor
 ·intro o x hx
  by_cases hc : C.U o
  ·exact hU o hc
  ·exact hu o x hx hc
 ·intro o x hx
  by_cases hc : C.U o
  ·have hx0 : C.H o = some x := by rw [← (hH o hc).1]; exact hx
   exact (hI.obj o x hx0).keep hI he (hH o hc).2 fun b S hb => hg.block b ((hI.obj o x hx0).block_lt hb)
  ·exact hobj o x hx hc
 ·intro o x b S hx hz hb hF
  by_cases hc : C.U o
  ·exact hI.notF o x b S (by rw [← (hH o hc).1]; exact hx) hz (by rw [← (hH o hc).2]; exact hb) hF
  ·have := hN o x hx hc b S hb
   have := hI.Flt b hF
   omega
 ·intro o o' x x' b S S' hx hx' hb hb'
  by_cases hc : C.U o
  ·by_cases hc' : C.U o'
   ·exact hI.inj o o' x x' b S S' (by rw [← (hH o hc).1]; exact hx) (by rw [← (hH o' hc').1]; exact hx') (by rw [← (hH o hc).2]; exact hb) (by rw [← (hH o' hc').2]; exact hb')
   ·have := old o x hx hc b S hb
    have := hN o' x' hx' hc' b S' hb'
    omega
  ·by_cases hc' : C.U o'
   ·have := old o' x' hx' hc' b S' hb'
    have := hN o x hx hc b S hb
    omega
   ·exact hinj o o' x x' b S S' hx hx' hc hc' hb hb'
 ·intro b hb
  exact Nat.lt_of_lt_of_le (hI.Flt b hb) hg.size
theorem use_more {C : Cx} (hI : Inv C) (U' : Oid → Prop) (hU : ∀ o, C.U o → U' o) : Inv ⟨C.ρ, C.F, C.H, U', C.w⟩ ∧ Ext C ⟨C.ρ, C.F, C.H, U', C.w⟩ :=
 have hN : ∀ o x, C.H o = some x → ¬ C.U o → ∀ b S, C.ρ o = some (b, S) → C.w.heap.size ≤ b := fun o x hx hc => absurd (hI.used o x hx) hc
 ⟨inv_fresh hI (.refl _) hU (fun _ _ => ⟨rfl, rfl⟩) hN (fun o x hx hc => absurd (hI.used o x hx) hc) (fun o x hx hc => absurd (hI.used o x hx) hc)
  (fun o _ x _ _ _ _ hx _ hc _ _ _ => absurd (hI.used o x hx) hc), ext_fresh hI (.refl _) hU (fun _ _ => ⟨rfl, rfl⟩) hN⟩
theorem grow_world {C : Cx} (hI : Inv C) {w' : World} (hg : Grew C.w w') : Inv ⟨C.ρ, C.F, C.H, C.U, w'⟩ ∧ Ext C ⟨C.ρ, C.F, C.H, C.U, w'⟩ :=
 have hN : ∀ o x, C.H o = some x → ¬ C.U o → ∀ b S, C.ρ o = some (b, S) → C.w.heap.size ≤ b := fun o x hx hc => absurd (hI.used o x hx) hc
 ⟨inv_fresh hI hg (fun _ h => h) (fun _ _ => ⟨rfl, rfl⟩) hN (fun o x hx hc => absurd (hI.used o x hx) hc) (fun o x hx hc => absurd (hI.used o x hx) hc)
  (fun o _ x _ _ _ _ hx _ hc _ _ _ => absurd (hI.used o x hx) hc), ext_fresh hI hg (fun _ h => h) (fun _ _ => ⟨rfl, rfl⟩) hN⟩
theorem liftH_other (id : Nat) : ∀ (cs : List AV) (j : Nat) (H : Hp) (o : Oid), (o.1 ≠ id ∨ o.2 < j) → liftH id j cs H o = H o := by
 intro cs
 induction cs with
 | nil => intro j H o _; rfl
 | cons v r ih =>
  intro j H o ho
  simp only [liftH]
  rw [ih (j + 1) _ o (ho.imp (fun h => h) (fun h => by omega))]
  split
  ·simp only [upd]
   rw [if_neg]
   rintro rfl
   rcases ho with h | h
   ·exact h rfl
   ·simp at h
  ·rfl
theorem liftH_new (id : Nat) : ∀ (cs : List AV) (j : Nat) (H : Hp) (o : Oid) (x : Am.Obj), liftH id j cs H o = some x → H o = some x ∨ (o.1 = id ∧ j ≤ o.2 ∧ x = .vnil) := by
 intro cs
 induction cs with
 | nil => intro j H o x h; exact .inl h
 | cons v r ih =>
  intro j H o x h
  simp only [liftH] at h
  rcases ih (j + 1) _ o x h with k | ⟨h1, h2, h3⟩
  ·clear h
   split at k
   ·simp only [upd] at k
    split at k
    ·rename_i e; subst e; cases k; exact .inr ⟨rfl, Nat.le_refl _, rfl⟩
    ·exact .inl k
   ·exact .inl k
  ·exact .inr ⟨h1, by omega, h3⟩
theorem isNil_eq {v : AV} (h : isNil v = true) : v = .d (.sl [] 0 true (some true)) := by
 unfold isNil at h
 split at h
 ·rfl
 ·cases h
theorem liftCells_get (id : Nat) : ∀ (cs : List AV) (j k : Nat) (x : AV), (liftCells id j cs)[k]? = some x → ∃ y, cs[k]? = some y ∧ ((isNil y = true ∧ x = .osl (id, j + k) 0 0 1 0) ∨ (isNil y = false ∧ x = y)) := by
 intro cs
 induction cs with
 | nil => intro j k x h; simp [liftCells] at h
 | cons v r ih =>
  intro j k x h
  cases k with
  | zero =>
   simp only [liftCells, List.getElem?_cons_zero, Option.some.injEq, lift1] at h
   refine ⟨v, rfl, ?_⟩
   split at h
   ·exact .inl ⟨by assumption, by simpa using h.symm⟩
   ·exact .inr ⟨by simpa using ‹¬ isNil v = true›, h.symm⟩
  | succ k =>
   simp only [liftCells, List.getElem?_cons_succ] at h
   obtain ⟨y, hy, hc⟩ := ih (j + 1) k x h
   refine ⟨y, by simpa using hy, ?_⟩
   rw [show j + (k + 1) = j + 1 + k by omega]
   exact hc
theorem liftCells_length (id : Nat) : ∀ (cs : List AV) (j : Nat), (liftCells id j cs).length = cs.length := by
 intro cs
 induction cs with
 | nil => intro j; rfl
 | cons v r ih => intro j; simp [liftCells, ih]
open Classical in
theorem lift_sim {C : Cx} (hI : Inv C) {id : Nat} (hid : ∀ j, ¬ C.U (id, j + 1)) {cs : List AV} {arr : Array Value} (hc : CellsOk C cs arr) :
  ∃ C', C'.w = C.w ∧ C'.H = liftH id 1 cs C.H ∧ C'.F = C.F ∧ C'.ρ = (fun o => if C.U o then C.ρ o else none) ∧ (∀ o, C'.U o ↔ C.U o ∨ (o.1 = id ∧ 1 ≤ o.2)) ∧ Inv C' ∧ Ext C C' ∧ CellsOk C' (liftCells id 1 cs) arr := by
 have hU : ∀ o, C.U o → o.1 ≠ id ∨ o.2 < 1 := fun o ho => by
  by_cases h1 : o.1 = id
  ·right
   cases h2 : o.2 with
   | zero => omega
   | succ j => exact absurd ho (by have := hid j; rwa [show o = (id, j + 1) from Prod.ext h1 h2])
  ·exact .inl h1
 have hH : ∀ o, C.U o → liftH id 1 cs C.H o = C.H o ∧ (if C.U o then C.ρ o else none) = C.ρ o := fun o ho => ⟨liftH_other id cs 1 C.H o (hU o ho), if_pos ho⟩
 have hN : ∀ o x, liftH id 1 cs C.H o = some x → ¬ C.U o → ∀ b S, (if C.U o then C.ρ o else none) = some (b, S) → C.w.heap.size ≤ b := fun o x hx hc b S hb => by rw [if_neg hc] at hb; cases hb
 have hnew : ∀ o x, liftH id 1 cs C.H o = some x → ¬ C.U o → o.1 = id ∧ 1 ≤ o.2 ∧ x = .vnil := fun o x hx hc => (liftH_new id cs 1 C.H o x hx).resolve_left fun h => hc (hI.used o x h)
 have he := ext_fresh (U' := fun o => C.U o ∨ (o.1 = id ∧ 1 ≤ o.2)) hI (.refl _) (fun _ h => .inl h) hH hN
 have hi := inv_fresh (U' := fun o => C.U o ∨ (o.1 = id ∧ 1 ≤ o.2)) hI (.refl _) (fun _ h => .inl h) hH hN (fun o x hx hc => .inr ⟨(hnew o x hx hc).1, (hnew o x hx hc).2.1⟩)
  (fun o x hx hc => by obtain ⟨_, _, rfl⟩ := hnew o x hx hc; exact if_neg hc) (fun o o' x x' b S S' hx hx' hc hc' hb hb' => by simp only [if_neg hc] at hb; cases hb)
 refine ⟨⟨fun o => if C.U o then C.ρ o else none, C.F, liftH id 1 cs C.H, fun o => C.U o ∨ (o.1 = id ∧ 1 ≤ o.2), C.w⟩, rfl, rfl, rfl, rfl, fun o => Iff.rfl, hi, he, by rw [liftCells_length]; exact hc.1, hc.2.1, fun j x hx => ?_⟩
 obtain ⟨y, hy, hc2⟩ := liftCells_get id cs 1 j x hx
 have hy2 := hc.2.2 j y hy
 rcases hc2 with ⟨hn, rfl⟩ | ⟨hn, rfl⟩
 ·obtain rfl := isNil_eq hn
  have hd := hy2.dinv
  generalize arr.getD j undef = v at hd
  have hu : ¬ C.U (id, 1 + j) := by rw [Nat.add_comm]; exact hid j
  cases hd with
  | sl _ _ cap _ _ a vs hl hf h1 hr hcc hnl =>
   refine .osl _ _ _ _ _ cap a (Nat.zero_le _) (.inr ⟨rfl, by simp⟩) (fun x _ => Nat.zero_le _) (fun x hx _ => ?_)
   simp only [if_neg hu, SlAt]
   exact ⟨hf rfl, by simpa using hnl true rfl⟩
 ·exact hy2.ext hI he
end Go.Proofs.Ytiafeijkifpfaaa.Am

/-
 The abstract machine: loads, stores, new objects. No condition.
-/
namespace Go.Proofs.Ytiafeijkifpfaaa.Am
open Go
set_option linter.unusedVariables false
theorem add0 (b off : Nat) : (⟨b, 0, none⟩ : Addr).add off = ⟨b, off, none⟩ := by unfold Addr.add; split <;> simp_all
section
variable {P : Program} {C : Cx}
structure Mem (C : Cx) (a : Addr) (cs : List AV) (vs : Nat → Value) : Prop where
 rep : ∀ j x, cs[j]? = some x → Rep C x (vs j)
 one : ∀ j, j < cs.length → (vs j).oneCell' = true
 at_ : ∀ j, j < cs.length → C.w.cell? (a.add j) = some (vs j)
theorem Mem.drop {a : Addr} {cs : List AV} {vs : Nat → Value} (h : Mem C a cs vs) (k : Nat) : Mem C (a.add k) (cs.drop k) (fun j => vs (k + j)) :=
 ⟨fun j x hx => h.rep _ _ (by rwa [List.getElem?_drop] at hx), fun j hj => h.one _ (by simp at hj; omega), fun j hj => by rw [add_add]; exact h.at_ _ (by simp at hj; omega)⟩
theorem range_getD (n : Nat) (vs : Nat → Value) (j : Nat) (hj : j < n) : (((List.range n).map vs).toArray).getD j undef = vs j := by
 simp [hj]
theorem loadVar_sim {t : TypeId} {a : Addr} {cs : List AV} {vs : Nat → Value} {r : AV} (hm : Mem C a cs vs) (h : part P t cs 0 = some r) : ∃ z, (loadVar t a).run P C.w = .ok z C.w ∧ Rep C r z := by
 unfold part at h
 split at h
 ·rename_i ha
  simp only [Option.bind_eq_bind, Option.bind_eq_some_iff] at h
  obtain ⟨n, hn, h⟩ := h
  split at h
  ·rename_i hl
   cases h
   have hl2 : n ≤ cs.length := by omega
   refine ⟨.agg ((List.range n).map vs).toArray, ?_, mkAgg_rep ⟨by simp; omega, fun j hj => ?_, fun j x hx => ?_⟩⟩
   ·simp only [loadVar, Sem.run_bind, agg_run ha, Result.andThen_ok, if_true, size_run hn, run_loadCells (P := P) C.w a n vs (fun j hj => hm.at_ j (by omega)), Sem.run_pure]
   ·simp at hj
    rw [range_getD n vs j hj]
    exact hm.one j (by omega)
   ·rw [List.getElem?_take] at hx
    split at hx
    ·rename_i hj
     rw [range_getD n vs j hj]
     exact hm.rep j x (by simpa using hx)
    ·cases hx
  ·cases h
 ·rename_i ha
  have hl : 0 < cs.length := (List.getElem?_eq_some_iff.1 h).1
  have h0 := hm.at_ 0 hl
  have e : a.add 0 = a := by simp [Addr.add]
  rw [e] at h0
  refine ⟨vs 0, ?_, hm.rep 0 r h⟩
  simp only [loadVar, Sem.run_bind, agg_run ha, Result.andThen_ok, Bool.false_eq_true, if_false, run_load, h0]
 ·cases h
theorem part_drop {t : TypeId} {cs : List AV} {off : Nat} : part P t cs off = part P t (cs.drop off) 0 ∨ part P t cs off = none := by
 unfold part
 split
 ·cases tsize P t with
  | none => exact .inr rfl
  | some n =>
   simp only [Option.bind_eq_bind, Option.bind_some]
   by_cases h : off + n ≤ cs.length
   ·rw [if_pos h, if_pos (by simp; omega)]; simp
   ·rw [if_neg h]; exact .inr rfl
 ·simp
 ·exact .inr rfl
theorem row_mem (hI : Inv C) {o : Oid} {x : Am.Obj} (hx : C.H o = some x) (hrow : x.isRow = true) {b S : Nat} (hb : C.ρ o = some (b, S)) :
  ∃ c t, C.w.heap[b]? = some (.cells c t (0, 0)) ∧ c.size = S ∧ x.cs.length ≤ S ∧ Mem C ⟨b, 0, none⟩ x.cs (fun j => c.getD j undef) := by
 have mem : ∀ (c : Array Value) (t : TypeId) (cs : List AV), C.w.heap[b]? = some (.cells c t (0, 0)) → cs.length ≤ c.size → (∀ j, j < cs.length → (c.getD j undef).oneCell' = true) → (∀ j x, cs[j]? = some x → Rep C x (c.getD j undef)) → Mem C ⟨b, 0, none⟩ cs (fun j => c.getD j undef) := by
  intro c t cs hh hl h1 hr
  refine ⟨hr, h1, fun j hj => ?_⟩
  have e : (⟨b, 0, none⟩ : Addr).add j = ⟨b, j, none⟩ := by unfold Addr.add; split <;> simp_all
  rw [e]
  unfold World.cell?
  rw [hh]
  have : j < c.size := by omega
  simp [this]
 cases x with
 | cells cs =>
  obtain ⟨b', c, t, e, hh, hs, h1, hr⟩ := hI.obj o _ hx
  rw [hb] at e; cases e
  exact ⟨c, t, hh, hs, Nat.le_refl _, mem c t cs hh (by omega) h1 hr⟩
 | grow cs =>
  obtain ⟨b', S', c, t, e, hh, hs, hl, h1, hr⟩ := hI.obj o _ hx
  rw [hb] at e; cases e
  exact ⟨c, t, hh, hs, hl, mem c t cs hh (by omega) h1 hr⟩
 | frz cs =>
  obtain ⟨b', S', c, t, e, _, hh, hs, hl, h1, hr⟩ := hI.obj o _ hx
  rw [hb] at e; cases e
  exact ⟨c, t, hh, hs, hl, mem c t cs hh (by omega) h1 hr⟩
 | vnil => rw [show C.ρ o = none from hI.obj o _ hx] at hb; cases hb
 | mp es => cases hrow
 | rc => cases hrow
theorem load_sim {t : TypeId} {X r : AV} {u : Value} (hI : Inv C) (h : load P C.H t X = some r) (hu : Rep C X u) : ∃ z, (Instr.loadAt t u).run P C.w = .ok z C.w ∧ Rep C r z := by
 unfold load at h
 split at h
 ·rename_i cs
  simp only [Option.map_eq_some_iff] at h
  obtain ⟨x, hx, rfl⟩ := h
  cases hu.dinv with
  | dptr _ ad vs h1 hr hF hc =>
   have hm : Mem C ad (cs.map .d) vs := ⟨fun j y hy => by
    simp only [List.getElem?_map, Option.map_eq_some_iff] at hy
    obtain ⟨z, hz, rfl⟩ := hy
    exact .d _ _ (hr j z hz), fun j hj => h1 j (by simpa using hj), fun j hj => hc j (by simpa using hj)⟩
   obtain ⟨z, hz, hr⟩ := loadVar_sim hm (dpart_part hx)
   exact ⟨z, by simpa [Instr.loadAt, Instr.sureAddr] using hz, hr⟩
 ·rename_i o off ver
  simp only [Option.bind_eq_bind, Option.bind_eq_some_iff] at h
  obtain ⟨x, hx, h⟩ := h
  split at h
  ·rename_i hc
   simp only [Bool.and_eq_true, decide_eq_true_eq] at hc
   cases hu with
   | ptr _ _ _ a hU hv hs =>
    obtain ⟨b, S, hb, rfl⟩ := hs x hx hc.2
    obtain ⟨c, tt, hh, hcs, hl, hm⟩ := row_mem hI hx hc.1 hb
    have hm2 := hm.drop off
    have e : (⟨b, 0, none⟩ : Addr).add off = ⟨b, off, none⟩ := by unfold Addr.add; split <;> simp_all
    rw [e] at hm2
    rcases part_drop (P := P) (t := t) (cs := x.cs) (off := off) with hp | hp
    ·rw [hp] at h
     obtain ⟨z, hz, hr⟩ := loadVar_sim hm2 h
     exact ⟨z, by simpa [Instr.loadAt, Instr.sureAddr] using hz, hr⟩
    ·rw [hp] at h; cases h
  ·cases h
 ·cases h
structure Wrote (w w' : World) (b : Nat) : Prop where
 os : w'.os = w.os
 tape : w'.tape = w.tape
 output : w'.output = w.output
 size : w'.heap.size = w.heap.size
 block : ∀ k, k ≠ b → w'.heap[k]? = w.heap[k]?
theorem ext_write {o : Oid} {x x' : Am.Obj} {b S : Nat} {w' : World} (hI : Inv C) (hx : C.H o = some x) (hz : x.isFrz = false) (hb : C.ρ o = some (b, S)) (hw : Wrote C.w w' b) (hk : x.isRow = x'.isRow) (hl : x.cs.length ≤ x'.cs.length) :
  Ext C ⟨C.ρ, C.F, upd C.H o x', C.U, w'⟩ where
 U _ h := h
 F _ h := h
 F' _ h := .inl h
 os := hw.os
 tape := hw.tape
 output := hw.output
 size := Nat.le_of_eq hw.size.symm
 keep k hk hn := hw.block k fun e => hn ⟨o, x, S, hx, hz, by rw [e]; exact hb⟩
 live p x2 hp _ := by
  simp only [upd] at hp
  split at hp
  ·rename_i e; subst e; cases hp; exact ⟨x, hx, hk, hl, fun _ => rfl⟩
  ·exact ⟨x2, hp, rfl, Nat.le_refl _, fun _ => rfl⟩
 blk k hk := by
  obtain ⟨p, x2, S2, hp, hz2, hr⟩ := hk
  simp only [upd] at hp
  split at hp
  ·rename_i e; subst e; exact .inl ⟨p, x, S2, hx, hz, hr⟩
  ·exact .inl ⟨p, x2, S2, hp, hz2, hr⟩
theorem inv_write {o : Oid} {x x' : Am.Obj} {b S : Nat} {w' : World} (hI : Inv C) (hx : C.H o = some x) (hz : x.isFrz = false) (hb : C.ρ o = some (b, S)) (hw : Wrote C.w w' b) (hk : x.isRow = x'.isRow) (hl : x.cs.length ≤ x'.cs.length)
  (hobj : ObjOk ⟨C.ρ, C.F, upd C.H o x', C.U, w'⟩ o x') : Inv ⟨C.ρ, C.F, upd C.H o x', C.U, w'⟩ := by
 have he := ext_write hI hx hz hb hw hk hl
 have old : ∀ p x2, upd C.H o x' p = some x2 → ∃ x3, C.H p = some x3 := fun p x2 hp => by
  simp only [upd] at hp
  split at hp
  ·rename_i e; subst e; exact ⟨x, hx⟩
  ·exact ⟨x2, hp⟩
 constructor
 ·intro p x2 hp
  obtain ⟨x3, h3⟩ := old p x2 hp
  exact hI.used p x3 h3
 ·intro p x2 hp
  simp only [upd] at hp
  split at hp
  ·rename_i e; subst e; cases hp; exact hobj
  ·rename_i e
   refine (hI.obj p x2 hp).keep hI he rfl fun k S2 hk => hw.block k fun e2 => e ?_
   subst e2
   exact hI.inj p o x2 x k S2 S hp hx hk hb
 ·intro p x2 k S2 hp hz2 hk hF
  simp only [upd] at hp
  split at hp
  ·rename_i e; subst e; exact hI.notF p x k S2 hx hz hk hF
  ·exact hI.notF p x2 k S2 hp hz2 hk hF
 ·intro p p' x2 x2' k S2 S2' hp hp' hk hk'
  obtain ⟨x3, h3⟩ := old p x2 hp
  obtain ⟨x4, h4⟩ := old p' x2' hp'
  exact hI.inj p p' x3 x4 k S2 S2' h3 h4 hk hk'
 ·intro k hk
  show k < w'.heap.size
  rw [hw.size]
  exact hI.Flt k hk
theorem wrote_setRow (w : World) (b : Nat) (c : Array Value) : Wrote w (w.setRow b c) b :=
 ⟨rfl, rfl, rfl, by simp [World.setRow], fun k hk => by
  simp only [World.setRow, Array.getElem?_modify]
  rw [if_neg (by omega)]⟩
theorem row_splice (hI : Inv C) {o : Oid} {x : Am.Obj} (hx : C.H o = some x) (hrow : x.isRow = true) (hz : x.isFrz = false) {b S : Nat} (hb : C.ρ o = some (b, S)) {c : Array Value} {t : TypeId} (hh : C.w.heap[b]? = some (.cells c t (0, 0)))
  {off : Nat} {xs : List AV} {vs : Array Value} (hv : CellsOk C xs vs) (hl : off + xs.length ≤ x.cs.length) :
  Inv ⟨C.ρ, C.F, upd C.H o (x.put (splice x.cs off xs)), C.U, C.w.setRow b (c.toList.take off ++ vs.toList ++ c.toList.drop (off + vs.size)).toArray⟩ ∧
  Ext C ⟨C.ρ, C.F, upd C.H o (x.put (splice x.cs off xs)), C.U, C.w.setRow b (c.toList.take off ++ vs.toList ++ c.toList.drop (off + vs.size)).toArray⟩ := by
 have hw := wrote_setRow C.w b (c.toList.take off ++ vs.toList ++ c.toList.drop (off + vs.size)).toArray
 have hk : x.isRow = (x.put (splice x.cs off xs)).isRow := by cases x <;> rfl
 have hcs : (x.put (splice x.cs off xs)).cs = splice x.cs off xs := by cases x <;> first | rfl | (cases hrow; done) | (cases hz; done) | (rw [show C.ρ o = none from hI.obj o _ hx] at hb; cases hb)
 have hl2 : x.cs.length ≤ (x.put (splice x.cs off xs)).cs.length := by rw [hcs, splice_length _ _ _ hl]; exact Nat.le_refl _
 have he := ext_write hI hx hz hb hw hk hl2
 refine ⟨inv_write hI hx hz hb hw hk hl2 ?_, he⟩
 obtain ⟨c', t', hh', hS, hlS, hm⟩ := row_mem hI hx hrow hb
 rw [hh] at hh'
 cases hh'
 have hvs := hv.1
 have hnew : ∀ C' : Cx, C'.w = C.w.setRow b (c.toList.take off ++ vs.toList ++ c.toList.drop (off + vs.size)).toArray → C'.w.heap[b]? = some (.cells (c.toList.take off ++ vs.toList ++ c.toList.drop (off + vs.size)).toArray t (0, 0)) := by
  intro C' e
  rw [e, setRow_heap C.w b c _ t (0, 0) hh]
 have hsize : (c.toList.take off ++ vs.toList ++ c.toList.drop (off + vs.size)).toArray.size = S := by simp; omega
 have hget : ∀ k, k < x.cs.length → (c.toList.take off ++ vs.toList ++ c.toList.drop (off + vs.size)).toArray.getD k undef = if off ≤ k ∧ k < off + vs.size then vs.getD (k - off) undef else c.getD k undef := by
  intro k hk
  rw [Array.getD_eq_getD_getElem?, List.getElem?_toArray]
  by_cases h1 : k < off
  ·rw [if_neg (by omega), List.append_assoc, List.getElem?_append_left (by simp; omega), List.getElem?_take, if_pos h1]; simp
  ·by_cases h2 : k < off + vs.size
   ·rw [if_pos (by omega), List.getElem?_append_left (by simp; omega), List.getElem?_append_right (by simp; omega)]
    have : k - (c.toList.take off).length = k - off := by simp; omega
    rw [this]; simp
   ·rw [if_neg (by omega), List.getElem?_append_right (by simp; omega), List.getElem?_drop]
    have : off + vs.size + (k - (c.toList.take off ++ vs.toList).length) = k := by simp; omega
    rw [this]; simp
 have hone : ∀ k, k < (splice x.cs off xs).length → ((c.toList.take off ++ vs.toList ++ c.toList.drop (off + vs.size)).toArray.getD k undef).oneCell' = true := by
  intro k hk
  rw [splice_length _ _ _ hl] at hk
  rw [hget k hk]
  split
  ·exact hv.2.1 _ (by omega)
  ·exact hm.one k hk
 have hrep : ∀ k y, (splice x.cs off xs)[k]? = some y → Rep ⟨C.ρ, C.F, upd C.H o (x.put (splice x.cs off xs)), C.U, C.w.setRow b (c.toList.take off ++ vs.toList ++ c.toList.drop (off + vs.size)).toArray⟩ y ((c.toList.take off ++ vs.toList ++ c.toList.drop (off + vs.size)).toArray.getD k undef) := by
  intro k y hy
  have hk : k < x.cs.length := by have := (List.getElem?_eq_some_iff.1 hy).1; rwa [splice_length _ _ _ hl] at this
  rw [hget k hk]
  rw [splice_get _ _ _ hl] at hy
  split at hy
  ·rw [if_pos (by omega)]
   exact (hv.2.2 _ _ hy).ext hI he
  ·rw [if_neg (by omega)]
   exact (hm.rep _ _ hy).ext hI he
 cases x with
 | cells cs =>
  have hlen : (splice (Am.Obj.cells cs).cs off xs).length = cs.length := splice_length _ _ _ hl
  have hS2 : S = cs.length := by
   obtain ⟨b', c', t', e, _, hs, _⟩ := hI.obj o _ hx
   rw [hb] at e; cases e; rfl
  exact ⟨b, _, t, by show C.ρ o = _; rw [hlen, ← hS2]; exact hb, hnew _ rfl, by rw [hsize, hlen]; exact hS2, hone, hrep⟩
 | grow cs =>
  have hlen : (splice (Am.Obj.grow cs).cs off xs).length = cs.length := splice_length _ _ _ hl
  exact ⟨b, S, _, t, hb, hnew _ rfl, hsize, by rw [hlen]; exact hlS, hone, hrep⟩
 | frz cs => cases hz
 | vnil => rw [show C.ρ o = none from hI.obj o _ hx] at hb; cases hb
 | mp es => cases hrow
 | rc => cases hrow
theorem storeO_sim {t : TypeId} {id : Nat} {A V : AV} {H' : Hp} {ua uv : Value} (hI : Inv C) (hid : ∀ j, ¬ C.U (id, j + 1)) (h : storeO P C.H id t A V = some H') (ha : Rep C A ua) (hv : Rep C V uv) :
  ∃ C', (Instr.storeAt t ua uv).run P C.w = .ok () C'.w ∧ C'.H = H' ∧ Inv C' ∧ Ext C C' ∧ (∀ o, C'.U o → C.U o ∨ o.1 = id) := by
 unfold storeO at h
 simp only [Option.bind_eq_bind, Option.bind_eq_some_iff] at h
 obtain ⟨n, hn, h⟩ := h
 split at h
 ·rename_i o off ver
  split at h
  ·rename_i hc
   obtain ⟨hc1, hc2⟩ := hc
   have ht : isTup V = false := by
    cases V with
    | d x => cases x <;> first | rfl | (simp [cellsOf] at hc1; omega)
    | _ => first | rfl | (simp [cellsOf] at hc1; omega)
   have hcv := cellsOf_ok hv ht
   obtain ⟨C1, hw1, hH1, hF1, hρ1, hU1, hI1, he1, hc1v⟩ := lift_sim hI hid hcv
   unfold Hput at h
   simp only [Option.bind_eq_bind, Option.bind_eq_some_iff] at h
   obtain ⟨x, hx, h⟩ := h
   rw [← hH1] at hx
   split at h
   ·rename_i hq
    simp only [Bool.and_eq_true, decide_eq_true_eq, Bool.not_eq_true'] at hq
    obtain ⟨⟨⟨hq1, hqz⟩, hq2⟩, hq3⟩ := hq
    have hq : (x.isRow = true ∧ x.cs.length = ver) ∧ off + (liftCells id 1 (cellsOf V)).length ≤ ver := ⟨⟨hq1, hq2⟩, hq3⟩
    cases h
    have ha1 := ha.ext hI he1
    cases ha1 with
    | ptr _ _ _ a hU hvv hs =>
     obtain ⟨b, S, hb, rfl⟩ := hs x hx hq.1.2
     obtain ⟨c, tt, hh, hS, hlS, hm⟩ := row_mem hI1 hx hq.1.1 hb
     have hlen : (liftCells id 1 (cellsOf V)).length = uv.cells.size := hc1v.1.symm
     have hl : off + (liftCells id 1 (cellsOf V)).length ≤ x.cs.length := by rw [hq.1.2]; exact hq.2
     obtain ⟨hI2, he2⟩ := row_splice hI1 hx hq.1.1 hqz hb hh hc1v hl
     refine ⟨_, ?_, by rw [← hH1], hI2, he1.trans he2, fun o ho => ?_⟩
     ·have hone : ∀ v ∈ uv.cells.toList, v.oneCell' = true := by
       intro v hv
       obtain ⟨j, hj, rfl⟩ := List.getElem_of_mem hv
       have := hcv.2.1 j (by simpa using hj)
       rw [Array.getD_eq_getD_getElem?, Array.getElem?_eq_getElem (by simpa using hj)] at this
       simpa using this
      have hst := run_storeCells_at P b off tt uv.cells.toList 0 c C1.w hh (by simp; omega) hone
      simp only [Nat.add_zero, Array.length_toList] at hst
      have hsz : uv.cells.size = n := by rw [hcv.1]; exact hc1
      simp only [Instr.storeAt, Instr.sureAddr, Sem.run_bind, Sem.run_pure, Result.andThen_ok, storeVar, size_run hn, hsz, ne_eq, not_true_eq_false, if_false, ← hw1]
      rw [hst]
      rw [hsz]
     ·rcases (hU1 o).1 ho with h | h
      ·exact .inl h
      ·exact .inr h.1
   ·cases h
  ·cases h
 ·cases h
end
end Go.Proofs.Ytiafeijkifpfaaa.Am

/-
 The abstract machine: new objects; slices' pieces and elements. No condition.
-/
namespace Go.Proofs.Ytiafeijkifpfaaa.Am
open Go
set_option linter.unusedVariables false
section
variable {P : Program} {C : Cx}
theorem newRow_ok (hI : Inv C) {id : Nat} (hid : ¬ C.U (id, 0)) {cs : List AV} {arr : Array Value} {t : TypeId} {ob : Am.Obj} (hob : (ob = .cells cs ∧ arr.size = cs.length) ∨ ob = .grow cs) (hl : cs.length ≤ arr.size)
  (h1 : ∀ j, j < cs.length → (arr.getD j undef).oneCell' = true) (hr : ∀ j x, cs[j]? = some x → Rep C x (arr.getD j undef)) {w' : World} {b : Nat} (hg : Grew C.w w') (hb : C.w.heap.size ≤ b) (hw : w'.heap[b]? = some (.cells arr t (0, 0))) :
  Inv ⟨fun o => if o = (id, 0) then some (b, arr.size) else C.ρ o, C.F, upd C.H (id, 0) ob, fun o => C.U o ∨ o = (id, 0), w'⟩ ∧
  Ext C ⟨fun o => if o = (id, 0) then some (b, arr.size) else C.ρ o, C.F, upd C.H (id, 0) ob, fun o => C.U o ∨ o = (id, 0), w'⟩ := by
 have ne : ∀ o, C.U o → o ≠ (id, 0) := fun o ho e => hid (e ▸ ho)
 have hH : ∀ o, C.U o → upd C.H (id, 0) ob o = C.H o ∧ (if o = (id, 0) then some (b, arr.size) else C.ρ o) = C.ρ o := fun o ho => ⟨if_neg (ne o ho), if_neg (ne o ho)⟩
 have hnew : ∀ o x, upd C.H (id, 0) ob o = some x → ¬ C.U o → o = (id, 0) ∧ x = ob := fun o x hx hc => by
  simp only [upd] at hx
  split at hx
  ·rename_i e; cases hx; exact ⟨e, rfl⟩
  ·exact absurd (hI.used o x hx) hc
 have hN : ∀ o x, upd C.H (id, 0) ob o = some x → ¬ C.U o → ∀ b' S, (if o = (id, 0) then some (b, arr.size) else C.ρ o) = some (b', S) → C.w.heap.size ≤ b' := fun o x hx hc b' S e => by
  rw [if_pos (hnew o x hx hc).1] at e; cases e; exact hb
 have he := ext_fresh (U' := fun o => C.U o ∨ o = (id, 0)) hI hg (fun _ h => .inl h) hH hN
 refine ⟨inv_fresh hI hg (fun _ h => .inl h) hH hN (fun o x hx hc => .inr (hnew o x hx hc).1) (fun o x hx hc => ?_) (fun o o' x x' b' S S' hx hx' hc hc' _ _ => by rw [(hnew o x hx hc).1, (hnew o' x' hx' hc').1]), he⟩
 obtain ⟨rfl, rfl⟩ := hnew o x hx hc
 rcases hob with ⟨rfl, hs⟩ | rfl
 ·exact ⟨b, arr, t, by simp [hs], hw, hs, h1, fun j x hx => (hr j x hx).ext hI he⟩
 ·exact ⟨b, arr.size, arr, t, by simp, hw, rfl, hl, h1, fun j x hx => (hr j x hx).ext hI he⟩
structure Stepped (C C' : Cx) (w' : World) (H' : Hp) (id : Nat) : Prop where
 w : C'.w = w'
 H : C'.H = H'
 inv : Inv C'
 ext : Ext C C'
 used : ∀ o, C'.U o → C.U o ∨ o.1 = id
theorem alloc_block (w : World) (ob : Go.Obj) : (w.alloc ob).heap[w.heap.size]? = some ob := by
 show (w.heap.push ob)[w.heap.size]? = some ob
 simp
theorem alloc_sim {t : TypeId} {id : Nat} {cs : List AV} {v : Value} (hI : Inv C) (hid : ∀ j, ¬ C.U (id, j)) (hc : CellsOk C cs v.cells) :
  ∃ C' : Cx, ∃ z, (do pure (.pointer (some (← newVar t v))) : Sem Value).run P C.w = .ok z C'.w ∧ Rep C' (.ptr (id, 0) 0 cs.length) z ∧ Stepped C C' C'.w (upd (liftH id 1 cs C.H) (id, 0) (.cells (liftCells id 1 cs))) id := by
 obtain ⟨C1, hw1, hH1, hF1, hρ1, hU1, hI1, he1, hc1⟩ := lift_sim hI (fun j => hid (j + 1)) hc
 have hid1 : ¬ C1.U (id, 0) := fun h => by
  rcases (hU1 _).1 h with h | ⟨_, h⟩
  ·exact hid 0 h
  ·simp at h
 obtain ⟨hI2, he2⟩ := newRow_ok hI1 hid1 (cs := liftCells id 1 cs) (arr := v.cells) (t := t) (ob := .cells (liftCells id 1 cs)) (.inl ⟨rfl, hc1.1⟩) (Nat.le_of_eq hc1.1.symm) (fun j hj => hc1.2.1 j (by rw [hc1.1]; exact hj)) hc1.2.2
  (Grew.alloc C1.w (.cells v.cells t)) (Nat.le_refl _) (alloc_block _ _)
 refine ⟨_, .pointer (some ⟨C1.w.heap.size, 0, none⟩), ?_, ?_, ⟨rfl, by rw [← hH1], hI2, he1.trans he2, ?_⟩⟩
 ·simp only [newVar, newRow, Sem.run_bind, run_newObj, Result.andThen_ok, Sem.run_pure, hw1]
  rfl
 ·have hl : cs.length = (liftCells id 1 cs).length := (liftCells_length id cs 1).symm
  refine .ptr _ _ _ _ (.inr rfl) (fun x hx => ?_) (fun x hx e => ⟨_, _, if_pos rfl, rfl⟩)
  simp only [upd, if_pos] at hx
  cases hx
  rw [hl]
  exact Nat.le_refl _
 ·rintro o (h | rfl)
  ·rcases (hU1 o).1 h with h | h
   ·exact .inl h
   ·exact .inr h.1
  ·exact .inr rfl
theorem replicate_flatten_get {α : Type} (z : List α) (n j : Nat) (hz : 0 < z.length) (hj : j < n * z.length) : (List.replicate n z).flatten[j]? = z[j % z.length]? := by
 induction n generalizing j with
 | zero => simp at hj
 | succ n ih =>
  rw [List.replicate_succ, List.flatten_cons]
  by_cases h : j < z.length
  ·rw [List.getElem?_append_left h, Nat.mod_eq_of_lt h]
  ·have e : j % z.length = (j - z.length) % z.length := Nat.mod_eq_sub_mod (by omega)
   rw [List.getElem?_append_right (by omega), ih (j - z.length) (by rw [Nat.succ_mul] at hj; omega), e]
theorem replicate_flatten_length {α : Type} (z : List α) (n : Nat) : (List.replicate n z).flatten.length = n * z.length := by simp
theorem zeros_ok {e : TypeId} {z : List AV} {n : Nat} (hz : zeroCells P e = some z) (hn : z.length = n) (h0 : 0 < n) (k : Nat) :
  ∃ v, (zeroValue e).run P C.w = .ok v C.w ∧ v.cells.size = n ∧ CellsOk C (List.replicate k z).flatten ((Array.range (k * n)).map (v.cells[· % v.cells.size]!)) := by
 obtain ⟨v, hv, rfl, h1⟩ := zero_run hz C.w
 have hs : v.cells.size = n := by simpa using hn
 have hlen : (v.cells.toList.map liftV).length = n := hn
 have hk := lift_ok (C := C) v.cells h1
 have hget : ∀ j, j < k * n → ((Array.range (k * n)).map (v.cells[· % v.cells.size]!)).getD j undef = v.cells.getD (j % n) undef := by
  intro j hj
  have hm : j % n < n := Nat.mod_lt _ h0
  have hm2 : j % n < v.cells.size := by omega
  have e : v.cells[j % n]! = v.cells[j % n] := getElem!_pos v.cells (j % n) hm2
  simp [hj, hs, Array.getElem?_eq_getElem hm2, e]
 refine ⟨v, hv, hs, by simp [hlen], fun j hj => ?_, fun j x hx => ?_⟩
 ·simp at hj
  rw [hget j hj]
  exact hk.2.1 _ (by rw [hs]; exact Nat.mod_lt _ h0)
 ·have hj : j < k * n := by have := (List.getElem?_eq_some_iff.1 hx).1; rwa [replicate_flatten_length, hlen] at this
  rw [replicate_flatten_get _ _ _ (by omega) (by rw [hlen]; exact hj), hlen] at hx
  rw [hget j hj]
  exact hk.2.2 _ _ hx
theorem tarr_und {t e : TypeId} {m : Nat} (h : tarr P t = some (m, e)) : P.underlying t = some (.array m e) := by
 unfold tarr at h
 split at h
 ·rename_i he; cases h; exact he
 ·cases h
theorem add_at (b off n : Nat) : (⟨b, off, none⟩ : Addr).add n = ⟨b, off + n, none⟩ := by
 unfold Addr.add
 split
 ·rename_i h0; simp [h0]
 ·rfl
theorem idxArr_sim {t e : TypeId} {m : Nat} {X I r : AV} {u i : Value} (hI : Inv C) (ht : P.underlying t = some (.array m e)) (h : idxArr P m e X I = some r) (hu : Rep C X u) (hi : Rep C I i) : ∃ z, (Instr.indexAt t u i).run P C.w = .ok z C.w ∧ Rep C r z := by
 unfold idxArr at h
 simp only [Option.bind_eq_bind, Option.bind_eq_some_iff] at h
 obtain ⟨n, hn, h⟩ := h
 split at h
 ·rename_i cs k
  split at h
  ·rename_i hc
   obtain ⟨hk0, hk1, hk2⟩ := hc
   cases h
   cases hi.dinv
   cases hu.dinv with
   | dptr _ ad vs h1 hr hF hcell =>
    refine ⟨.pointer (some (ad.add (k.toNat * n))), ?_, .d _ _ (.dptr _ _ (fun j => vs (k.toNat * n + j)) (fun j hj => h1 _ (by simp at hj; omega)) (fun j x hx => hr _ _ (by rwa [List.getElem?_drop] at hx)) (by rw [add_block]; exact hF) (fun j hj => ?_))⟩
    ·simp only [Instr.indexAt, Instr.sureAddr, asIntOf, Sem.run_bind, Sem.run_pure, Result.andThen_ok, und_run ht, Sem.run_ite, if_pos (show 0 ≤ k ∧ k < (m : Int) from ⟨hk0, hk1⟩), size_run hn]
    ·rw [add_add]; exact hcell _ (by simp at hj; omega)
  ·cases h
 ·rename_i o off ver k
  split at h
  ·rename_i hc
   obtain ⟨hk0, hk1⟩ := hc
   cases h
   cases hi.dinv
   cases hu with
   | ptr _ _ _ a hU hv hs =>
    refine ⟨.pointer (some (a.add (k.toNat * n))), ?_, .ptr _ _ _ _ hU hv fun x hx e => ?_⟩
    ·simp only [Instr.indexAt, Instr.sureAddr, asIntOf, Sem.run_bind, Sem.run_pure, Result.andThen_ok, und_run ht, Sem.run_ite, if_pos (show 0 ≤ k ∧ k < (m : Int) from ⟨hk0, hk1⟩), size_run hn]
    ·obtain ⟨b, S, hb, rfl⟩ := hs x hx e
     exact ⟨b, S, hb, add_at _ _ _⟩
  ·cases h
 ·cases h
theorem idxAddr_sim {t : TypeId} {X I r : AV} {u i : Value} (hI : Inv C) (h : idxAddr P C.H t X I = some r) (hu : Rep C X u) (hi : Rep C I i) : ∃ z, (Instr.indexAt t u i).run P C.w = .ok z C.w ∧ Rep C r z := by
 unfold idxAddr at h
 split at h
 ·rename_i m e hta
  exact idxArr_sim hI (tarr_und hta) h hu hi
 simp only [Option.bind_eq_bind, Option.bind_eq_some_iff] at h
 obtain ⟨e, he, n, hn, h⟩ := h
 have hue := elem_und he
 split at h
 ·rename_i cs len full nl k
  split at h
  ·rename_i hc
   obtain ⟨hk0, hk1, hk2⟩ := hc
   cases h
   cases hi.dinv
   cases hu.dinv with
   | sl _ _ cap _ _ a vs hl hf h1 hr hcc hnl =>
    obtain ⟨ad, rfl, hF, hcell⟩ := hcc (by intro h; subst h; simp at hk2)
    refine ⟨.pointer (some (ad.add (k.toNat * n))), ?_, .d _ _ (.dptr _ _ (fun j => vs (k.toNat * n + j)) (fun j hj => h1 _ (by simp at hj; omega)) (fun j x hx => hr _ _ (by rwa [List.getElem?_drop] at hx)) (by rw [add_block]; exact hF) (fun j hj => ?_))⟩
    ·simp only [Instr.indexAt, asIntOf, Sem.run_bind, Sem.run_pure, Result.andThen_ok, und_run hue, Sem.run_ite, if_pos (show 0 ≤ k ∧ k < (len : Int) from ⟨hk0, hk1⟩), size_run hn]
    ·rw [add_add]; exact hcell _ (by simp at hj; omega)
  ·cases h
 ·rename_i o off len sz ver k
  simp only [Option.bind_eq_some_iff] at h
  obtain ⟨y, hy, h⟩ := h
  split at h
  ·rename_i hc
   simp only [Bool.and_eq_true, decide_eq_true_eq] at hc
   obtain ⟨⟨⟨⟨hrow, hver⟩, hsz⟩, hk0⟩, hk1⟩ := hc
   cases h
   cases hi.dinv
   cases hu with
   | osl _ _ _ _ _ cap A hl hU hv hs =>
    have hsl := hs y hy hver
    unfold SlAt at hsl
    split at hsl
    ·omega
    ·rename_i b S hb
     obtain ⟨hS, hA, _⟩ := hsl
     have hA := hA (by omega)
     subst hA
     refine ⟨.pointer (some ((⟨b, off, none⟩ : Addr).add (k.toNat * n))), ?_, .ptr _ _ _ _ hU hv fun x hx e => ⟨b, S, hb, ?_⟩⟩
     ·simp only [Instr.indexAt, asIntOf, Sem.run_bind, Sem.run_pure, Result.andThen_ok, und_run hue, Sem.run_ite, if_pos (show 0 ≤ k ∧ k < (len : Int) from ⟨hk0, hk1⟩), size_run hn]
     ·unfold Addr.add
      split
      ·rename_i h0; simp [h0]
      ·rfl
  ·cases h
 ·rename_i o off len sz ver k
  simp only [Option.bind_eq_some_iff] at h
  obtain ⟨y, hy, h⟩ := h
  split at h
  ·rename_i hc
   simp only [Bool.and_eq_true, decide_eq_true_eq] at hc
   obtain ⟨⟨⟨⟨hrow, hver⟩, hsz⟩, hk0⟩, hk1⟩ := hc
   cases h
   cases hi.dinv
   cases hu with
   | vsl _ _ _ _ _ cap A hl hU hv hs =>
    obtain ⟨b, S, hb, rfl⟩ := hs y hy hver
    refine ⟨.pointer (some ((⟨b, off, none⟩ : Addr).add (k.toNat * n))), ?_, .ptr _ _ _ _ hU hv fun x hx e => ⟨b, S, hb, add_at _ _ _⟩⟩
    simp only [Instr.indexAt, asIntOf, Sem.run_bind, Sem.run_pure, Result.andThen_ok, und_run hue, Sem.run_ite, if_pos (show 0 ≤ k ∧ k < (len : Int) from ⟨hk0, hk1⟩), size_run hn]
  ·cases h
 ·cases h
end
end Go.Proofs.Ytiafeijkifpfaaa.Am

/-
 The abstract machine: slices' pieces, slices made, objects read as data. No condition.
-/
namespace Go.Proofs.Ytiafeijkifpfaaa.Am
open Go
set_option linter.unusedVariables false
section
variable {P : Program} {C : Cx}
theorem bound_run {d y : Nat} {X : AV} {u : Value} {n : Nat} {code : BoundsCode} (h : bound d (some X) = some n) (hu : Rep C X u) (hy : n ≤ y) (w : World) : (Instr.sliceBound u y code).run P w = .ok n w := by
 unfold bound at h
 split at h
 ·rename_i h1; cases h1
 ·rename_i k h1
  cases h1
  split at h
  ·rename_i hk
   cases h
   cases hu.dinv
   simp only [Instr.sliceBound, asIntOf, Sem.run_bind, Sem.run_pure, Result.andThen_ok, Sem.run_ite, if_pos (show 0 ≤ k ∧ k ≤ (y : Int) by omega)]
  ·cases h
 ·cases h
def RepO (C : Cx) : Option AV → Option Value → Prop
 | none, none => True
 | some X, some u => Rep C X u
 | _, _ => False
theorem bounds_run {isSlice : Bool} {len cap l h m d : Nat} {lo hi mx : Option AV} {ulo uhi umx : Option Value} (hlo : bound 0 lo = some l) (hhi : bound len hi = some h) (hmx : bound d mx = some m)
  (r1 : RepO C lo ulo) (r2 : RepO C hi uhi) (r3 : RepO C mx umx) (hm : mx.isSome = true → hi.isSome = true) (h1 : l ≤ h) (h2 : mx.isSome = true → h ≤ m ∧ m ≤ cap) (h3 : h ≤ cap) (w : World) :
  (Instr.sliceBounds isSlice len cap ulo uhi umx).run P w = .ok (l, h, if mx.isSome then m else cap) w := by
 unfold Instr.sliceBounds
 cases mx with
 | none =>
  cases umx with
  | some => exact r3.elim
  | none =>
   cases hi with
   | none =>
    cases uhi with
    | some => exact r2.elim
    | none =>
     simp only [bound, Option.some.injEq] at hhi
     subst hhi
     cases lo with
     | none =>
      cases ulo with
      | some => exact r1.elim
      | none => simp only [bound, Option.some.injEq] at hlo; subst hlo; simp
     | some X =>
      cases ulo with
      | none => exact r1.elim
      | some u => simp [bound_run (P := P) hlo r1 h1]
   | some Y =>
    cases uhi with
    | none => exact r2.elim
    | some v =>
     cases lo with
     | none =>
      cases ulo with
      | some => exact r1.elim
      | none => simp only [bound, Option.some.injEq] at hlo; subst hlo; simp [bound_run (P := P) hhi r2 h3]
     | some X =>
      cases ulo with
      | none => exact r1.elim
      | some u => simp [bound_run (P := P) hlo r1 h1, bound_run (P := P) hhi r2 h3]
 | some M =>
  obtain ⟨q1, q2⟩ := h2 rfl
  cases umx with
  | none => exact r3.elim
  | some um =>
   cases hi with
   | none => cases hm rfl
   | some Y =>
    cases uhi with
    | none => exact r2.elim
    | some v =>
     cases lo with
     | none =>
      cases ulo with
      | some => exact r1.elim
      | none => simp only [bound, Option.some.injEq] at hlo; subst hlo; simp [bound_run (P := P) hhi r2 q1, bound_run (P := P) hmx r3 q2]
     | some X =>
      cases ulo with
      | none => exact r1.elim
      | some u => simp [bound_run (P := P) hlo r1 h1, bound_run (P := P) hhi r2 q1, bound_run (P := P) hmx r3 q2]
theorem tkind7 {t : TypeId} (h : tkind P t = 7) : P.underlying t = some .string := by unfold tkind at h; split at h <;> first | assumption | cases h
theorem sliceD_sim {t : TypeId} {X r : AV} {u : Value} {lo hi mx : Option AV} {ulo uhi umx : Option Value} (hI : Inv C) (h : sliceD P C.H t X lo hi mx = some r) (hu : Rep C X u) (r1 : RepO C lo ulo) (r2 : RepO C hi uhi) (r3 : RepO C mx umx) :
  ∃ z, (Instr.sliceAt t u ulo uhi umx).run P C.w = .ok z C.w ∧ Rep C r z := by
 unfold sliceD at h
 split at h
 ·rename_i cs len full nl
  simp only [Option.bind_eq_bind, Option.bind_eq_some_iff] at h
  obtain ⟨e, he, n, hn, h', hh, l, hl, m, hm, h⟩ := h
  split at h
  ·rename_i hc
   obtain ⟨c1, c2, c3, c4⟩ := hc
   cases h
   cases hu.dinv with
   | sl _ _ cap _ _ a vs hlc hf h1 hr hcc hnl =>
    have hb := bounds_run (P := P) (isSlice := true) (cap := cap) hl hh hm r1 r2 r3 c4 c1 (fun _ => ⟨by omega, by omega⟩) (by omega) C.w
    refine ⟨.slice (if (if mx.isSome then m else cap) = l then a else a.map (·.add (l * n))) (h' - l) ((if mx.isSome then m else cap) - l), ?_, .d _ _ (.sl _ _ _ _ _ _ (fun j => vs (l * n + j)) ?_ ?_ (fun j hj => h1 _ (by simp at hj; omega)) (fun j x hx => ?_) (fun hne => ?_) (fun b hb => ?_))⟩
    ·simp only [Instr.sliceAt, Sem.run_bind, und_run (elem_und he), Result.andThen_ok, Instr.slice, hb, size_run hn, Sem.run_pure]
    ·split <;> omega
    ·intro hfull
     simp only [Bool.or_eq_true, Bool.and_eq_true, decide_eq_true_eq] at hfull
     rcases hfull with hq | ⟨hq, hq2⟩
     ·rw [if_pos hq]; omega
     ·have := hf hq
      split <;> omega
    ·rw [List.getElem?_take] at hx
     split at hx
     ·rw [List.getElem?_drop] at hx; exact hr _ _ hx
     ·cases hx
    ·have hlen : 0 < ((cs.drop (l * n)).take ((h' - l) * n)).length := by
      cases hq : (cs.drop (l * n)).take ((h' - l) * n) with
      | nil => exact absurd hq hne
      | cons => simp
     have hmm : (if mx.isSome = true then m else cap) ≠ l := by
      intro e
      have : h' - l = 0 := by split at e <;> omega
      rw [this] at hlen
      simp at hlen
     obtain ⟨ad, rfl, hF, hcell⟩ := hcc (by intro e; subst e; simp at hlen)
     refine ⟨ad.add (l * n), by rw [if_neg hmm]; rfl, by rw [add_block]; exact hF, fun j hj => ?_⟩
     rw [add_add]
     exact hcell _ (by simp at hj; omega)
    ·have hq : ∀ (p : Prop) [Decidable p] (f : Addr → Addr), (if p then a else a.map f).isNone = a.isNone := by intro p _ f; split <;> simp
     exact (hq _ _).trans (hnl b hb)
  ·cases h
 ·rename_i s
  split at h
  ·rename_i hk
   simp only [Option.bind_eq_bind, Option.bind_eq_some_iff] at h
   obtain ⟨h', hh, l, hl, h⟩ := h
   split at h
   ·rename_i hc
    obtain ⟨c1, c2, c3⟩ := hc
    cases h
    cases hu.dinv
    cases mx with
    | some => cases c3
    | none =>
     cases umx with
     | some => exact r3.elim
     | none =>
      have hb := bounds_run (P := P) (isSlice := false) (cap := s.size) (mx := none) (umx := none) (d := 0) (m := 0) hl hh rfl r1 r2 trivial (by simp) c1 (by simp) c2 C.w
      simp only [Option.isSome_none, Bool.false_eq_true, if_false] at hb
      exact ⟨.string (s.extract l h'), by simp only [Instr.sliceAt, Sem.run_bind, und_run (tkind7 hk), Result.andThen_ok, Instr.slice, Option.isSome_none, Bool.false_eq_true, if_false, hb, Sem.run_pure], .d _ _ (.str _)⟩
   ·cases h
  ·cases h
 ·rename_i o off len sz ver
  simp only [Option.bind_eq_bind, Option.bind_eq_some_iff] at h
  obtain ⟨e, he, n, hn, y, hy, h', hh, l, hl, h⟩ := h
  split at h
  ·rename_i hc
   simp only [Bool.and_eq_true, decide_eq_true_eq, Bool.or_eq_true] at hc
   obtain ⟨⟨⟨⟨hrow, hver⟩, hsz⟩, hsz0⟩, hlh⟩ := hc
   cases hu with
   | osl _ _ _ _ _ cap A hlc hU hv hs =>
    have hsl := hs y hy hver
    split at h
    ·split at h
     ·rename_i hfit
      cases h
      cases umx with
      | some => exact r3.elim
      | none =>
       have hcap : h' ≤ cap := by
        unfold SlAt at hsl
        split at hsl
        ·rename_i hr
         obtain ⟨c, tt, hh2⟩ : ver = 0 := by
          cases y with
          | cells cs =>
           obtain ⟨b, c, t2, e2, _⟩ := hI.obj o _ hy
           rw [hr] at e2; cases e2
          | grow cs =>
           obtain ⟨b, S, c, t2, e2, _⟩ := hI.obj o _ hy
           rw [hr] at e2; cases e2
          | frz cs =>
           obtain ⟨b, S, c, t2, e2, _⟩ := hI.obj o _ hy
           rw [hr] at e2; cases e2
          | vnil => exact hver.symm
          | mp => cases hrow
          | rc => cases hrow
         have : h' * sz = 0 := by omega
         rcases Nat.mul_eq_zero.1 this with q | q <;> omega
        ·rename_i b S hr
         obtain ⟨c, tt, _, _, hle, _⟩ := row_mem hI hy hrow hr
         obtain ⟨hS, _⟩ := hsl
         have : h' * sz ≤ cap * sz := by omega
         exact Nat.le_of_mul_le_mul_right this hsz0
       have hb := bounds_run (P := P) (isSlice := true) (cap := cap) (mx := none) (umx := none) (d := 0) (m := 0) hl hh rfl r1 r2 trivial (by simp) hlh (by simp) hcap C.w
       simp only [Option.isSome_none, Bool.false_eq_true, if_false] at hb
       refine ⟨.slice (if cap = l then A else A.map (·.add (l * n))) (h' - l) (cap - l), by simp only [Instr.sliceAt, Sem.run_bind, und_run (elem_und he), Result.andThen_ok, Instr.slice, hb, size_run hn, Sem.run_pure], .osl _ _ _ _ _ _ _ (by omega) hU hv fun x hx e => ?_⟩
       have hs2 := hs x hx e
       unfold SlAt at hs2 ⊢
       split at hs2
       ·rename_i hr
        refine ⟨by omega, ?_⟩
        rw [hs2.2]; simp
       ·rename_i b S hr
        obtain ⟨hS, hA, hA2⟩ := hs2
        have hver0 : ver ≠ 0 ∨ cap = 0 ∨ True := .inr (.inr trivial)
        have hmul : (cap - l) * sz + l * sz = cap * sz := by rw [← Nat.add_mul]; congr 1; omega
        refine ⟨by omega, fun hpos => ?_, by split <;> simp [hA2]⟩
        rw [if_neg (by omega), hA (by omega)]
        have hszn : l * n = l * sz := by
         rcases hsz with q | q
         ·rw [q]
         ·have : h' * sz = 0 := by omega
          rcases Nat.mul_eq_zero.1 this with q2 | q2
          ·have : l = 0 := by omega
           rw [this]; simp
          ·omega
        simp only [Option.map_some, Option.some.injEq]
        rw [hszn]
        unfold Addr.add
        split
        ·rename_i h0; simp [h0]
        ·rfl
     ·cases h
    ·rename_i M
     simp only [Option.bind_eq_some_iff] at h
     obtain ⟨m, hm, h⟩ := h
     split at h
     ·rename_i hq
      obtain ⟨q1, q2, q3⟩ := hq
      have hb := bounds_run (P := P) (isSlice := true) (cap := cap) hl hh hm r1 r2 r3 (fun _ => q3) hlh (fun _ => ⟨q1, by omega⟩) (by omega) C.w
      simp only [Option.isSome_some, if_true] at hb
      have hrun : (Instr.sliceAt t (.slice A len cap) ulo uhi umx).run P C.w = .ok (.slice (if m = l then A else A.map (·.add (l * n))) (h' - l) (m - l)) C.w := by
       simp only [Instr.sliceAt, Sem.run_bind, und_run (elem_und he), Result.andThen_ok, Instr.slice, hb, size_run hn, Sem.run_pure]
      split at h
      ·rename_i hlm
       cases h
       subst hlm
       refine ⟨_, hrun, .d _ _ ?_⟩
       have e1 : h' - l = 0 := by omega
       have e2 : l - l = 0 := by omega
       rw [e1, e2]
       exact .sl [] 0 0 true none _ (fun _ => undef) (Nat.le_refl _) (fun _ => rfl) (fun j hj => by simp at hj) (fun j x hx => by simp at hx) (fun hne => absurd rfl hne) (fun b hb => by cases hb)
      ·cases h
       exact ⟨_, hrun, .junk _⟩
     ·cases h
  ·cases h
 ·rename_i o off ver
  simp only [Option.bind_eq_bind, Option.bind_eq_some_iff] at h
  obtain ⟨⟨m, e⟩, hme, n, hn, h', hh, l, hl, h⟩ := h
  split at h
  ·rename_i hc
   obtain ⟨c1, c2, c3, c4⟩ := hc
   cases h
   obtain rfl : mx = none := by cases mx <;> simp_all
   cases hu with
   | ptr _ _ _ a hU hv hs =>
    obtain rfl : umx = none := by cases umx <;> first | rfl | exact r3.elim
    have hb := bounds_run (P := P) (isSlice := false) (len := m) (cap := m) (d := 0) (m := 0) (mx := none) hl hh rfl r1 r2 r3 (fun q => by cases q) c1 (fun q => by cases q) c2 C.w
    simp only [Option.isSome_none, Bool.false_eq_true, if_false] at hb
    refine ⟨.slice (some (a.add (l * n))) (h' - l) (m - l), ?_, .vsl _ _ _ _ _ _ _ (by omega) hU hv fun x hx ex => ?_⟩
    ·simp only [Instr.sliceAt, Instr.sureAddr, Sem.run_bind, und_run (tarr_und hme), Result.andThen_ok, hb, size_run hn, Sem.run_pure]
     rw [if_neg (by omega)]
    ·obtain ⟨b, S, hb, rfl⟩ := hs x hx ex
     exact ⟨b, S, hb, by rw [add_at]⟩
  ·cases h
 ·rename_i cs
  simp only [Option.bind_eq_bind, Option.bind_eq_some_iff] at h
  obtain ⟨⟨m, e⟩, hme, n, hn, h', hh, l, hl, h⟩ := h
  split at h
  ·rename_i hc
   obtain ⟨c1, c2, c3, c4, c5⟩ := hc
   cases h
   obtain rfl : mx = none := by cases mx <;> simp_all
   cases hu.dinv with
   | dptr _ ad vs h1 hr hF hcell =>
    obtain rfl : umx = none := by cases umx <;> first | rfl | exact r3.elim
    have hb := bounds_run (P := P) (isSlice := false) (len := m) (cap := m) (d := 0) (m := 0) (mx := none) hl hh rfl r1 r2 r3 (fun q => by cases q) c1 (fun q => by cases q) c2 C.w
    simp only [Option.isSome_none, Bool.false_eq_true, if_false] at hb
    refine ⟨.slice (some (ad.add (l * n))) (h' - l) (m - l), ?_, .d _ _ (.sl _ _ _ _ _ _ (fun j => vs (l * n + j)) (by omega) (fun hq => by cases hq) (fun j hj => h1 _ (by simp at hj; omega)) (fun j x hx => ?_) (fun hne => ?_) (fun b hb => by cases hb; rfl))⟩
    ·simp only [Instr.sliceAt, Instr.sureAddr, Sem.run_bind, und_run (tarr_und hme), Result.andThen_ok, hb, size_run hn, Sem.run_pure]
     rw [if_neg (by omega)]
    ·rw [List.getElem?_take] at hx
     split at hx
     ·rw [List.getElem?_drop] at hx; exact hr _ _ hx
     ·cases hx
    ·refine ⟨ad.add (l * n), rfl, by rw [add_block]; exact hF, fun j hj => ?_⟩
     rw [add_add]
     exact hcell _ (by simp at hj; omega)
  ·cases h
 ·cases h
end
end Go.Proofs.Ytiafeijkifpfaaa.Am


/-
  The abstract machine: loads, stores, new objects. No condition.
-/
import Derived.Test.YtiafeijkifpfaaaAm8
namespace Go.Proofs.Ytiafeijkifpfaaa.Am
open Go
set_option linter.unusedVariables false

theorem add0 (b off : Nat) : (⟨b, 0, none⟩ : Addr).add off = ⟨b, off, none⟩ := by unfold Addr.add; split <;> simp_all

section
variable {P : Program} {C : Cx}

/-- Memory that holds cells. -/
structure Mem (C : Cx) (a : Addr) (cs : List AV) (vs : Nat → Value) : Prop where
  rep : ∀ j x, cs[j]? = some x → Rep C x (vs j)
  one : ∀ j, j < cs.length → (vs j).oneCell' = true
  at_ : ∀ j, j < cs.length → C.w.cell? (a.add j) = some (vs j)

theorem Mem.drop {a : Addr} {cs : List AV} {vs : Nat → Value} (h : Mem C a cs vs) (k : Nat) : Mem C (a.add k) (cs.drop k) (fun j => vs (k + j)) :=
  ⟨fun j x hx => h.rep _ _ (by rwa [List.getElem?_drop] at hx), fun j hj => h.one _ (by simp at hj; omega), fun j hj => by rw [add_add]; exact h.at_ _ (by simp at hj; omega)⟩

theorem range_getD (n : Nat) (vs : Nat → Value) (j : Nat) (hj : j < n) : (((List.range n).map vs).toArray).getD j undef = vs j := by
  simp [hj]

theorem loadVar_sim {t : TypeId} {a : Addr} {cs : List AV} {vs : Nat → Value} {r : AV} (hm : Mem C a cs vs) (h : part P t cs 0 = some r) : ∃ z, (loadVar t a).run P C.w = .ok z C.w ∧ Rep C r z := by
  unfold part at h
  split at h
  · rename_i ha
    simp only [Option.bind_eq_bind, Option.bind_eq_some_iff] at h
    obtain ⟨n, hn, h⟩ := h
    split at h
    · rename_i hl
      cases h
      have hl2 : n ≤ cs.length := by omega
      refine ⟨.agg ((List.range n).map vs).toArray, ?_, mkAgg_rep ⟨by simp; omega, fun j hj => ?_, fun j x hx => ?_⟩⟩
      · simp only [loadVar, Sem.run_bind, agg_run ha, Result.andThen_ok, if_true, size_run hn, run_loadCells (P := P) C.w a n vs (fun j hj => hm.at_ j (by omega)), Sem.run_pure]
      · simp at hj
        rw [range_getD n vs j hj]
        exact hm.one j (by omega)
      · rw [List.getElem?_take] at hx
        split at hx
        · rename_i hj
          rw [range_getD n vs j hj]
          exact hm.rep j x (by simpa using hx)
        · cases hx
    · cases h
  · rename_i ha
    have hl : 0 < cs.length := (List.getElem?_eq_some_iff.1 h).1
    have h0 := hm.at_ 0 hl
    have e : a.add 0 = a := by simp [Addr.add]
    rw [e] at h0
    refine ⟨vs 0, ?_, hm.rep 0 r h⟩
    simp only [loadVar, Sem.run_bind, agg_run ha, Result.andThen_ok, Bool.false_eq_true, if_false, run_load, h0]
  · cases h

theorem part_drop {t : TypeId} {cs : List AV} {off : Nat} : part P t cs off = part P t (cs.drop off) 0 ∨ part P t cs off = none := by
  unfold part
  split
  · cases tsize P t with
    | none => exact .inr rfl
    | some n =>
      simp only [Option.bind_eq_bind, Option.bind_some]
      by_cases h : off + n ≤ cs.length
      · rw [if_pos h, if_pos (by simp; omega)]; simp
      · rw [if_neg h]; exact .inr rfl
  · simp
  · exact .inr rfl

/-- A living row's memory. -/
theorem row_mem (hI : Inv C) {o : Oid} {x : Am.Obj} (hx : C.H o = some x) (hrow : x.isRow = true) {b S : Nat} (hb : C.ρ o = some (b, S)) :
    ∃ c t, C.w.heap[b]? = some (.cells c t (0, 0)) ∧ c.size = S ∧ x.cs.length ≤ S ∧ Mem C ⟨b, 0, none⟩ x.cs (fun j => c.getD j undef) := by
  have mem : ∀ (c : Array Value) (t : TypeId) (cs : List AV), C.w.heap[b]? = some (.cells c t (0, 0)) → cs.length ≤ c.size → (∀ j, j < cs.length → (c.getD j undef).oneCell' = true) → (∀ j x, cs[j]? = some x → Rep C x (c.getD j undef)) → Mem C ⟨b, 0, none⟩ cs (fun j => c.getD j undef) := by
    intro c t cs hh hl h1 hr
    refine ⟨hr, h1, fun j hj => ?_⟩
    have e : (⟨b, 0, none⟩ : Addr).add j = ⟨b, j, none⟩ := by unfold Addr.add; split <;> simp_all
    rw [e]
    unfold World.cell?
    rw [hh]
    have : j < c.size := by omega
    simp [this]
  cases x with
  | cells cs =>
    obtain ⟨b', c, t, e, hh, hs, h1, hr⟩ := hI.obj o _ hx
    rw [hb] at e; cases e
    exact ⟨c, t, hh, hs, Nat.le_refl _, mem c t cs hh (by omega) h1 hr⟩
  | grow cs =>
    obtain ⟨b', S', c, t, e, hh, hs, hl, h1, hr⟩ := hI.obj o _ hx
    rw [hb] at e; cases e
    exact ⟨c, t, hh, hs, hl, mem c t cs hh (by omega) h1 hr⟩
  | frz cs =>
    obtain ⟨b', S', c, t, e, _, hh, hs, hl, h1, hr⟩ := hI.obj o _ hx
    rw [hb] at e; cases e
    exact ⟨c, t, hh, hs, hl, mem c t cs hh (by omega) h1 hr⟩
  | vnil => rw [show C.ρ o = none from hI.obj o _ hx] at hb; cases hb
  | mp es => cases hrow

theorem load_sim {t : TypeId} {X r : AV} {u : Value} (hI : Inv C) (h : load P C.H t X = some r) (hu : Rep C X u) : ∃ z, (Instr.loadAt t u).run P C.w = .ok z C.w ∧ Rep C r z := by
  unfold load at h
  split at h
  · rename_i cs
    simp only [Option.map_eq_some_iff] at h
    obtain ⟨x, hx, rfl⟩ := h
    cases hu.dinv with
    | dptr _ ad vs h1 hr hF hc =>
      have hm : Mem C ad (cs.map .d) vs := ⟨fun j y hy => by
        simp only [List.getElem?_map, Option.map_eq_some_iff] at hy
        obtain ⟨z, hz, rfl⟩ := hy
        exact .d _ _ (hr j z hz), fun j hj => h1 j (by simpa using hj), fun j hj => hc j (by simpa using hj)⟩
      obtain ⟨z, hz, hr⟩ := loadVar_sim hm (dpart_part hx)
      exact ⟨z, by simpa [Instr.loadAt, Instr.sureAddr] using hz, hr⟩
  · rename_i o off ver
    simp only [Option.bind_eq_bind, Option.bind_eq_some_iff] at h
    obtain ⟨x, hx, h⟩ := h
    split at h
    · rename_i hc
      simp only [Bool.and_eq_true, decide_eq_true_eq] at hc
      cases hu with
      | ptr _ _ _ a hU hv hs =>
        obtain ⟨b, S, hb, rfl⟩ := hs x hx hc.2
        obtain ⟨c, tt, hh, hcs, hl, hm⟩ := row_mem hI hx hc.1 hb
        have hm2 := hm.drop off
        have e : (⟨b, 0, none⟩ : Addr).add off = ⟨b, off, none⟩ := by unfold Addr.add; split <;> simp_all
        rw [e] at hm2
        rcases part_drop (P := P) (t := t) (cs := x.cs) (off := off) with hp | hp
        · rw [hp] at h
          obtain ⟨z, hz, hr⟩ := loadVar_sim hm2 h
          exact ⟨z, by simpa [Instr.loadAt, Instr.sureAddr] using hz, hr⟩
        · rw [hp] at h; cases h
    · cases h
  · cases h

/-! ### An object is written -/
structure Wrote (w w' : World) (b : Nat) : Prop where
  os : w'.os = w.os
  tape : w'.tape = w.tape
  output : w'.output = w.output
  size : w'.heap.size = w.heap.size
  block : ∀ k, k ≠ b → w'.heap[k]? = w.heap[k]?

theorem ext_write {o : Oid} {x x' : Am.Obj} {b S : Nat} {w' : World} (hI : Inv C) (hx : C.H o = some x) (hz : x.isFrz = false) (hb : C.ρ o = some (b, S)) (hw : Wrote C.w w' b) (hk : x.isRow = x'.isRow) (hl : x.cs.length ≤ x'.cs.length) :
    Ext C ⟨C.ρ, C.F, upd C.H o x', C.U, w'⟩ where
  U _ h := h
  F _ h := h
  F' _ h := .inl h
  os := hw.os
  tape := hw.tape
  output := hw.output
  size := Nat.le_of_eq hw.size.symm
  keep k hk hn := hw.block k fun e => hn ⟨o, x, S, hx, hz, by rw [e]; exact hb⟩
  live p x2 hp _ := by
    simp only [upd] at hp
    split at hp
    · rename_i e; subst e; cases hp; exact ⟨x, hx, hk, hl, fun _ => rfl⟩
    · exact ⟨x2, hp, rfl, Nat.le_refl _, fun _ => rfl⟩
  blk k hk := by
    obtain ⟨p, x2, S2, hp, hz2, hr⟩ := hk
    simp only [upd] at hp
    split at hp
    · rename_i e; subst e; exact .inl ⟨p, x, S2, hx, hz, hr⟩
    · exact .inl ⟨p, x2, S2, hp, hz2, hr⟩
theorem inv_write {o : Oid} {x x' : Am.Obj} {b S : Nat} {w' : World} (hI : Inv C) (hx : C.H o = some x) (hz : x.isFrz = false) (hb : C.ρ o = some (b, S)) (hw : Wrote C.w w' b) (hk : x.isRow = x'.isRow) (hl : x.cs.length ≤ x'.cs.length)
    (hobj : ObjOk ⟨C.ρ, C.F, upd C.H o x', C.U, w'⟩ o x') : Inv ⟨C.ρ, C.F, upd C.H o x', C.U, w'⟩ := by
  have he := ext_write hI hx hz hb hw hk hl
  have old : ∀ p x2, upd C.H o x' p = some x2 → ∃ x3, C.H p = some x3 := fun p x2 hp => by
    simp only [upd] at hp
    split at hp
    · rename_i e; subst e; exact ⟨x, hx⟩
    · exact ⟨x2, hp⟩
  constructor
  · intro p x2 hp
    obtain ⟨x3, h3⟩ := old p x2 hp
    exact hI.used p x3 h3
  · intro p x2 hp
    simp only [upd] at hp
    split at hp
    · rename_i e; subst e; cases hp; exact hobj
    · rename_i e
      refine (hI.obj p x2 hp).keep hI he rfl fun k S2 hk => hw.block k fun e2 => e ?_
      subst e2
      exact hI.inj p o x2 x k S2 S hp hx hk hb
  · intro p x2 k S2 hp hz2 hk hF
    simp only [upd] at hp
    split at hp
    · rename_i e; subst e; exact hI.notF p x k S2 hx hz hk hF
    · exact hI.notF p x2 k S2 hp hz2 hk hF
  · intro p p' x2 x2' k S2 S2' hp hp' hk hk'
    obtain ⟨x3, h3⟩ := old p x2 hp
    obtain ⟨x4, h4⟩ := old p' x2' hp'
    exact hI.inj p p' x3 x4 k S2 S2' h3 h4 hk hk'
  · intro k hk
    show k < w'.heap.size
    rw [hw.size]
    exact hI.Flt k hk

theorem wrote_setRow (w : World) (b : Nat) (c : Array Value) : Wrote w (w.setRow b c) b :=
  ⟨rfl, rfl, rfl, by simp [World.setRow], fun k hk => by
    simp only [World.setRow, Array.getElem?_modify]
    rw [if_neg (by omega)]⟩

/-- Cells of a living row are replaced: what the object is then. -/
theorem row_splice (hI : Inv C) {o : Oid} {x : Am.Obj} (hx : C.H o = some x) (hrow : x.isRow = true) (hz : x.isFrz = false) {b S : Nat} (hb : C.ρ o = some (b, S)) {c : Array Value} {t : TypeId} (hh : C.w.heap[b]? = some (.cells c t (0, 0)))
    {off : Nat} {xs : List AV} {vs : Array Value} (hv : CellsOk C xs vs) (hl : off + xs.length ≤ x.cs.length) :
    Inv ⟨C.ρ, C.F, upd C.H o (x.put (splice x.cs off xs)), C.U, C.w.setRow b (c.toList.take off ++ vs.toList ++ c.toList.drop (off + vs.size)).toArray⟩ ∧
    Ext C ⟨C.ρ, C.F, upd C.H o (x.put (splice x.cs off xs)), C.U, C.w.setRow b (c.toList.take off ++ vs.toList ++ c.toList.drop (off + vs.size)).toArray⟩ := by
  have hw := wrote_setRow C.w b (c.toList.take off ++ vs.toList ++ c.toList.drop (off + vs.size)).toArray
  have hk : x.isRow = (x.put (splice x.cs off xs)).isRow := by cases x <;> rfl
  have hcs : (x.put (splice x.cs off xs)).cs = splice x.cs off xs := by cases x <;> first | rfl | (cases hrow; done) | (cases hz; done) | (rw [show C.ρ o = none from hI.obj o _ hx] at hb; cases hb)
  have hl2 : x.cs.length ≤ (x.put (splice x.cs off xs)).cs.length := by rw [hcs, splice_length _ _ _ hl]; exact Nat.le_refl _
  have he := ext_write hI hx hz hb hw hk hl2
  refine ⟨inv_write hI hx hz hb hw hk hl2 ?_, he⟩
  obtain ⟨c', t', hh', hS, hlS, hm⟩ := row_mem hI hx hrow hb
  rw [hh] at hh'
  cases hh'
  have hvs := hv.1
  have hnew : ∀ C' : Cx, C'.w = C.w.setRow b (c.toList.take off ++ vs.toList ++ c.toList.drop (off + vs.size)).toArray → C'.w.heap[b]? = some (.cells (c.toList.take off ++ vs.toList ++ c.toList.drop (off + vs.size)).toArray t (0, 0)) := by
    intro C' e
    rw [e, setRow_heap C.w b c _ t (0, 0) hh]
  have hsize : (c.toList.take off ++ vs.toList ++ c.toList.drop (off + vs.size)).toArray.size = S := by simp; omega
  have hget : ∀ k, k < x.cs.length → (c.toList.take off ++ vs.toList ++ c.toList.drop (off + vs.size)).toArray.getD k undef = if off ≤ k ∧ k < off + vs.size then vs.getD (k - off) undef else c.getD k undef := by
    intro k hk
    rw [Array.getD_eq_getD_getElem?, List.getElem?_toArray]
    by_cases h1 : k < off
    · rw [if_neg (by omega), List.append_assoc, List.getElem?_append_left (by simp; omega), List.getElem?_take, if_pos h1]; simp
    · by_cases h2 : k < off + vs.size
      · rw [if_pos (by omega), List.getElem?_append_left (by simp; omega), List.getElem?_append_right (by simp; omega)]
        have : k - (c.toList.take off).length = k - off := by simp; omega
        rw [this]; simp
      · rw [if_neg (by omega), List.getElem?_append_right (by simp; omega), List.getElem?_drop]
        have : off + vs.size + (k - (c.toList.take off ++ vs.toList).length) = k := by simp; omega
        rw [this]; simp
  have hone : ∀ k, k < (splice x.cs off xs).length → ((c.toList.take off ++ vs.toList ++ c.toList.drop (off + vs.size)).toArray.getD k undef).oneCell' = true := by
    intro k hk
    rw [splice_length _ _ _ hl] at hk
    rw [hget k hk]
    split
    · exact hv.2.1 _ (by omega)
    · exact hm.one k hk
  have hrep : ∀ k y, (splice x.cs off xs)[k]? = some y → Rep ⟨C.ρ, C.F, upd C.H o (x.put (splice x.cs off xs)), C.U, C.w.setRow b (c.toList.take off ++ vs.toList ++ c.toList.drop (off + vs.size)).toArray⟩ y ((c.toList.take off ++ vs.toList ++ c.toList.drop (off + vs.size)).toArray.getD k undef) := by
    intro k y hy
    have hk : k < x.cs.length := by have := (List.getElem?_eq_some_iff.1 hy).1; rwa [splice_length _ _ _ hl] at this
    rw [hget k hk]
    rw [splice_get _ _ _ hl] at hy
    split at hy
    · rw [if_pos (by omega)]
      exact (hv.2.2 _ _ hy).ext hI he
    · rw [if_neg (by omega)]
      exact (hm.rep _ _ hy).ext hI he
  cases x with
  | cells cs =>
    have hlen : (splice (Am.Obj.cells cs).cs off xs).length = cs.length := splice_length _ _ _ hl
    have hS2 : S = cs.length := by
      obtain ⟨b', c', t', e, _, hs, _⟩ := hI.obj o _ hx
      rw [hb] at e; cases e; rfl
    exact ⟨b, _, t, by show C.ρ o = _; rw [hlen, ← hS2]; exact hb, hnew _ rfl, by rw [hsize, hlen]; exact hS2, hone, hrep⟩
  | grow cs =>
    have hlen : (splice (Am.Obj.grow cs).cs off xs).length = cs.length := splice_length _ _ _ hl
    exact ⟨b, S, _, t, hb, hnew _ rfl, hsize, by rw [hlen]; exact hlS, hone, hrep⟩
  | frz cs => cases hz
  | vnil => rw [show C.ρ o = none from hI.obj o _ hx] at hb; cases hb
  | mp es => cases hrow

theorem storeO_sim {t : TypeId} {id : Nat} {A V : AV} {H' : Hp} {ua uv : Value} (hI : Inv C) (hid : ∀ j, ¬ C.U (id, j + 1)) (h : storeO P C.H id t A V = some H') (ha : Rep C A ua) (hv : Rep C V uv) :
    ∃ C', (Instr.storeAt t ua uv).run P C.w = .ok () C'.w ∧ C'.H = H' ∧ Inv C' ∧ Ext C C' ∧ (∀ o, C'.U o → C.U o ∨ o.1 = id) := by
  unfold storeO at h
  simp only [Option.bind_eq_bind, Option.bind_eq_some_iff] at h
  obtain ⟨n, hn, h⟩ := h
  split at h
  · rename_i o off ver
    split at h
    · rename_i hc
      obtain ⟨hc1, hc2⟩ := hc
      have ht : isTup V = false := by
        cases V with
        | d x => cases x <;> first | rfl | (simp [cellsOf] at hc1; omega)
        | _ => first | rfl | (simp [cellsOf] at hc1; omega)
      have hcv := cellsOf_ok hv ht
      obtain ⟨C1, hw1, hH1, hF1, hρ1, hU1, hI1, he1, hc1v⟩ := lift_sim hI hid hcv
      unfold Hput at h
      simp only [Option.bind_eq_bind, Option.bind_eq_some_iff] at h
      obtain ⟨x, hx, h⟩ := h
      rw [← hH1] at hx
      split at h
      · rename_i hq
        simp only [Bool.and_eq_true, decide_eq_true_eq, Bool.not_eq_true'] at hq
        obtain ⟨⟨⟨hq1, hqz⟩, hq2⟩, hq3⟩ := hq
        have hq : (x.isRow = true ∧ x.cs.length = ver) ∧ off + (liftCells id 1 (cellsOf V)).length ≤ ver := ⟨⟨hq1, hq2⟩, hq3⟩
        cases h
        have ha1 := ha.ext hI he1
        cases ha1 with
        | ptr _ _ _ a hU hvv hs =>
          obtain ⟨b, S, hb, rfl⟩ := hs x hx hq.1.2
          obtain ⟨c, tt, hh, hS, hlS, hm⟩ := row_mem hI1 hx hq.1.1 hb
          have hlen : (liftCells id 1 (cellsOf V)).length = uv.cells.size := hc1v.1.symm
          have hl : off + (liftCells id 1 (cellsOf V)).length ≤ x.cs.length := by rw [hq.1.2]; exact hq.2
          obtain ⟨hI2, he2⟩ := row_splice hI1 hx hq.1.1 hqz hb hh hc1v hl
          refine ⟨_, ?_, by rw [← hH1], hI2, he1.trans he2, fun o ho => ?_⟩
          · have hone : ∀ v ∈ uv.cells.toList, v.oneCell' = true := by
              intro v hv
              obtain ⟨j, hj, rfl⟩ := List.getElem_of_mem hv
              have := hcv.2.1 j (by simpa using hj)
              rw [Array.getD_eq_getD_getElem?, Array.getElem?_eq_getElem (by simpa using hj)] at this
              simpa using this
            have hst := run_storeCells_at P b off tt uv.cells.toList 0 c C1.w hh (by simp; omega) hone
            simp only [Nat.add_zero, Array.length_toList] at hst
            have hsz : uv.cells.size = n := by rw [hcv.1]; exact hc1
            simp only [Instr.storeAt, Instr.sureAddr, Sem.run_bind, Sem.run_pure, Result.andThen_ok, storeVar, size_run hn, hsz, ne_eq, not_true_eq_false, if_false, ← hw1]
            rw [hst]
            rw [hsz]
          · rcases (hU1 o).1 ho with h | h
            · exact .inl h
            · exact .inr h.1
      · cases h
    · cases h
  · cases h

end
end Go.Proofs.Ytiafeijkifpfaaa.Am

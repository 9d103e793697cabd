/-
  The abstract machine: new objects; slices' pieces and elements. No condition.
-/
import Derived.Test.YtiafeijkifpfaaaAm9
namespace Go.Proofs.Ytiafeijkifpfaaa.Am
open Go
set_option linter.unusedVariables false

section
variable {P : Program} {C : Cx}

theorem newRow_ok (hI : Inv C) {id : Nat} (hid : ¬ C.U (id, 0)) {cs : List AV} {arr : Array Value} {t : TypeId} {ob : Am.Obj} (hob : (ob = .cells cs ∧ arr.size = cs.length) ∨ ob = .grow cs) (hl : cs.length ≤ arr.size)
    (h1 : ∀ j, j < cs.length → (arr.getD j undef).oneCell' = true) (hr : ∀ j x, cs[j]? = some x → Rep C x (arr.getD j undef)) {w' : World} {b : Nat} (hg : Grew C.w w') (hb : C.w.heap.size ≤ b) (hw : w'.heap[b]? = some (.cells arr t (0, 0))) :
    Inv ⟨fun o => if o = (id, 0) then some (b, arr.size) else C.ρ o, C.F, upd C.H (id, 0) ob, fun o => C.U o ∨ o = (id, 0), w'⟩ ∧
    Ext C ⟨fun o => if o = (id, 0) then some (b, arr.size) else C.ρ o, C.F, upd C.H (id, 0) ob, fun o => C.U o ∨ o = (id, 0), w'⟩ := by
  have ne : ∀ o, C.U o → o ≠ (id, 0) := fun o ho e => hid (e ▸ ho)
  have hH : ∀ o, C.U o → upd C.H (id, 0) ob o = C.H o ∧ (if o = (id, 0) then some (b, arr.size) else C.ρ o) = C.ρ o := fun o ho => ⟨if_neg (ne o ho), if_neg (ne o ho)⟩
  have hnew : ∀ o x, upd C.H (id, 0) ob o = some x → ¬ C.U o → o = (id, 0) ∧ x = ob := fun o x hx hc => by
    simp only [upd] at hx
    split at hx
    · rename_i e; cases hx; exact ⟨e, rfl⟩
    · exact absurd (hI.used o x hx) hc
  have hN : ∀ o x, upd C.H (id, 0) ob o = some x → ¬ C.U o → ∀ b' S, (if o = (id, 0) then some (b, arr.size) else C.ρ o) = some (b', S) → C.w.heap.size ≤ b' := fun o x hx hc b' S e => by
    rw [if_pos (hnew o x hx hc).1] at e; cases e; exact hb
  have he := ext_fresh (U' := fun o => C.U o ∨ o = (id, 0)) hI hg (fun _ h => .inl h) hH hN
  refine ⟨inv_fresh hI hg (fun _ h => .inl h) hH hN (fun o x hx hc => .inr (hnew o x hx hc).1) (fun o x hx hc => ?_) (fun o o' x x' b' S S' hx hx' hc hc' _ _ => by rw [(hnew o x hx hc).1, (hnew o' x' hx' hc').1]), he⟩
  obtain ⟨rfl, rfl⟩ := hnew o x hx hc
  rcases hob with ⟨rfl, hs⟩ | rfl
  · exact ⟨b, arr, t, by simp [hs], hw, hs, h1, fun j x hx => (hr j x hx).ext hI he⟩
  · exact ⟨b, arr.size, arr, t, by simp, hw, rfl, hl, h1, fun j x hx => (hr j x hx).ext hI he⟩

/-- The step's end: the world, the objects, which numbers are new. -/
structure Stepped (C C' : Cx) (w' : World) (H' : Hp) (id : Nat) : Prop where
  w : C'.w = w'
  H : C'.H = H'
  inv : Inv C'
  ext : Ext C C'
  used : ∀ o, C'.U o → C.U o ∨ o.1 = id

theorem alloc_block (w : World) (ob : Go.Obj) : (w.alloc ob).heap[w.heap.size]? = some ob := by
  show (w.heap.push ob)[w.heap.size]? = some ob
  simp

theorem alloc_sim {t : TypeId} {id : Nat} {cs : List AV} {v : Value} (hI : Inv C) (hid : ∀ j, ¬ C.U (id, j)) (hc : CellsOk C cs v.cells) :
    ∃ C' : Cx, ∃ z, (do pure (.pointer (some (← newVar t v))) : Sem Value).run P C.w = .ok z C'.w ∧ Rep C' (.ptr (id, 0) 0 cs.length) z ∧ Stepped C C' C'.w (upd (liftH id 1 cs C.H) (id, 0) (.cells (liftCells id 1 cs))) id := by
  obtain ⟨C1, hw1, hH1, hF1, hρ1, hU1, hI1, he1, hc1⟩ := lift_sim hI (fun j => hid (j + 1)) hc
  have hid1 : ¬ C1.U (id, 0) := fun h => by
    rcases (hU1 _).1 h with h | ⟨_, h⟩
    · exact hid 0 h
    · simp at h
  obtain ⟨hI2, he2⟩ := newRow_ok hI1 hid1 (cs := liftCells id 1 cs) (arr := v.cells) (t := t) (ob := .cells (liftCells id 1 cs)) (.inl ⟨rfl, hc1.1⟩) (Nat.le_of_eq hc1.1.symm) (fun j hj => hc1.2.1 j (by rw [hc1.1]; exact hj)) hc1.2.2
    (Grew.alloc C1.w (.cells v.cells t)) (Nat.le_refl _) (alloc_block _ _)
  refine ⟨_, .pointer (some ⟨C1.w.heap.size, 0, none⟩), ?_, ?_, ⟨rfl, by rw [← hH1], hI2, he1.trans he2, ?_⟩⟩
  · simp only [newVar, newRow, Sem.run_bind, run_newObj, Result.andThen_ok, Sem.run_pure, hw1]
    rfl
  · have hl : cs.length = (liftCells id 1 cs).length := (liftCells_length id cs 1).symm
    refine .ptr _ _ _ _ (.inr rfl) (fun x hx => ?_) (fun x hx e => ⟨_, _, if_pos rfl, rfl⟩)
    simp only [upd, if_pos] at hx
    cases hx
    rw [hl]
    exact Nat.le_refl _
  · rintro o (h | rfl)
    · rcases (hU1 o).1 h with h | h
      · exact .inl h
      · exact .inr h.1
    · exact .inr rfl

theorem replicate_flatten_get {α : Type} (z : List α) (n j : Nat) (hz : 0 < z.length) (hj : j < n * z.length) : (List.replicate n z).flatten[j]? = z[j % z.length]? := by
  induction n generalizing j with
  | zero => simp at hj
  | succ n ih =>
    rw [List.replicate_succ, List.flatten_cons]
    by_cases h : j < z.length
    · rw [List.getElem?_append_left h, Nat.mod_eq_of_lt h]
    · have e : j % z.length = (j - z.length) % z.length := Nat.mod_eq_sub_mod (by omega)
      rw [List.getElem?_append_right (by omega), ih (j - z.length) (by rw [Nat.succ_mul] at hj; omega), e]
theorem replicate_flatten_length {α : Type} (z : List α) (n : Nat) : (List.replicate n z).flatten.length = n * z.length := by simp

/-- Zero cells, as many as there are. -/
theorem zeros_ok {e : TypeId} {z : List AV} {n : Nat} (hz : zeroCells P e = some z) (hn : z.length = n) (h0 : 0 < n) (k : Nat) :
    ∃ v, (zeroValue e).run P C.w = .ok v C.w ∧ v.cells.size = n ∧ CellsOk C (List.replicate k z).flatten ((Array.range (k * n)).map (v.cells[· % v.cells.size]!)) := by
  obtain ⟨v, hv, rfl, h1⟩ := zero_run hz C.w
  have hs : v.cells.size = n := by simpa using hn
  have hlen : (v.cells.toList.map liftV).length = n := hn
  have hk := lift_ok (C := C) v.cells h1
  have hget : ∀ j, j < k * n → ((Array.range (k * n)).map (v.cells[· % v.cells.size]!)).getD j undef = v.cells.getD (j % n) undef := by
    intro j hj
    have hm : j % n < n := Nat.mod_lt _ h0
    have hm2 : j % n < v.cells.size := by omega
    have e : v.cells[j % n]! = v.cells[j % n] := getElem!_pos v.cells (j % n) hm2
    simp [hj, hs, Array.getElem?_eq_getElem hm2, e]
  refine ⟨v, hv, hs, by simp [hlen], fun j hj => ?_, fun j x hx => ?_⟩
  · simp at hj
    rw [hget j hj]
    exact hk.2.1 _ (by rw [hs]; exact Nat.mod_lt _ h0)
  · have hj : j < k * n := by have := (List.getElem?_eq_some_iff.1 hx).1; rwa [replicate_flatten_length, hlen] at this
    rw [replicate_flatten_get _ _ _ (by omega) (by rw [hlen]; exact hj), hlen] at hx
    rw [hget j hj]
    exact hk.2.2 _ _ hx

theorem tarr_und {t e : TypeId} {m : Nat} (h : tarr P t = some (m, e)) : P.underlying t = some (.array m e) := by
  unfold tarr at h
  split at h
  · rename_i he; cases h; exact he
  · cases h
theorem add_at (b off n : Nat) : (⟨b, off, none⟩ : Addr).add n = ⟨b, off + n, none⟩ := by
  unfold Addr.add
  split
  · rename_i h0; simp [h0]
  · rfl
theorem idxArr_sim {t e : TypeId} {m : Nat} {X I r : AV} {u i : Value} (hI : Inv C) (ht : P.underlying t = some (.array m e)) (h : idxArr P m e X I = some r) (hu : Rep C X u) (hi : Rep C I i) : ∃ z, (Instr.indexAt t u i).run P C.w = .ok z C.w ∧ Rep C r z := by
  unfold idxArr at h
  simp only [Option.bind_eq_bind, Option.bind_eq_some_iff] at h
  obtain ⟨n, hn, h⟩ := h
  split at h
  · rename_i cs k
    split at h
    · rename_i hc
      obtain ⟨hk0, hk1, hk2⟩ := hc
      cases h
      cases hi.dinv
      cases hu.dinv with
      | dptr _ ad vs h1 hr hF hcell =>
        refine ⟨.pointer (some (ad.add (k.toNat * n))), ?_, .d _ _ (.dptr _ _ (fun j => vs (k.toNat * n + j)) (fun j hj => h1 _ (by simp at hj; omega)) (fun j x hx => hr _ _ (by rwa [List.getElem?_drop] at hx)) (by rw [add_block]; exact hF) (fun j hj => ?_))⟩
        · simp only [Instr.indexAt, Instr.sureAddr, asIntOf, Sem.run_bind, Sem.run_pure, Result.andThen_ok, und_run ht, Sem.run_ite, if_pos (show 0 ≤ k ∧ k < (m : Int) from ⟨hk0, hk1⟩), size_run hn]
        · rw [add_add]; exact hcell _ (by simp at hj; omega)
    · cases h
  · rename_i o off ver k
    split at h
    · rename_i hc
      obtain ⟨hk0, hk1⟩ := hc
      cases h
      cases hi.dinv
      cases hu with
      | ptr _ _ _ a hU hv hs =>
        refine ⟨.pointer (some (a.add (k.toNat * n))), ?_, .ptr _ _ _ _ hU hv fun x hx e => ?_⟩
        · simp only [Instr.indexAt, Instr.sureAddr, asIntOf, Sem.run_bind, Sem.run_pure, Result.andThen_ok, und_run ht, Sem.run_ite, if_pos (show 0 ≤ k ∧ k < (m : Int) from ⟨hk0, hk1⟩), size_run hn]
        · obtain ⟨b, S, hb, rfl⟩ := hs x hx e
          exact ⟨b, S, hb, add_at _ _ _⟩
    · cases h
  · cases h

theorem idxAddr_sim {t : TypeId} {X I r : AV} {u i : Value} (hI : Inv C) (h : idxAddr P C.H t X I = some r) (hu : Rep C X u) (hi : Rep C I i) : ∃ z, (Instr.indexAt t u i).run P C.w = .ok z C.w ∧ Rep C r z := by
  unfold idxAddr at h
  split at h
  · rename_i m e hta
    exact idxArr_sim hI (tarr_und hta) h hu hi
  simp only [Option.bind_eq_bind, Option.bind_eq_some_iff] at h
  obtain ⟨e, he, n, hn, h⟩ := h
  have hue := elem_und he
  split at h
  · rename_i cs len full nl k
    split at h
    · rename_i hc
      obtain ⟨hk0, hk1, hk2⟩ := hc
      cases h
      cases hi.dinv
      cases hu.dinv with
      | sl _ _ cap _ _ a vs hl hf h1 hr hcc hnl =>
        obtain ⟨ad, rfl, hF, hcell⟩ := hcc (by intro h; subst h; simp at hk2)
        refine ⟨.pointer (some (ad.add (k.toNat * n))), ?_, .d _ _ (.dptr _ _ (fun j => vs (k.toNat * n + j)) (fun j hj => h1 _ (by simp at hj; omega)) (fun j x hx => hr _ _ (by rwa [List.getElem?_drop] at hx)) (by rw [add_block]; exact hF) (fun j hj => ?_))⟩
        · simp only [Instr.indexAt, asIntOf, Sem.run_bind, Sem.run_pure, Result.andThen_ok, und_run hue, Sem.run_ite, if_pos (show 0 ≤ k ∧ k < (len : Int) from ⟨hk0, hk1⟩), size_run hn]
        · rw [add_add]; exact hcell _ (by simp at hj; omega)
    · cases h
  · rename_i o off len sz ver k
    simp only [Option.bind_eq_some_iff] at h
    obtain ⟨y, hy, h⟩ := h
    split at h
    · rename_i hc
      simp only [Bool.and_eq_true, decide_eq_true_eq] at hc
      obtain ⟨⟨⟨⟨hrow, hver⟩, hsz⟩, hk0⟩, hk1⟩ := hc
      cases h
      cases hi.dinv
      cases hu with
      | osl _ _ _ _ _ cap A hl hU hv hs =>
        have hsl := hs y hy hver
        unfold SlAt at hsl
        split at hsl
        · omega
        · rename_i b S hb
          obtain ⟨hS, hA, _⟩ := hsl
          have hA := hA (by omega)
          subst hA
          refine ⟨.pointer (some ((⟨b, off, none⟩ : Addr).add (k.toNat * n))), ?_, .ptr _ _ _ _ hU hv fun x hx e => ⟨b, S, hb, ?_⟩⟩
          · simp only [Instr.indexAt, asIntOf, Sem.run_bind, Sem.run_pure, Result.andThen_ok, und_run hue, Sem.run_ite, if_pos (show 0 ≤ k ∧ k < (len : Int) from ⟨hk0, hk1⟩), size_run hn]
          · unfold Addr.add
            split
            · rename_i h0; simp [h0]
            · rfl
    · cases h
  · rename_i o off len sz ver k
    simp only [Option.bind_eq_some_iff] at h
    obtain ⟨y, hy, h⟩ := h
    split at h
    · rename_i hc
      simp only [Bool.and_eq_true, decide_eq_true_eq] at hc
      obtain ⟨⟨⟨⟨hrow, hver⟩, hsz⟩, hk0⟩, hk1⟩ := hc
      cases h
      cases hi.dinv
      cases hu with
      | vsl _ _ _ _ _ cap A hl hU hv hs =>
        obtain ⟨b, S, hb, rfl⟩ := hs y hy hver
        refine ⟨.pointer (some ((⟨b, off, none⟩ : Addr).add (k.toNat * n))), ?_, .ptr _ _ _ _ hU hv fun x hx e => ⟨b, S, hb, add_at _ _ _⟩⟩
        simp only [Instr.indexAt, asIntOf, Sem.run_bind, Sem.run_pure, Result.andThen_ok, und_run hue, Sem.run_ite, if_pos (show 0 ≤ k ∧ k < (len : Int) from ⟨hk0, hk1⟩), size_run hn]
    · cases h
  · cases h

end
end Go.Proofs.Ytiafeijkifpfaaa.Am

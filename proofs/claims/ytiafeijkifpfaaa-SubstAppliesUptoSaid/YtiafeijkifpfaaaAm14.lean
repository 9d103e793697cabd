/-
  The abstract machine: append is the machine's. No condition.
-/
import Derived.Test.YtiafeijkifpfaaaAm13
namespace Go.Proofs.Ytiafeijkifpfaaa.Am
open Go
set_option linter.unusedVariables false

section
variable {P : Program} {C : Cx}

theorem getD_toArray (l : List Value) (j : Nat) : l.toArray.getD j undef = l.getD j undef := by
  rw [Array.getD_eq_getD_getElem?, List.getElem?_toArray, List.getD_eq_getElem?_getD]

/-- A living row grows in place, beyond what it held. -/
theorem row_longer (hI : Inv C) {o : Oid} {cs cs' : List AV} (hx : C.H o = some (.grow cs)) {b S : Nat} (hb : C.ρ o = some (b, S)) {c c' : Array Value} {t : TypeId} (hh : C.w.heap[b]? = some (.cells c t (0, 0))) (hs : c'.size = S)
    (hl : cs.length ≤ cs'.length) (hS : cs'.length ≤ S) (h1 : ∀ j, j < cs'.length → (c'.getD j undef).oneCell' = true) (hr : ∀ j x, cs'[j]? = some x → Rep C x (c'.getD j undef)) :
    Inv ⟨C.ρ, C.F, upd C.H o (.grow cs'), C.U, C.w.setRow b c'⟩ ∧ Ext C ⟨C.ρ, C.F, upd C.H o (.grow cs'), C.U, C.w.setRow b c'⟩ := by
  have hw := wrote_setRow C.w b c'
  have he := ext_write (x' := .grow cs') hI hx rfl hb hw rfl hl
  refine ⟨inv_write hI hx rfl hb hw rfl hl ⟨b, S, c', t, hb, ?_, hs, hS, h1, fun j x hj => (hr j x hj).ext hI he⟩, he⟩
  show (C.w.setRow b c').heap[b]? = _
  rw [setRow_heap C.w b c c' t (0, 0) hh]

/-- A living row moves to a new block. -/
theorem row_moves (hI : Inv C) {o : Oid} {x0 : Am.Obj} {cs' : List AV} (hx : C.H o = some x0) (hrow : x0.isRow = true) {w' : World} {b S : Nat} {c' : Array Value} {t : TypeId} (hg : Grew C.w w') (hb : C.w.heap.size ≤ b) (hw : w'.heap[b]? = some (.cells c' t (0, 0))) (hs : c'.size = S)
    (hl : x0.cs.length < cs'.length) (hS : cs'.length ≤ S) (h1 : ∀ j, j < cs'.length → (c'.getD j undef).oneCell' = true) (hr : ∀ j x, cs'[j]? = some x → Rep C x (c'.getD j undef)) :
    Inv ⟨fun p => if p = o then some (b, S) else C.ρ p, C.F, upd C.H o (.grow cs'), C.U, w'⟩ ∧ Ext C ⟨fun p => if p = o then some (b, S) else C.ρ p, C.F, upd C.H o (.grow cs'), C.U, w'⟩ := by
  have old : ∀ p x, upd C.H o (.grow cs') p = some x → p ≠ o → C.H p = some x := fun p x hp hne => by simpa only [upd, if_neg hne] using hp
  have he : Ext C ⟨fun p => if p = o then some (b, S) else C.ρ p, C.F, upd C.H o (.grow cs'), C.U, w'⟩ := by
    refine ⟨fun _ h => h, fun _ h => h, fun _ h => .inl h, hg.os, hg.tape, hg.output, hg.size, fun k hk _ => hg.block k hk, fun p x' hp _ => ?_, fun k hk => ?_⟩
    · by_cases e : p = o
      · subst e
        simp only [upd, if_pos] at hp
        cases hp
        exact ⟨x0, hx, hrow, Nat.le_of_lt hl, fun q => absurd q (Nat.ne_of_lt hl)⟩
      · exact ⟨x', old p x' hp e, rfl, Nat.le_refl _, fun _ => if_neg e⟩
    · obtain ⟨p, x, S', hp, hz, hr⟩ := hk
      by_cases e : p = o
      · simp only [e, if_pos] at hr
        cases hr
        exact .inr hb
      · simp only [if_neg e] at hr
        exact .inl ⟨p, x, S', old p x hp e, hz, hr⟩
  refine ⟨⟨fun p x hp => ?_, fun p x hp => ?_, fun p x k S' hp hz hr hF => ?_, fun p p' x x' k S1 S2 hp hp' hr hr' => ?_, fun k hk => Nat.lt_of_lt_of_le (hI.Flt k hk) hg.size⟩, he⟩
  · by_cases e : p = o
    · subst e; exact hI.used p _ hx
    · exact hI.used p x (old p x hp e)
  · by_cases e : p = o
    · subst e
      simp only [upd, if_pos] at hp
      cases hp
      exact ⟨b, S, c', t, if_pos rfl, hw, hs, hS, h1, fun j x hj => (hr j x hj).ext hI he⟩
    · exact (hI.obj p x (old p x hp e)).keep hI he (if_neg e) fun k S' hk => hg.block k ((hI.obj p x (old p x hp e)).block_lt hk)
  · by_cases e : p = o
    · simp only [e, if_pos] at hr
      cases hr
      have := hI.Flt b hF
      omega
    · simp only [if_neg e] at hr
      exact hI.notF p x k S' (old p x hp e) hz hr hF
  · by_cases e : p = o
    · by_cases e' : p' = o
      · rw [e, e']
      · simp only [e, if_pos] at hr
        cases hr
        simp only [if_neg e'] at hr'
        have := (hI.obj p' x' (old p' x' hp' e')).block_lt hr'
        omega
    · by_cases e' : p' = o
      · simp only [e', if_pos] at hr'
        cases hr'
        simp only [if_neg e] at hr
        have := (hI.obj p x (old p x hp e)).block_lt hr
        omega
      · simp only [if_neg e] at hr
        simp only [if_neg e'] at hr'
        exact hI.inj p p' x x' k S1 S2 (old p x hp e) (old p' x' hp' e') hr hr'

theorem list_one {us : List Value} (h : ∀ v ∈ us, v.oneCell' = true) (j : Nat) (hj : j < us.length) : (us.getD j undef).oneCell' = true := by
  rw [List.getD_eq_getElem?_getD, List.getElem?_eq_getElem hj]
  exact h _ (List.getElem_mem hj)

theorem appendO_sim {t t2 ty : TypeId} {id : Nat} {S X r : AV} {H' : Hp} {us ux : Value} (hI : Inv C) (hid : ∀ j, ¬ C.U (id, j)) (h : appendO P C.H id t t2 S X = some (r, H')) (hs : Rep C S us) (hx : Rep C X ux) :
    ∃ C' : Cx, ∃ z, (Builtin.append_ #[t, t2] ty #[us, ux]).run P C.w = .ok z C'.w ∧ Rep C' r z ∧ Stepped C C' C'.w H' id := by
  unfold appendO at h
  simp only [Option.bind_eq_bind, Option.bind_eq_some_iff] at h
  obtain ⟨e, he, n, hn, z, hz, ⟨xs, k, is⟩, hsrc, h⟩ := h
  obtain ⟨vs, hvl, hvr, hv1, hxl, ht2, hlx, hnew⟩ := src_sim (P := P) hI hsrc hx
  dsimp only at h
  split at h
  · cases h
  rename_i hc0
  have hn0 : 0 < n := by omega
  have hzn : z.length = n := by omega
  have hxs : xs.length ≤ 68719476736 := by omega
  have hby : tbytes P e = some true := by
    cases hq : tbytes P e with
    | none => exact absurd (.inr (.inr (.inr (by rw [hq]; simp)))) hc0
    | some b => cases b with
      | true => rfl
      | false => exact absurd (.inr (.inr (.inr (by rw [hq]; simp)))) hc0
  obtain ⟨hIk, hEk⟩ := kill_ok hI is
  have hvs : vs.length = k * n := by rw [hvl, hxl]
  have hkle : k ≤ 68719476736 := by
    have : k * 1 ≤ k * n := Nat.mul_le_mul_left _ hn0
    omega
  split at h
  · rename_i o off len sz ver
    simp only [Option.bind_eq_some_iff] at h
    obtain ⟨y, hy, h⟩ := h
    split at h
    · rename_i hc
      obtain ⟨hrow, hver, hfit0, hverle, hois⟩ := hc
      have hyk : kill C.H is o = some y := by simp only [kill, if_neg hois]; exact hy
      cases hs with
      | osl _ _ _ _ _ cap A hlc hU hv hsl0 =>
        have hsl := hsl0 y hy hver
        have hold := Rep.osl (C := C) o off len sz ver cap A hlc hU hv hsl0
        have hcells : ∀ C1 : Cx, C1.F = FW C is → C1.w = C.w → CellsOk C1 (xs.map .d) vs.toArray := by
          intro C1 e1 e2
          refine ⟨by simp [hvl], fun j hj => ?_, fun j x hj => ?_⟩
          · rw [getD_toArray]; exact list_one hv1 j (by simpa using hj)
          · simp only [List.getElem?_map, Option.map_eq_some_iff] at hj
            obtain ⟨q, hq, rfl⟩ := hj
            rw [getD_toArray]
            refine .d _ _ ?_
            rw [e1, e2]
            exact hvr j q hq
        split at h
        · rename_i hk0
          cases h
          subst hk0
          have hvs0 : vs = [] := List.eq_nil_of_length_eq_zero (by rw [hvs, Nat.zero_mul])
          subst hvs0
          exact ⟨⟨C.ρ, FW C is, kill C.H is, C.U, C.w⟩, .slice A len cap, append_none he hn ht2 hlx hlc hnew, hold.ext hI hEk, ⟨rfl, rfl, hIk, hEk, fun o ho => .inl ho⟩⟩
        · rename_i hk0
          have hpos : 0 < xs.length := by rw [hxl]; exact Nat.mul_pos (by omega) hn0
          cases y with
          | vnil =>
            simp only [growO] at h
            split at h
            · rename_i hlen0
              cases h
              subst hlen0
              have hρ : C.ρ o = none := hI.obj o _ hy
              rw [hρ] at hsl
              have hcap0 : cap = 0 := hsl.1
              obtain ⟨newCap, arr, hrun, hnc, hasz, hget⟩ := append_grows (C := C) (ty := ty) (A := A) (len := 0) (cap := cap) (us := []) he hn hz hzn hby ht2 hlx (by simp) hvs (by omega) (by omega)
                (fun w hw => firstCells_run (C := C) (by simp) (fun hne => absurd rfl hne) _ _ w hw) hnew
              simp only [Nat.zero_add, List.nil_append] at hrun hnc hget
              have hcc := hcells ⟨C.ρ, FW C is, kill C.H is, C.U, C.w⟩ rfl rfl
              have hkn : k * n ≤ newCap * n := Nat.mul_le_mul_right _ hnc
              obtain ⟨hI2, he2⟩ := row_moves (C := ⟨C.ρ, FW C is, kill C.H is, C.U, C.w⟩) hIk hyk rfl (cs' := xs.map .d) (w' := C.w.drew.alloc (.cells arr e)) (b := C.w.heap.size) (S := newCap * n) (c' := arr) (t := e)
                ((Grew.drew C.w).trans (Grew.alloc _ _)) (Nat.le_refl _) (alloc_block _ _) hasz (by simp [Am.Obj.cs]; omega) (by simp; omega)
                (fun j hj => by
                  simp at hj
                  rw [hget j (by omega)]
                  exact list_one hv1 j (by omega))
                (fun j x hj => by
                  have hjl : j < xs.length := by have := (List.getElem?_eq_some_iff.1 hj).1; simpa using this
                  rw [hget j (by omega), ← getD_toArray]
                  exact hcc.2.2 j x hj)
              refine ⟨_, _, hrun, ?_, ⟨rfl, rfl, hI2, hEk.trans he2, fun o ho => .inl ho⟩⟩
              refine .osl _ _ _ _ _ _ _ hnc hU (fun x hx => ?_) (fun x hx ex => ?_)
              · simp only [upd, if_pos] at hx
                cases hx
                simp [Am.Obj.cs]
              · simp only [SlAt, if_pos]
                exact ⟨by omega, fun _ => trivial, rfl⟩
            · cases h
          | cells cs =>
            simp only [growO] at h
            split at h
            · cases h
            rename_i hszn
            have hszn : sz = n := by omega
            subst hszn
            obtain ⟨b, S', hρ⟩ : ∃ b S', C.ρ o = some (b, S') := by
              obtain ⟨b, c, t2, e2, _⟩ := hI.obj o _ hy; exact ⟨b, _, e2⟩
            rw [hρ] at hsl
            obtain ⟨hS, hA, hA2⟩ := hsl
            obtain ⟨c, tt, hh, hcs, hle, hmem⟩ := row_mem hI hy hrow hρ
            have hmul : (len + k) * sz = len * sz + k * sz := Nat.add_mul _ _ _
            split at h
            · rename_i hfit
              cases h
              have hcap : len + k ≤ cap := by
                have : (len + k) * sz ≤ cap * sz := by omega
                exact Nat.le_of_mul_le_mul_right this hn0
              have hA := hA (by omega)
              subst hA
              have hrun := append_fits (P := P) (C := C) (ty := ty) he hn ht2 hlx hvs hv1 hcap hh (off := off) (by omega) hnew
              obtain ⟨hI2, he2⟩ := row_splice (C := ⟨C.ρ, FW C is, kill C.H is, C.U, C.w⟩) hIk hyk hrow rfl hρ hh (off := off + len * sz) (hcells _ rfl rfl) (by simp; omega)
              simp only [List.size_toArray] at hI2 he2
              refine ⟨_, _, hrun, ?_, ⟨rfl, rfl, hI2, hEk.trans he2, fun o ho => .inl ho⟩⟩
              refine .osl _ _ _ _ _ _ _ hcap hU (fun x hx => ?_) (fun x hx ex => ?_)
              · simp only [upd, if_pos] at hx
                cases hx
                have hpl : (splice cs (off + len * sz) (xs.map .d)).length = cs.length := splice_length _ _ _ (by simp [Am.Obj.cs] at *; omega)
                show ver ≤ (splice cs (off + len * sz) (xs.map .d)).length
                rw [hpl]; exact Nat.le_of_eq hver.symm
              · show SlAt (C.ρ o) off sz _ cap
                rw [hρ]
                exact ⟨hS, fun _ => rfl, rfl⟩
            · cases h
          | mp => cases hrow
          | frz => cases h
          | grow cs =>
            simp only [growO] at h
            split at h
            · cases h
            rename_i hszn
            have hszn : sz = n := by omega
            subst hszn
            obtain ⟨b, S', hρ⟩ : ∃ b S', C.ρ o = some (b, S') := by
              obtain ⟨b, S, c, t2, e2, _⟩ := hI.obj o _ hy; exact ⟨b, _, e2⟩
            rw [hρ] at hsl
            obtain ⟨hS, hA, hA2⟩ := hsl
            obtain ⟨c, tt, hh, hcs, hle, hmem⟩ := row_mem hI hy hrow hρ
            have hmul : (len + k) * sz = len * sz + k * sz := Nat.add_mul _ _ _
            split at h
            · rename_i hfit
              cases h
              have hcap : len + k ≤ cap := by
                have : (len + k) * sz ≤ cap * sz := by omega
                exact Nat.le_of_mul_le_mul_right this hn0
              have hA := hA (by omega)
              subst hA
              have hrun := append_fits (P := P) (C := C) (ty := ty) he hn ht2 hlx hvs hv1 hcap hh (off := off) (by omega) hnew
              obtain ⟨hI2, he2⟩ := row_splice (C := ⟨C.ρ, FW C is, kill C.H is, C.U, C.w⟩) hIk hyk hrow rfl hρ hh (off := off + len * sz) (hcells _ rfl rfl) (by simp; omega)
              simp only [List.size_toArray] at hI2 he2
              refine ⟨_, _, hrun, ?_, ⟨rfl, rfl, hI2, hEk.trans he2, fun o ho => .inl ho⟩⟩
              refine .osl _ _ _ _ _ _ _ hcap hU (fun x hx => ?_) (fun x hx ex => ?_)
              · simp only [upd, if_pos] at hx
                cases hx
                have hpl : (splice cs (off + len * sz) (xs.map .d)).length = cs.length := splice_length _ _ _ (by simp [Am.Obj.cs] at *; omega)
                show ver ≤ (splice cs (off + len * sz) (xs.map .d)).length
                rw [hpl]; exact Nat.le_of_eq hver.symm
              · show SlAt (C.ρ o) off sz _ cap
                rw [hρ]
                exact ⟨hS, fun _ => rfl, rfl⟩
            · rename_i hnfit
              split at h
              · rename_i hoff
                cases h
                subst hoff
                have hcl : cs.length = ver := hver
                have hlv : len * sz ≤ cs.length := by omega
                have hcs'l : (cs.take (len * sz) ++ xs.map AV.d).length = len * sz + xs.length := by simp; omega
                have htl : (c.toList.take (len * sz)).length = len * sz := by simp [Am.Obj.cs] at hle; simp; omega
                have hrold : ∀ (j : Nat) (x : AV), (cs.take (len * sz))[j]? = some x → Rep ⟨C.ρ, FW C is, kill C.H is, C.U, C.w⟩ x ((c.toList.take (len * sz)).getD j undef) := by
                  intro j x hj
                  rw [List.getElem?_take] at hj
                  split at hj
                  · rename_i hj2
                    have := (hmem.rep j x hj).ext hI hEk
                    rw [List.getD_eq_getElem?_getD, List.getElem?_take, if_pos hj2]
                    rw [Array.getD_eq_getD_getElem?] at this
                    simpa using this
                  · cases hj
                have hcat := cells_cat (C := ⟨C.ρ, FW C is, kill C.H is, C.U, C.w⟩) (xs := cs.take (len * sz)) (ys := xs.map .d) (us := c.toList.take (len * sz)) (vs := vs) (by rw [htl]; simp; omega) (by simp [hvl]) hrold
                  (fun j x hj => by rw [← getD_toArray]; exact (hcells ⟨C.ρ, FW C is, kill C.H is, C.U, C.w⟩ rfl rfl).2.2 j x hj)
                have hone : ∀ j, j < len * sz + xs.length → ((c.toList.take (len * sz) ++ vs).getD j undef).oneCell' = true := by
                  intro j hj
                  rw [List.getD_eq_getElem?_getD, List.getElem?_append]
                  split
                  · rename_i hj2
                    rw [htl] at hj2
                    have := hmem.one j (by show j < cs.length; omega)
                    rw [List.getElem?_take, if_pos hj2]
                    rw [Array.getD_eq_getD_getElem?] at this
                    simpa using this
                  · rw [htl, ← List.getD_eq_getElem?_getD]
                    exact list_one hv1 _ (by omega)
                by_cases hroom : len + k ≤ cap
                · have hA := hA (by omega)
                  subst hA
                  have hcapm : (len + k) * sz ≤ cap * sz := Nat.mul_le_mul_right _ hroom
                  have hrun := append_fits (P := P) (C := C) (ty := ty) he hn ht2 hlx hvs hv1 hroom hh (off := 0) (by omega) hnew
                  simp only [Nat.zero_add] at hrun
                  have hget : ∀ j, j < len * sz + xs.length → (c.toList.take (len * sz) ++ vs ++ c.toList.drop (len * sz + vs.length)).toArray.getD j undef = (c.toList.take (len * sz) ++ vs).getD j undef := by
                    intro j hj
                    rw [getD_toArray, List.getD_eq_getElem?_getD, List.getD_eq_getElem?_getD, List.getElem?_append_left (by rw [List.length_append, htl]; omega)]
                  obtain ⟨hI2, he2⟩ := row_longer (C := ⟨C.ρ, FW C is, kill C.H is, C.U, C.w⟩) hIk hyk hρ hh (cs' := cs.take (len * sz) ++ xs.map .d) (c' := (c.toList.take (len * sz) ++ vs ++ c.toList.drop (len * sz + vs.length)).toArray)
                    (by simp; omega) (by rw [hcs'l]; omega) (by rw [hcs'l]; omega) (fun j hj => by rw [hcs'l] at hj; rw [hget j hj]; exact hone j hj)
                    (fun j x hj => by rw [hget j (by have := (List.getElem?_eq_some_iff.1 hj).1; omega)]; exact hcat j x hj)
                  refine ⟨_, _, hrun, ?_, ⟨rfl, rfl, hI2, hEk.trans he2, fun o ho => .inl ho⟩⟩
                  refine .osl _ _ _ _ _ _ _ hroom hU (fun x hx => ?_) (fun x hx ex => ?_)
                  · simp only [upd, if_pos] at hx
                    cases hx
                    simp only [Am.Obj.cs, hcs'l]; exact Nat.le_refl _
                  · show SlAt (C.ρ o) 0 sz _ cap
                    rw [hρ]
                    exact ⟨hS, fun _ => rfl, rfl⟩
                · have hlen36 : len ≤ 68719476736 := by
                    have : len * 1 ≤ len * sz := Nat.mul_le_mul_left _ hn0
                    omega
                  obtain ⟨newCap, arr, hrun, hnc, hasz, hget⟩ := append_grows (C := C) (ty := ty) (A := A) (len := len) (cap := cap) (us := c.toList.take (len * sz)) he hn hz hzn hby ht2 hlx htl hvs (by omega) (by omega)
                    (fun w hw => firstCells_run (C := C) htl (fun hne => by
                      have hl0 : 0 < len := by
                        cases len with
                        | zero => simp at hne
                        | succ => omega
                      refine ⟨⟨b, 0, none⟩, hA (by omega), fun j hj => ?_⟩
                      rw [htl] at hj
                      have := hmem.at_ j (by show j < cs.length; omega)
                      rw [List.getD_eq_getElem?_getD, List.getElem?_take, if_pos hj]
                      rw [Array.getD_eq_getD_getElem?] at this
                      simpa using this) _ _ w hw) hnew
                  have hkn : (len + k) * sz ≤ newCap * sz := Nat.mul_le_mul_right _ hnc
                  obtain ⟨hI2, he2⟩ := row_moves (C := ⟨C.ρ, FW C is, kill C.H is, C.U, C.w⟩) hIk hyk rfl (cs' := cs.take (len * sz) ++ xs.map .d) (w' := C.w.drew.alloc (.cells arr e)) (b := C.w.heap.size) (S := newCap * sz) (c' := arr) (t := e)
                    ((Grew.drew C.w).trans (Grew.alloc _ _)) (Nat.le_refl _) (alloc_block _ _) hasz (by rw [hcs'l]; show cs.length < _; omega) (by rw [hcs'l]; omega)
                    (fun j hj => by rw [hcs'l] at hj; rw [hget j (by omega)]; exact hone j hj)
                    (fun j x hj => by rw [hget j (by have := (List.getElem?_eq_some_iff.1 hj).1; omega)]; exact hcat j x hj)
                  refine ⟨_, _, hrun, ?_, ⟨rfl, rfl, hI2, hEk.trans he2, fun o ho => .inl ho⟩⟩
                  refine .osl _ _ _ _ _ _ _ hnc hU (fun x hx => ?_) (fun x hx ex => ?_)
                  · simp only [upd, if_pos] at hx
                    cases hx
                    simp only [Am.Obj.cs, hcs'l]; exact Nat.le_refl _
                  · simp only [SlAt, if_pos]
                    exact ⟨by omega, fun _ => trivial, rfl⟩
              · cases h
    · cases h
  · rename_i cs len nl
    split at h
    · rename_i hc
      obtain ⟨hcl, hlsmall⟩ := hc
      split at h
      · rename_i hk0
        cases h
        subst hk0
        have hvs0 : vs = [] := List.eq_nil_of_length_eq_zero (by rw [hvs, Nat.zero_mul])
        subst hvs0
        have hs' := hs
        cases hs.dinv with
        | sl _ _ cap _ _ A us hlc hf h1 hrr hcc hnl =>
          exact ⟨⟨C.ρ, FW C is, kill C.H is, C.U, C.w⟩, .slice A len cap, append_none he hn ht2 hlx hlc hnew, hs'.ext hI hEk, ⟨rfl, rfl, hIk, hEk, fun o ho => .inl ho⟩⟩
      · rename_i hk0
        cases h
        cases hs.dinv with
        | sl _ _ cap _ _ A us hlc hf h1 hrr hcc hnl =>
          have hcap : cap = len := hf rfl
          have hgetus : ∀ j, j < cs.length → ((List.range cs.length).map us).getD j undef = us j := fun j hj => by simp [List.getD_eq_getElem?_getD, hj]
          have hul : ((List.range cs.length).map us).length = cs.length := by simp
          have hlen36 : len ≤ 68719476736 := by
            have : len * 1 ≤ len * n := Nat.mul_le_mul_left _ hn0
            omega
          obtain ⟨newCap, arr, hrun, hnc, hasz, hget⟩ := append_grows (C := C) (ty := ty) (A := A) (len := len) (cap := cap) (us := (List.range cs.length).map us) he hn hz hzn hby ht2 hlx (by rw [hul, hcl]) hvs (by omega) (by omega)
            (fun w hw => firstCells_run (C := C) (by rw [hul, hcl]) (fun hne => by
              obtain ⟨ad, ha, _, hcell⟩ := hcc (by intro e; subst e; simp at hne)
              exact ⟨ad, ha, fun j hj => by rw [hul] at hj; rw [hgetus j hj]; exact hcell j hj⟩) _ _ w hw) hnew
          have hmul : (len + k) * n = len * n + k * n := Nat.add_mul _ _ _
          have hkn : (len + k) * n ≤ newCap * n := Nat.mul_le_mul_right _ hnc
          have hcat := cells_cat (C := ⟨C.ρ, FW C is, kill C.H is, C.U, C.w⟩) (xs := cs.map .d) (ys := xs.map .d) (us := (List.range cs.length).map us) (vs := vs) (by simp) (by simp [hvl])
            (fun j x hj => by
              simp only [List.getElem?_map, Option.map_eq_some_iff] at hj
              obtain ⟨q, hq, rfl⟩ := hj
              rw [hgetus j (List.getElem?_eq_some_iff.1 hq).1]
              exact .d _ _ (FW_of (hrr j q hq)))
            (fun j x hj => by
              simp only [List.getElem?_map, Option.map_eq_some_iff] at hj
              obtain ⟨q, hq, rfl⟩ := hj
              exact .d _ _ (hvr j q hq))
          have hone : ∀ j, j < (len + k) * n → (((List.range cs.length).map us ++ vs).getD j undef).oneCell' = true := by
            intro j hj
            rw [List.getD_eq_getElem?_getD, List.getElem?_append]
            split
            · rename_i hj2
              rw [hul] at hj2
              rw [← List.getD_eq_getElem?_getD, hgetus j hj2]
              exact h1 j hj2
            · rename_i hj2
              rw [hul] at hj2 ⊢
              rw [← List.getD_eq_getElem?_getD]
              exact list_one hv1 _ (by omega)
          have hcl2 : (cs.map AV.d ++ xs.map AV.d).length = (len + k) * n := by simp; omega
          obtain ⟨hI2, he2⟩ := newRow_ok (C := ⟨C.ρ, FW C is, kill C.H is, C.U, C.w⟩) hIk (hid 0) (cs := cs.map .d ++ xs.map .d) (arr := arr) (t := e) (ob := .grow (cs.map .d ++ xs.map .d)) (.inr rfl) (by rw [hcl2]; omega)
            (fun j hj => by rw [hcl2] at hj; rw [hget j hj]; exact hone j hj) (fun j x hj => by rw [hget j (by have := (List.getElem?_eq_some_iff.1 hj).1; omega)]; exact hcat j x hj)
            (w' := C.w.drew.alloc (.cells arr e)) (b := C.w.heap.size) ((Grew.drew C.w).trans (Grew.alloc _ _)) (Nat.le_refl _) (alloc_block _ _)
          refine ⟨_, _, hrun, ?_, ⟨rfl, rfl, hI2, hEk.trans he2, fun o ho => ho.imp (fun h => h) (fun h => by rw [h])⟩⟩
          refine .osl _ _ _ _ _ _ _ hnc (.inr rfl) (fun x hx => ?_) (fun x hx ex => ?_)
          · simp only [upd, if_pos] at hx
            cases hx
            simp [Am.Obj.cs]
          · simp only [SlAt, if_pos]
            exact ⟨by omega, fun _ => trivial, rfl⟩
    · cases h
  · cases h

end
end Go.Proofs.Ytiafeijkifpfaaa.Am

/-
  Joined texts: Am12, Am13, Am14, AmM. No condition.
-/
import Derived.Test.YtiafeijkifpfaaaAmPae
import Derived.IntWalk
/-
 The abstract machine: slices made; objects read as data. No condition.
-/
namespace Go.Proofs.Ytiafeijkifpfaaa.Am
open Go
set_option linter.unusedVariables false
section
variable {P : Program} {C : Cx}
theorem buildSlice_sim {t : TypeId} {id len : Nat} {ps : List (Nat × AV)} {us : Array (Nat × Value)} {e : TypeId} {n : Nat} {z cs : List AV} (hI : Inv C) (hid : ∀ j, ¬ C.U (id, j))
  (he : telem P t = some e) (hn : tsize P e = some n) (hz : zeroCells P e = some z) (hc : ¬ (n = 0 ∨ len = 0 ∨ len * n > 16777216 ∨ z.length ≠ n))
  (hf : fillC (fun i => some (i * n, n)) (List.replicate len z).flatten ps = some cs) (hus : us.size = ps.length) (hu : ∀ (j : Nat) (p : Nat × AV), ps[j]? = some p → ∃ u, us[j]? = some (p.1, u) ∧ Rep C p.2 u) :
  ∃ C' : Cx, ∃ v, (Instr.buildSlice t len us).run P C.w = .ok v C'.w ∧ Rep C' (.osl (id, 0) 0 len n cs.length) v ∧ Stepped C C' C'.w (upd C.H (id, 0) (.cells cs)) id := by
 have h0 : 0 < n := by omega
 obtain ⟨v, hv, hvs, hck⟩ := zeros_ok (P := P) (C := C) hz (by omega) h0 len
 obtain ⟨arr', ha, hr⟩ := fillC_sim hf hck (us := us.toList) (by simpa using hus) (fun j p hj => by simpa using hu j p hj)
 have hlen : cs.length = len * n := by
  have : ∀ (ps : List (Nat × AV)) (a b : List AV), fillC (fun i => some (i * n, n)) a ps = some b → b.length = a.length := by
   intro ps
   induction ps with
   | nil => intro a b h; cases h; rfl
   | cons p ps ih =>
    intro a b h
    obtain ⟨i, x⟩ := p
    simp only [fillC, Option.bind_eq_bind, Option.bind_some] at h
    split at h
    ·rename_i hq
     rw [ih _ _ h, splice_length _ _ _ (by omega)]
    ·cases h
  rw [this _ _ _ hf, replicate_flatten_length]
  have : z.length = n := by omega
  rw [this]
 obtain ⟨hI2, he2⟩ := newRow_ok hI (hid 0) (cs := cs) (arr := arr') (t := e) (ob := .cells cs) (.inl ⟨rfl, hr.1⟩) (Nat.le_of_eq hr.1.symm) (fun j hj => hr.2.1 j (by rw [hr.1]; exact hj)) hr.2.2
  (Grew.alloc C.w (.cells arr' e)) (Nat.le_refl _) (alloc_block _ _)
 have hne : len * n ≠ 0 := Nat.mul_ne_zero (by omega) (by omega)
 have hle : ¬ len * n > 2 ^ 24 := by
  have : (2:Nat) ^ 24 = 16777216 := by decide
  omega
 refine ⟨_, .slice (some ⟨C.w.heap.size, 0, none⟩) len len, ?_, ?_, ⟨rfl, rfl, hI2, he2, fun o ho => ho.imp (fun h => h) (fun h => by rw [h])⟩⟩
 ·simp only [Instr.buildSlice, Sem.run_bind, und_run (elem_und he), Result.andThen_ok, size_run hn, if_neg hle, if_neg hne, hv, Sem.run_pure, ha, newRow, run_newObj]
  rfl
 ·refine .osl _ _ _ _ _ _ _ (Nat.le_refl _) (.inr rfl) (fun x hx => ?_) (fun x hx ex => ?_)
  ·simp only [upd, if_pos] at hx
   cases hx
   exact Nat.le_refl _
  ·simp only [SlAt, if_pos]
   exact ⟨by rw [hr.1, hlen]; omega, fun _ => by simp, rfl⟩
theorem buildSlice0_sim {t : TypeId} {id : Nat} {e : TypeId} {n : Nat} (hI : Inv C) (hid : ∀ j, ¬ C.U (id, j)) (he : telem P t = some e) (hn : tsize P e = some n) :
  ∃ C' : Cx, ∃ v, (Instr.buildSlice t 0 #[]).run P C.w = .ok v C'.w ∧ Rep C' (.osl (id, 0) 0 0 n 0) v ∧ Stepped C C' C'.w (upd C.H (id, 0) (.grow [])) id := by
 obtain ⟨hI2, he2⟩ := newRow_ok hI (hid 0) (cs := []) (arr := #[]) (t := e) (ob := .grow []) (.inr rfl) (Nat.le_refl _) (fun j hj => absurd hj (Nat.not_lt_zero _)) (fun j x hj => by simp at hj)
  (Grew.alloc C.w (.cells #[] e)) (Nat.le_refl _) (alloc_block _ _)
 refine ⟨_, .slice (some ⟨C.w.heap.size, 0, none⟩) 0 0, ?_, ?_, ⟨rfl, rfl, hI2, he2, fun o ho => ho.imp (fun h => h) (fun h => by rw [h])⟩⟩
 ·simp only [Instr.buildSlice, Sem.run_bind, und_run (elem_und he), Result.andThen_ok, size_run hn, Nat.zero_mul, if_true, newRow]
  rw [if_neg (by decide)]
  have : (Array.range 0).map (fun x => (#[] : Array Value)[x % (#[] : Array Value).size]!) = #[] := by simp
  simp only [Sem.run_bind, Sem.run_pure, Result.andThen_ok, this, Instr.fill, run_newObj]
  rfl
 ·refine .osl _ _ _ _ _ _ _ (Nat.le_refl _) (.inr rfl) (fun x hx => Nat.zero_le _) (fun x hx ex => ?_)
  simp only [SlAt, if_pos]
  exact ⟨by simp, fun _ => by simp, rfl⟩
theorem nilCmp_sim {t : TypeId} {op : BinOp} {X r : AV} {b : Bool} {x y : Operand} {u : Value} (hI : Inv C) (hk : tkind P t = 3) (h : nilCmp C.H X = some b) (hr : eqB op b = some r) (hu : Rep C X u) :
  ∃ z, (do eqGuard op t x y u (.slice none 0 0); binOp op t u (.slice none 0 0) : Sem Value).run P C.w = .ok z C.w ∧ Rep C r z := by
 obtain ⟨A, len, cap, rfl, hA⟩ : ∃ A len cap, u = .slice A len cap ∧ A.isNone = b := by
  unfold nilCmp at h
  split at h
  ·cases hu.dinv with
   | sl _ _ cap _ _ A vs hlc hf h1 hrr hcc hnl => exact ⟨_, _, _, rfl, hnl b h⟩
  ·simp only [Option.bind_eq_some_iff] at h
   obtain ⟨y, hy, h⟩ := h
   split at h
   ·rename_i hver
    cases hu with
    | osl _ _ _ _ _ cap A hlc hU hv hs =>
     refine ⟨_, _, _, rfl, ?_⟩
     have hsl := hs y hy hver
     cases y with
     | vnil =>
      rw [show C.ρ _ = none from hI.obj _ _ hy] at hsl
      cases h
      rw [hsl.2]; rfl
     | mp => cases h
     | rc => cases h
     | cells cs =>
      obtain ⟨b', c, t2, e2, _⟩ := hI.obj _ _ hy
      rw [e2] at hsl
      cases h
      have := hsl.2.2
      cases A <;> simp_all
     | grow cs =>
      obtain ⟨b', S, c, t2, e2, _⟩ := hI.obj _ _ hy
      rw [e2] at hsl
      cases h
      have := hsl.2.2
      cases A <;> simp_all
     | frz cs =>
      obtain ⟨b', S, c, t2, e2, _⟩ := hI.obj _ _ hy
      rw [e2] at hsl
      cases h
      have := hsl.2.2
      cases A <;> simp_all
   ·cases h
  ·cases h
 have ht : ∃ e, P.underlying t = some (.slice e) := by unfold tkind at hk; split at hk <;> first | exact ⟨_, by assumption⟩ | cases hk
 obtain ⟨e, ht⟩ := ht
 have heq : (Op.equal t (.slice A len cap) (.slice none 0 0)).run P C.w = .ok b C.w := by
  have one : ∀ d, (Op.equalIn (d + 1) t (.slice A len cap) (.slice none 0 0)).run P C.w = .ok b C.w := fun d => by
   cases A <;> simp [Op.equalIn, und_run ht, ← hA]
  exact one 9999
 obtain ⟨z, hz, hq⟩ := eqB_sim (P := P) (t := t) (x := x) (y := y) (u := .slice A len cap) (v := .slice none 0 0) (w := C.w) hr (by simp) (by simp) (by simp) (by simp) (by simp) (by simp) heq
 exact ⟨z, hz, hq C⟩
theorem makeSlice_sim {t : TypeId} {id : Nat} {e : TypeId} {n : Nat} {z : List AV} {a b : Int} (hI : Inv C) (hid : ∀ j, ¬ C.U (id, j))
  (he : telem P t = some e) (hn : tsize P e = some n) (hz : zeroCells P e = some z) (hb : tbytes P e = some true) (hc : 0 ≤ a ∧ a ≤ b ∧ b ≤ 1099511627776 ∧ 0 < n ∧ z.length = n) :
  ∃ C' : Cx, ∃ v, (Instr.makeSlice t (.int .i64 a) (.int .i64 b)).run P C.w = .ok v C'.w ∧ Rep C' (.osl (id, 0) 0 a.toNat n (a.toNat * n)) v ∧
   Stepped C C' C'.w (upd C.H (id, 0) (if a = b then .cells (List.replicate a.toNat z).flatten else .grow (List.replicate a.toNat z).flatten)) id := by
 obtain ⟨c1, c2, c3, c4, c5⟩ := hc
 obtain ⟨v, hv, hvs, hck⟩ := zeros_ok (P := P) (C := C) hz c5 c4 b.toNat
 obtain ⟨i, hi, hby⟩ : ∃ i, P.info? e = some i ∧ i.bytes ≤ 256 := by
  unfold tbytes at hb
  cases hi : P.info? e with
  | none => rw [hi] at hb; cases hb
  | some i => rw [hi] at hb; exact ⟨i, rfl, by simpa using hb⟩
 have hlen : (List.replicate a.toNat z).flatten.length = a.toNat * n := by rw [replicate_flatten_length, c5]
 have hlenb : (List.replicate b.toNat z).flatten.length = b.toNat * n := by rw [replicate_flatten_length, c5]
 have hmul : a.toNat * n ≤ b.toNat * n := Nat.mul_le_mul_right _ (by omega)
 have hpre : ∀ j, j < a.toNat * n → (List.replicate a.toNat z).flatten[j]? = (List.replicate b.toNat z).flatten[j]? := by
  intro j hj
  rw [replicate_flatten_get _ _ _ (by omega) (by rw [c5]; exact hj), replicate_flatten_get _ _ _ (by omega) (by rw [c5]; omega)]
 have hsz := hck.1
 obtain ⟨hI2, he2⟩ := newRow_ok hI (hid 0) (cs := (List.replicate a.toNat z).flatten) (arr := (Array.range (b.toNat * n)).map (v.cells[· % v.cells.size]!)) (t := e)
  (ob := if a = b then .cells (List.replicate a.toNat z).flatten else .grow (List.replicate a.toNat z).flatten)
  (by
   by_cases q : a = b
   ·rw [if_pos q]; exact .inl ⟨rfl, by rw [hsz, hlenb, hlen, q]⟩
   ·rw [if_neg q]; exact .inr rfl)
  (by rw [hsz, hlenb, hlen]; exact hmul) (fun j hj => hck.2.1 j (by rw [hsz, hlenb]; omega)) (fun j x hx => hck.2.2 j x (by rw [← hpre j (by have := (List.getElem?_eq_some_iff.1 hx).1; omega)]; exact hx))
  (Grew.alloc C.w (.cells ((Array.range (b.toNat * n)).map (v.cells[· % v.cells.size]!)) e)) (Nat.le_refl _) (alloc_block _ _)
 have wa : IntKind.i64.wrap a = a := IntWalk.i64_in _ (by omega)
 have wb : IntKind.i64.wrap b = b := IntWalk.i64_in _ (by omega)
 refine ⟨_, .slice (some ⟨C.w.heap.size, 0, none⟩) a.toNat b.toNat, ?_, ?_, ⟨rfl, rfl, hI2, he2, fun o ho => ho.imp (fun h => h) (fun h => by rw [h])⟩⟩
 ·have hnl : ¬ ((decide (b < 0) || decide ((i.bytes : Int) * b > 2 ^ 48) || decide (a < 0) || decide (a > b)) = true) := by
   simp only [Bool.or_eq_true, decide_eq_true_eq]
   have : (i.bytes : Int) * b ≤ 256 * 1099511627776 := Int.mul_le_mul (by omega) (by omega) (by omega) (by omega)
   omega
  simp only [Instr.makeSlice, asInt, asIntOf, typeInfo, Sem.run_bind, und_run (elem_und he), Result.andThen_ok, Sem.run_pure, run_program, hi, wa, wb, Sem.run_ite]
  rw [if_neg hnl]
  simp only [run_askRoom, Result.andThen_ok, size_run hn]
  by_cases q : b.toNat * n = 0
  ·rw [if_pos q, q]
   have e0 : ∀ f : Nat → Value, (Array.range 0).map f = #[] := fun f => by simp
   simp only [newRow, Sem.run_bind, run_newObj, Result.andThen_ok, Sem.run_pure, e0]
   rfl
  ·rw [if_neg q, hv]
   simp only [newRow, Sem.run_bind, run_newObj, Result.andThen_ok, Sem.run_pure]
   rfl
 ·refine .osl _ _ _ _ _ _ _ (by omega) (.inr rfl) (fun x hx => ?_) (fun x hx ex => ?_)
  ·simp only [upd, if_pos] at hx
   cases hx
   split <;> (simp only [Am.Obj.cs]; omega)
  ·simp only [SlAt, if_pos]
   exact ⟨by rw [hsz, hlenb]; omega, fun _ => by simp, rfl⟩
def FW (C : Cx) (is : List Oid) : Nat → Prop := fun b => C.F b ∨ ∃ o ∈ is, ∃ x S, C.H o = some x ∧ x.isRow = true ∧ C.ρ o = some (b, S)
theorem FW_mono {is is' : List Oid} (h : ∀ o ∈ is, o ∈ is') {x : D} {v : Value} (hr : RepD (FW C is) C.w x v) : RepD (FW C is') C.w x v :=
 hr.keep (fun b hb => hb.imp (fun h => h) (fun ⟨o, ho, q⟩ => ⟨o, h o ho, q⟩)) (fun _ _ _ => rfl)
theorem FW_of {is : List Oid} {x : D} {v : Value} (hr : RepD C.F C.w x v) : RepD (FW C is) C.w x v := hr.keep (fun b hb => .inl hb) (fun _ _ _ => rfl)
theorem mapD_sim {f : AV → Option (D × List Oid)} (hf : ∀ v x is u, f v = some (x, is) → Rep C v u → RepD (FW C is) C.w x u) : ∀ {vs : List AV} {ds : List D} {is : List Oid}, mapD f vs = some (ds, is) →
  ds.length = vs.length ∧ ∀ (j : Nat) (d : D), ds[j]? = some d → ∃ v, vs[j]? = some v ∧ ∀ u, Rep C v u → RepD (FW C is) C.w d u := by
 intro vs
 induction vs with
 | nil => intro ds is h; cases h; exact ⟨rfl, fun j d hd => by simp at hd⟩
 | cons v r ih =>
  intro ds is h
  simp only [mapD, Option.bind_eq_bind, Option.bind_eq_some_iff] at h
  obtain ⟨⟨x, i⟩, h1, ⟨xs, is'⟩, h2, h⟩ := h
  cases h
  obtain ⟨hl, hr⟩ := ih h2
  refine ⟨by simp [hl], fun j d hd => ?_⟩
  cases j with
  | zero =>
   simp only [List.getElem?_cons_zero, Option.some.injEq] at hd
   subst hd
   exact ⟨v, rfl, fun u hu => FW_mono (fun o ho => List.mem_append_left _ ho) (hf v x i u h1 hu)⟩
  | succ j =>
   obtain ⟨w, hw, hq⟩ := hr j d (by simpa using hd)
   exact ⟨w, by simpa using hw, fun u hu => FW_mono (fun o ho => List.mem_append_right _ ho) (hq u hu)⟩
theorem reify_sim (hI : Inv C) : ∀ (n : Nat) {X : AV} {d : D} {is : List Oid} {u : Value}, reify C.H n X = some (d, is) → Rep C X u → RepD (FW C is) C.w d u := by
 intro n
 induction n with
 | zero =>
  intro X d is u h hu
  cases X with
  | d x => simp only [reify, Option.some.injEq, Prod.mk.injEq] at h; obtain ⟨rfl, rfl⟩ := h; exact FW_of hu.dinv
  | _ => simp [reify] at h
 | succ n ih =>
  intro X d is u h hu
  cases X with
  | d x => simp only [reify, Option.some.injEq, Prod.mk.injEq] at h; obtain ⟨rfl, rfl⟩ := h; exact FW_of hu.dinv
  | osl o off len sz ver =>
   simp only [reify, Option.bind_eq_bind, Option.bind_eq_some_iff] at h
   obtain ⟨x, hx, h⟩ := h
   split at h
   ·rename_i hc
    simp only [Bool.and_eq_true, decide_eq_true_eq] at hc
    obtain ⟨⟨hrow, hver⟩, hfit⟩ := hc
    simp only [Option.bind_eq_some_iff] at h
    obtain ⟨⟨ds, is'⟩, hm, h⟩ := h
    cases h
    obtain ⟨hl, hr⟩ := mapD_sim (C := C) (f := reify C.H n) (fun v x is u h1 h2 => ih h1 h2) hm
    have hlen : ds.length = len * sz := by rw [hl]; simp; omega
    cases hu with
    | osl _ _ _ _ _ cap A hlc hU hv hs =>
     have hsl := hs x hx hver
     unfold SlAt at hsl
     split at hsl
     ·rename_i hρ
      have hc0 : cap = 0 := hsl.1
      have : len = 0 := by omega
      subst this
      have hds : ds = [] := List.eq_nil_of_length_eq_zero (by rw [hlen]; exact Nat.zero_mul _)
      subst hds
      exact .sl [] 0 cap false _ A (fun _ => undef) (by omega) (fun h => by cases h) (fun j hj => by simp at hj) (fun j x hx => by simp at hx) (fun hne => absurd rfl hne) (fun b hb => by
       cases x with
       | vnil => cases hb; rw [hsl.2]; rfl
       | mp => cases hrow
       | rc => cases hrow
       | cells cs => obtain ⟨b', c, t2, e2, _⟩ := hI.obj o _ hx; rw [hρ] at e2; cases e2
       | frz cs => obtain ⟨b', S, c, t2, e2, _⟩ := hI.obj o _ hx; rw [hρ] at e2; cases e2
       | grow cs => obtain ⟨b', S, c, t2, e2, _⟩ := hI.obj o _ hx; rw [hρ] at e2; cases e2)
     ·rename_i b S hρ
      obtain ⟨hS, hA, hA2⟩ := hsl
      obtain ⟨c, tt, hh, hcs, hle, hmem⟩ := row_mem hI hx hrow hρ
      have e := add0 b off
      have hmem2 := hmem.drop off
      rw [e] at hmem2
      have hwin : ∀ j v, ((x.cs.drop off).take (len * sz))[j]? = some v → (x.cs.drop off)[j]? = some v := fun j v hj => by
       rw [List.getElem?_take] at hj; split at hj <;> first | exact hj | cases hj
      refine .sl ds len cap false _ A (fun j => c.getD (off + j) undef) hlc (fun h => by cases h) (fun j hj => hmem2.one j (by simp; omega)) (fun j y hy => ?_) (fun hne => ?_) (fun b hb => ?_)
      ·obtain ⟨v, hv2, hq⟩ := hr j y hy
       exact FW_mono (fun o ho => by split <;> first | exact ho | exact List.mem_cons_of_mem _ ho) (hq _ (hmem2.rep j v (hwin j v hv2)))
      ·have hpos : 0 < ds.length := by cases ds with | nil => exact absurd rfl hne | cons => simp
       have : 0 < len := by
        cases len with
        | zero => rw [Nat.zero_mul] at hlen; omega
        | succ => omega
       refine ⟨⟨b, off, none⟩, hA (by omega), .inr ⟨o, by rw [if_neg (by cases ds with | nil => exact absurd rfl hne | cons => simp)]; exact List.mem_cons_self, x, S, hx, hrow, hρ⟩, fun j hj => hmem2.at_ j (by simp; omega)⟩
      ·cases x with
       | vnil => rw [show C.ρ o = none from hI.obj o _ hx] at hρ; cases hρ
       | mp => cases hrow
       | rc => cases hrow
       | cells cs => cases hb; cases A <;> simp_all
       | grow cs => cases hb; cases A <;> simp_all
       | frz cs => cases hb; cases A <;> simp_all
   ·cases h
  | vsl o off len sz ver =>
   simp only [reify, Option.bind_eq_bind, Option.bind_eq_some_iff] at h
   obtain ⟨x, hx, h⟩ := h
   split at h
   ·rename_i hc
    simp only [Bool.and_eq_true, decide_eq_true_eq] at hc
    obtain ⟨⟨hrow, hver⟩, hfit⟩ := hc
    simp only [Option.bind_eq_some_iff] at h
    obtain ⟨⟨ds, is'⟩, hm, h⟩ := h
    cases h
    obtain ⟨hl, hr⟩ := mapD_sim (C := C) (f := reify C.H n) (fun v x is u h1 h2 => ih h1 h2) hm
    have hlen : ds.length = len * sz := by rw [hl]; simp; omega
    cases hu with
    | vsl _ _ _ _ _ cap A hlc hU hv hs =>
     obtain ⟨b, S, hρ, rfl⟩ := hs x hx hver
     obtain ⟨c, tt, hh, hcs, hle, hmem⟩ := row_mem hI hx hrow hρ
     have e := add0 b off
     have hmem2 := hmem.drop off
     rw [e] at hmem2
     have hwin : ∀ j v, ((x.cs.drop off).take (len * sz))[j]? = some v → (x.cs.drop off)[j]? = some v := fun j v hj => by
      rw [List.getElem?_take] at hj; split at hj <;> first | exact hj | cases hj
     refine .sl ds len cap false _ _ (fun j => c.getD (off + j) undef) hlc (fun h => by cases h) (fun j hj => hmem2.one j (by simp; omega)) (fun j y hy => ?_) (fun hne => ?_) (fun b hb => by cases hb)
     ·obtain ⟨v, hv2, hq⟩ := hr j y hy
      exact FW_mono (fun o ho => by split <;> first | exact ho | exact List.mem_cons_of_mem _ ho) (hq _ (hmem2.rep j v (hwin j v hv2)))
     ·exact ⟨⟨b, off, none⟩, rfl, .inr ⟨o, by rw [if_neg (by cases ds with | nil => exact absurd rfl hne | cons => simp)]; exact List.mem_cons_self, x, S, hx, hrow, hρ⟩, fun j hj => hmem2.at_ j (by simp; omega)⟩
   ·cases h
  | ptr o off ver =>
   simp only [reify, Option.bind_eq_bind, Option.bind_eq_some_iff] at h
   obtain ⟨x, hx, h⟩ := h
   split at h
   ·rename_i hc
    simp only [Bool.and_eq_true, decide_eq_true_eq] at hc
    obtain ⟨hrow, hver⟩ := hc
    simp only [Option.bind_eq_some_iff] at h
    obtain ⟨⟨ds, is'⟩, hm, h⟩ := h
    cases h
    obtain ⟨hl, hr⟩ := mapD_sim (C := C) (f := reify C.H n) (fun v x is u h1 h2 => ih h1 h2) hm
    cases hu with
    | ptr _ _ _ a hU hv hs =>
     obtain ⟨b, S, hρ, rfl⟩ := hs x hx hver
     obtain ⟨c, tt, hh, hcs, hle, hmem⟩ := row_mem hI hx hrow hρ
     have hmem2 := hmem.drop off
     rw [add0 b off] at hmem2
     refine .dptr ds ⟨b, off, none⟩ (fun j => c.getD (off + j) undef) (fun j hj => hmem2.one j (by omega)) (fun j y hy => ?_) (.inr ⟨o, List.mem_cons_self, x, S, hx, hrow, hρ⟩) (fun j hj => hmem2.at_ j (by omega))
     obtain ⟨v, hv2, hq⟩ := hr j y hy
     exact FW_mono (fun o ho => List.mem_cons_of_mem _ ho) (hq _ (hmem2.rep j v hv2))
   ·cases h
  | fn f cs =>
   simp only [reify, Option.bind_eq_bind, Option.bind_eq_some_iff] at h
   obtain ⟨⟨ds, is'⟩, hm, h⟩ := h
   cases h
   obtain ⟨hl, hr⟩ := mapD_sim (C := C) (f := reify C.H n) (fun v x is u h1 h2 => ih h1 h2) hm
   cases hu with
   | fn _ hlt _ arr hn hrr =>
    refine .fn f hlt ds arr (by rw [hn, hl]) fun j y hy => ?_
    obtain ⟨v, hv, hq⟩ := hr j y hy
    exact hq _ (hrr j v hv)
   | bnd _ f2 hlt hg _ arr hn hrr =>
    refine .bnd f f2 hlt hg ds arr (by rw [hn, hl]) fun j y hy => ?_
    obtain ⟨v, hv, hq⟩ := hr j y hy
    exact hq _ (hrr j v hv)
  | agg cs =>
   simp only [reify, Option.bind_eq_bind, Option.bind_eq_some_iff] at h
   obtain ⟨⟨ds, is'⟩, hm, h⟩ := h
   cases h
   obtain ⟨hl, hr⟩ := mapD_sim (C := C) (f := reify C.H n) (fun v x is u h1 h2 => ih h1 h2) hm
   cases hu with
   | agg _ arr hn h1 hrr =>
    refine .agg ds arr (by rw [hn, hl]) h1 fun j y hy => ?_
    obtain ⟨v, hv, hq⟩ := hr j y hy
    exact hq _ (hrr j v hv)
  | tup cs =>
   simp only [reify, Option.bind_eq_bind, Option.bind_eq_some_iff] at h
   obtain ⟨⟨ds, is'⟩, hm, h⟩ := h
   cases h
   obtain ⟨hl, hr⟩ := mapD_sim (C := C) (f := reify C.H n) (fun v x is u h1 h2 => ih h1 h2) hm
   cases hu with
   | tup _ arr hn hrr =>
    refine .tup ds arr (by rw [hn, hl]) fun j y hy => ?_
    obtain ⟨v, hv, hq⟩ := hr j y hy
    exact hq _ (hrr j v hv)
  | _ => simp [reify] at h
theorem flat1_any {F F' : Nat → Prop} {w w' : World} {x : D} {v : Value} (hf : flat1 x = true) (h : RepD F w x v) : RepD F' w' x v := by
 cases h with
 | int k n => exact .int k n
 | bool b => exact .bool b
 | str s => exact .str s
 | nilptr => exact .nilptr
 | nilmap => exact .nilmap
 | nilfn => exact .nilfn
 | fn f hlt cs arr hn hr =>
  obtain rfl : cs = [] := by simpa [flat1] using hf
  exact .fn f hlt [] arr hn (fun j x hx => by simp at hx)
 | bnd g f hlt hg cs arr hn hr =>
  obtain rfl : cs = [] := by simpa [flat1] using hf
  exact .bnd g f hlt hg [] arr hn (fun j x hx => by simp at hx)
 | _ => cases hf
theorem flatD_any {F F' : Nat → Prop} {w w' : World} {x : D} {v : Value} (hf : flatD x = true) (h : RepD F w x v) : RepD F' w' x v := by
 cases h with
 | agg cs arr hn h1 hr =>
  refine .agg cs arr hn h1 fun j y hy => flat1_any (List.all_eq_true.1 hf y (List.mem_of_getElem? hy)) (hr j y hy)
 | tup cs arr hn hr =>
  refine .tup cs arr hn fun j y hy => flat1_any (List.all_eq_true.1 hf y (List.mem_of_getElem? hy)) (hr j y hy)
 | int k n => exact .int k n
 | bool b => exact .bool b
 | str s => exact .str s
 | nilptr => exact .nilptr
 | nilmap => exact .nilmap
 | nilfn => exact .nilfn
 | fn f hlt cs arr hn hr =>
  obtain rfl : cs = [] := by simpa [flatD, flat1] using hf
  exact .fn f hlt [] arr hn (fun j x hx => by simp at hx)
 | bnd g f hlt hg cs arr hn hr =>
  obtain rfl : cs = [] := by simpa [flatD, flat1] using hf
  exact .bnd g f hlt hg [] arr hn (fun j x hx => by simp at hx)
 | _ => cases hf
end
end Go.Proofs.Ytiafeijkifpfaaa.Am

/-
 The abstract machine: append. No condition.
-/
namespace Go.Proofs.Ytiafeijkifpfaaa.Am
open Go
set_option linter.unusedVariables false
section
variable {P : Program} {C : Cx}
theorem kill_ok (hI : Inv C) (is : List Oid) : Inv ⟨C.ρ, FW C is, kill C.H is, C.U, C.w⟩ ∧ Ext C ⟨C.ρ, FW C is, kill C.H is, C.U, C.w⟩ := by
 have fz : ∀ x : Am.Obj, x.isRow = x.freeze.isRow ∧ x.cs = x.freeze.cs ∧ (x.freeze.isFrz = false → x.freeze = x ∧ x.isFrz = false) := fun x => by cases x <;> simp [Am.Obj.freeze, Am.Obj.isRow, Am.Obj.cs, Am.Obj.isFrz]
 have old : ∀ o x, kill C.H is o = some x → ∃ y, C.H o = some y ∧ ((o ∈ is ∧ x = y.freeze) ∨ (o ∉ is ∧ x = y)) := fun o x h => by
  simp only [kill] at h
  split at h
  ·rename_i hm
   simp only [Option.map_eq_some_iff] at h
   obtain ⟨y, hy, rfl⟩ := h
   exact ⟨y, hy, .inl ⟨hm, rfl⟩⟩
  ·rename_i hn; exact ⟨x, h, .inr ⟨hn, rfl⟩⟩
 have he : Ext C ⟨C.ρ, FW C is, kill C.H is, C.U, C.w⟩ := by
  refine ⟨fun _ h => h, fun b h => .inl h, fun b h => ?_, rfl, rfl, rfl, Nat.le_refl _, fun _ _ _ => rfl, fun o x' hx _ => ?_, fun b hb => ?_⟩
  ·rcases h with h | ⟨o, _, x, S, hx, _, hr⟩
   ·exact .inl h
   ·cases hz : x.isFrz with
    | false => exact .inr (.inl ⟨o, x, S, hx, hz, hr⟩)
    | true =>
     cases x with
     | frz cs =>
      obtain ⟨b', S', c, t, e, hF, _⟩ := hI.obj o _ hx
      rw [hr] at e; cases e
      exact .inl hF
     | _ => cases hz
  ·obtain ⟨y, hy, h⟩ := old o x' hx
   refine ⟨y, hy, ?_, ?_, fun _ => rfl⟩
   ·rcases h with ⟨_, rfl⟩ | ⟨_, rfl⟩
    ·exact (fz y).1
    ·rfl
   ·rcases h with ⟨_, rfl⟩ | ⟨_, rfl⟩
    ·rw [← (fz y).2.1]; exact Nat.le_refl _
    ·exact Nat.le_refl _
  ·obtain ⟨o, x, S, hx, hz, hr⟩ := hb
   obtain ⟨y, hy, h⟩ := old o x hx
   refine .inl ⟨o, y, S, hy, ?_, hr⟩
   rcases h with ⟨_, rfl⟩ | ⟨_, rfl⟩
   ·exact ((fz y).2.2 hz).2
   ·exact hz
 refine ⟨⟨fun o x h => ?_, fun o x h => ?_, fun o x b S h hz hr hF => ?_, fun o o' x x' b S S' h h' hr hr' => ?_, fun b hb => ?_⟩, he⟩
 ·obtain ⟨y, hy, _⟩ := old o x h
  exact hI.used o y hy
 ·obtain ⟨y, hy, hc⟩ := old o x h
  have hk := (hI.obj o y hy).keep hI he rfl (fun _ _ _ => rfl)
  rcases hc with ⟨hm, rfl⟩ | ⟨_, rfl⟩
  ·have hF : y.isRow = true → ∀ b S, C.ρ o = some (b, S) → FW C is b := fun hrow b S hb => .inr ⟨o, hm, y, S, hy, hrow, hb⟩
   cases y with
   | cells cs =>
    obtain ⟨b, c, t, e, hh, hs, h1, hr⟩ := hk
    exact ⟨b, cs.length, c, t, e, hF rfl _ _ e, hh, hs, Nat.le_refl _, h1, hr⟩
   | grow cs =>
    obtain ⟨b, S, c, t, e, hh, hs, hl, h1, hr⟩ := hk
    exact ⟨b, S, c, t, e, hF rfl _ _ e, hh, hs, hl, h1, hr⟩
   | frz cs => exact hk
   | vnil => exact hk
   | mp es => exact hk
   | rc => exact hk
  ·exact hk
 ·obtain ⟨y, hy, hc⟩ := old o x h
  have hyz : y.isFrz = false := by
   rcases hc with ⟨_, rfl⟩ | ⟨_, rfl⟩
   ·exact ((fz y).2.2 hz).2
   ·exact hz
  rcases hF with hF | ⟨o', ho', x', S', hx', hrow', hr'⟩
  ·exact hI.notF o y b S hy hyz hr hF
  ·obtain rfl := hI.inj o o' y x' b S S' hy hx' hr hr'
   rcases hc with ⟨_, rfl⟩ | ⟨hn, _⟩
   ·obtain ⟨e, _⟩ := (fz y).2.2 hz
    cases y with
    | vnil => rw [show C.ρ o = none from hI.obj o _ hy] at hr; cases hr
    | mp es c => rw [hx'] at hy; cases hy; cases hrow'
    | rc => rw [hx'] at hy; cases hy; cases hrow'
    | _ => cases hz
   ·exact hn ho'
 ·obtain ⟨y, hy, _⟩ := old o x h
  obtain ⟨y', hy', _⟩ := old o' x' h'
  exact hI.inj o o' y y' b S S' hy hy' hr hr'
 ·rcases hb with hb | ⟨o, _, x, S, hx, _, hr⟩
  ·exact hI.Flt b hb
  ·exact (hI.obj o x hx).block_lt hr
theorem cells_cat {xs ys : List AV} {us vs : List Value} (h1 : us.length = xs.length) (h2 : vs.length = ys.length) (r1 : ∀ j x, xs[j]? = some x → Rep C x (us.getD j undef)) (r2 : ∀ j x, ys[j]? = some x → Rep C x (vs.getD j undef)) :
  ∀ j x, (xs ++ ys)[j]? = some x → Rep C x ((us ++ vs).getD j undef) := by
 intro j x hx
 rw [List.getElem?_append] at hx
 rw [List.getD_eq_getElem?_getD, List.getElem?_append]
 split at hx
 ·rename_i hj
  rw [if_pos (by omega), ← List.getD_eq_getElem?_getD]
  exact r1 j x hx
 ·rename_i hj
  rw [if_neg (by omega), ← List.getD_eq_getElem?_getD, h1]
  exact r2 _ x hx
theorem firstCells_run {n len : Nat} {A : Option Addr} {us : List Value} (hn : us.length = len * n) (h : us ≠ [] → ∃ ad, A = some ad ∧ ∀ j, j < us.length → C.w.cell? (ad.add j) = some (us.getD j undef)) (l c : Nat) (w : World) (hw : ∀ a v, C.w.cell? a = some v → w.cell? a = some v) :
  (Builtin.firstCells n len (.slice A l c)).run P w = .ok us.toArray w := by
 cases us with
 | nil =>
  cases A with
  | none => simp [Builtin.firstCells]
  | some a =>
   have := run_firstCells_some (P := P) w n len a l c [] (by simpa using hn) (fun j v hj => by simp at hj)
   simpa using this
 | cons u r =>
  obtain ⟨ad, rfl, hc⟩ := h (by simp)
  exact run_firstCells_some (P := P) w n len ad l c (u :: r) hn (fun j v hj => hw _ _ (by rw [hc j (List.getElem?_eq_some_iff.1 hj).1, List.getD_eq_getElem?_getD, hj]; rfl))
theorem append_grows {t t2 ty e : TypeId} {n len cap k : Nat} {A : Option Addr} {x : Value} {us vs : List Value} {z : List AV} (he : telem P t = some e) (hn : tsize P e = some n) (hz : zeroCells P e = some z) (hzn : z.length = n) (hb : tbytes P e = some true)
  (h2 : (∃ e', P.underlying t2 = some (.slice e')) ∨ P.underlying t2 = some .string) (hlx : ∀ w, (Builtin.lenOf x).run P w = .ok k w) (hus : us.length = len * n) (hvs : vs.length = k * n) (hsmall : len + k ≤ 137438953472) (hcap : cap < len + k)
  (hold : ∀ w, (∀ a v, C.w.cell? a = some v → w.cell? a = some v) → (Builtin.firstCells n len (.slice A len cap)).run P w = .ok us.toArray w) (hnew : ∀ w, (∀ a v, C.w.cell? a = some v → w.cell? a = some v) → (Builtin.firstCells n k x).run P w = .ok vs.toArray w) :
  ∃ newCap arr, (Builtin.append_ #[t, t2] ty #[.slice A len cap, x]).run P C.w = .ok (.slice (some ⟨C.w.heap.size, 0, none⟩) (len + k) newCap) (C.w.drew.alloc (.cells arr e)) ∧ len + k ≤ newCap ∧ arr.size = newCap * n ∧
   ∀ j, j < (len + k) * n → arr.getD j undef = (us ++ vs).getD j undef := by
 obtain ⟨zv, hzv, rfl, hz1⟩ := zero_run hz C.w.drew
 obtain ⟨i, hi, hby⟩ : ∃ i, P.info? e = some i ∧ i.bytes ≤ 256 := by
  unfold tbytes at hb
  cases hi : P.info? e with
  | none => rw [hi] at hb; cases hb
  | some i => rw [hi] at hb; exact ⟨i, rfl, by simpa using hb⟩
 have hzs : zv.cells.size = n := by simpa using hzn
 have hnc := nextslicecap_le (need := len + k) (old := cap) hcap
 have hq : ¬ Builtin.nextslicecap (len + k) cap * i.bytes > 2 ^ 48 := by
  have : Builtin.nextslicecap (len + k) cap * i.bytes ≤ (2 * (len + k)) * 256 := Nat.mul_le_mul hnc hby
  have h48 : (2 : Nat) ^ 48 = 281474976710656 := by decide
  omega
 have hmx : ¬ (((len + k : Nat) : Int) > IntKind.i64.max ∧ (false = true ∨ i.bytes = 0)) := by
  rintro ⟨h, _⟩
  have : (IntKind.i64.max : Int) = 9223372036854775807 := rfl
  omega
 refine ⟨Question.cut (.appendCap (len + k) cap e) (C.w.tape C.w.drawn (.appendCap (len + k) cap e)), us.toArray ++ vs.toArray ++ Builtin.zeroCells zv.cells (Question.cut (.appendCap (len + k) cap e) (C.w.tape C.w.drawn (.appendCap (len + k) cap e)) - (len + k)), ?_, ?_, ?_, ?_⟩
 ·have hd : ∀ a v, C.w.cell? a = some v → C.w.drew.cell? a = some v := fun a v h => by simpa using h
  obtain ⟨d, hd2, hcase⟩ : ∃ d, P.underlying t2 = some d ∧ ((∃ e', d = .slice e') ∨ d = .string) := by
   rcases h2 with ⟨e', h⟩ | h
   ·exact ⟨_, h, .inl ⟨e', rfl⟩⟩
   ·exact ⟨_, h, .inr rfl⟩
  simp only [Builtin.append_, List.getElem?_toArray, List.getElem?_cons_zero, List.getElem?_cons_succ, Sem.run_bind, und_run (elem_und he), Result.andThen_ok, size_run hn, und_run hd2]
  rcases hcase with ⟨e', rfl⟩ | rfl
  all_goals
   simp only [Sem.run_pure, Result.andThen_ok, Bool.false_eq_true, if_false, hlx, Sem.run_bind]
   rw [if_neg (by omega)]
   simp only [typeInfo, run_program, Result.andThen_ok, hi, Sem.run_pure, Sem.run_ite, Sem.run_bind]
   rw [if_neg (by simpa using hmx), if_neg hq]
   simp only [run_choose, Question.forced, Bool.false_eq_true, if_false, Result.andThen_ok, run_askRoom]
   rw [show ({ C.w with drawn := C.w.drawn + 1 } : World) = C.w.drew from rfl, hold _ hd]
   simp only [Result.andThen_ok, Bool.not_false, if_true, hnew _ hd, hzv, newRow, Sem.run_bind, run_newObj, Sem.run_pure]
   rfl
 ·simp only [Question.cut]; omega
 ·simp only [Array.size_append, List.size_toArray, hus, hvs, Builtin.zeroCells, Array.size_map, Array.size_range, hzs]
  rw [← Nat.add_mul, ← Nat.add_mul]
  congr 1
  simp only [Question.cut]; omega
 ·intro j hj
  have hl : (us ++ vs).length = (len + k) * n := by simp [hus, hvs, Nat.add_mul]
  rw [Array.getD_eq_getD_getElem?, List.getD_eq_getElem?_getD, Array.getElem?_append_left (by simp [hus, hvs, ← Nat.add_mul]; exact hj)]
  simp
theorem append_fits {t t2 ty e : TypeId} {n len cap k b off : Nat} {x : Value} {vs : List Value} {c : Array Value} {tt : TypeId} (he : telem P t = some e) (hn : tsize P e = some n)
  (h2 : (∃ e', P.underlying t2 = some (.slice e')) ∨ P.underlying t2 = some .string) (hlx : ∀ w, (Builtin.lenOf x).run P w = .ok k w) (hvs : vs.length = k * n) (h1 : ∀ v ∈ vs, v.oneCell' = true) (hcap : len + k ≤ cap)
  (hh : C.w.heap[b]? = some (.cells c tt (0, 0))) (hfit : off + len * n + vs.length ≤ c.size)
  (hnew : ∀ w, (∀ a v, C.w.cell? a = some v → w.cell? a = some v) → (Builtin.firstCells n k x).run P w = .ok vs.toArray w) :
  (Builtin.append_ #[t, t2] ty #[.slice (some ⟨b, off, none⟩) len cap, x]).run P C.w = .ok (.slice (some ⟨b, off, none⟩) (len + k) cap) (C.w.setRow b (c.toList.take (off + len * n) ++ vs ++ c.toList.drop (off + len * n + vs.length)).toArray) := by
 obtain ⟨d, hd2, hcase⟩ : ∃ d, P.underlying t2 = some d ∧ ((∃ e', d = .slice e') ∨ d = .string) := by
  rcases h2 with ⟨e', h⟩ | h
  ·exact ⟨_, h, .inl ⟨e', rfl⟩⟩
  ·exact ⟨_, h, .inr rfl⟩
 have hst := run_storeCells_at P b (off + len * n) tt vs 0 c C.w hh (by simpa using hfit) h1
 simp only [Nat.add_zero] at hst
 have ea : (⟨b, off, none⟩ : Addr).add (len * n) = ⟨b, off + len * n, none⟩ := by
  unfold Addr.add
  split
  ·rename_i h0; simp [h0]
  ·rfl
 simp only [Builtin.append_, List.getElem?_toArray, List.getElem?_cons_zero, List.getElem?_cons_succ, Sem.run_bind, und_run (elem_und he), Result.andThen_ok, size_run hn, und_run hd2]
 rcases hcase with ⟨e', rfl⟩ | rfl
 all_goals
  simp only [Sem.run_pure, Result.andThen_ok, Bool.false_eq_true, if_false, hlx, Sem.run_bind]
  rw [if_pos hcap]
  simp only [Sem.run_bind, Bool.not_false, if_true, hnew C.w (fun _ _ h => h), Result.andThen_ok, ea, Sem.run_pure]
  rw [hst]
  rfl
theorem append_none {t t2 ty e : TypeId} {n len cap : Nat} {A : Option Addr} {x : Value} (he : telem P t = some e) (hn : tsize P e = some n)
  (h2 : (∃ e', P.underlying t2 = some (.slice e')) ∨ P.underlying t2 = some .string) (hlx : ∀ w, (Builtin.lenOf x).run P w = .ok 0 w) (hcap : len ≤ cap)
  (hnew : ∀ w, (∀ a v, C.w.cell? a = some v → w.cell? a = some v) → (Builtin.firstCells n 0 x).run P w = .ok #[] w) :
  (Builtin.append_ #[t, t2] ty #[.slice A len cap, x]).run P C.w = .ok (.slice A len cap) C.w := by
 obtain ⟨d, hd2, hcase⟩ : ∃ d, P.underlying t2 = some d ∧ ((∃ e', d = .slice e') ∨ d = .string) := by
  rcases h2 with ⟨e', h⟩ | h
  ·exact ⟨_, h, .inl ⟨e', rfl⟩⟩
  ·exact ⟨_, h, .inr rfl⟩
 simp only [Builtin.append_, List.getElem?_toArray, List.getElem?_cons_zero, List.getElem?_cons_succ, Sem.run_bind, und_run (elem_und he), Result.andThen_ok, size_run hn, und_run hd2]
 rcases hcase with ⟨e', rfl⟩ | rfl
 all_goals
  simp only [Sem.run_pure, Result.andThen_ok, Bool.false_eq_true, if_false, hlx, Sem.run_bind]
  rw [if_pos (by omega)]
  simp only [Sem.run_bind, Bool.not_false, if_true, hnew C.w (fun _ _ h => h), Result.andThen_ok]
  cases A <;> simp [storeCells]
theorem srcRaw_sim {n k : Nat} {t2 : TypeId} {X : AV} {xs : List D} {u : Value} (hI : Inv C) (h : srcRaw P C.H n t2 X = some (xs, k)) (hu : Rep C X u) :
  ∃ vs : List Value, vs.length = xs.length ∧ (∀ j x, xs[j]? = some x → RepD (FW C []) C.w x (vs.getD j undef)) ∧ (∀ v ∈ vs, v.oneCell' = true) ∧ xs.length = k * n ∧
   ((∃ e', P.underlying t2 = some (.slice e')) ∨ P.underlying t2 = some .string) ∧ (∀ w, (Builtin.lenOf u).run P w = .ok k w) ∧
   (∀ w, (∀ a v, C.w.cell? a = some v → w.cell? a = some v) → (Builtin.firstCells n k u).run P w = .ok vs.toArray w) := by
 unfold srcRaw at h
 split at h
 ·rename_i o off len sz ver
  simp only [Option.bind_eq_bind, Option.bind_eq_some_iff] at h
  obtain ⟨x, hx, h⟩ := h
  split at h
  ·rename_i hc
   simp only [Bool.and_eq_true, decide_eq_true_eq] at hc
   obtain ⟨⟨⟨⟨hrow, hver⟩, hfit⟩, hsz⟩, hk⟩ := hc
   simp only [Option.bind_eq_some_iff] at h
   obtain ⟨ds, hds, h⟩ := h
   cases h
   have ht2 : ∃ e', P.underlying t2 = some (.slice e') := by unfold tkind at hk; split at hk <;> first | exact ⟨_, by assumption⟩ | cases hk
   have hcs := allD_some hds
   have hlen : xs.length = k * sz := by
    have := congrArg List.length hcs
    simp at this; omega
   cases hu with
   | osl _ _ _ _ _ cap A hlc hU hv hs =>
    have hsl := hs x hx hver
    unfold SlAt at hsl
    split at hsl
    ·have hc0 : cap = 0 := hsl.1
     have : k = 0 := by omega
     subst this
     obtain rfl : xs = [] := List.eq_nil_of_length_eq_zero (by rw [hlen]; exact Nat.zero_mul _)
     refine ⟨[], rfl, fun j x hj => by simp at hj, fun v hv => by simp at hv, by simp, .inl ht2, fun w => rfl, fun w hw => ?_⟩
     exact firstCells_run (C := C) (us := []) (by simp) (fun hne => absurd rfl hne) _ _ w hw
    ·rename_i b S hρ
     obtain ⟨hS, hA, hA2⟩ := hsl
     obtain ⟨c, tt, hh, hcsz, hle, hmem⟩ := row_mem hI hx hrow hρ
     have hmem2 := hmem.drop off
     rw [add_at, Nat.zero_add] at hmem2
     have hget : ∀ j, j < xs.length → ((List.range xs.length).map fun j => c.getD (off + j) undef).getD j undef = c.getD (off + j) undef := fun j hj => by simp [List.getD_eq_getElem?_getD, hj]
     refine ⟨(List.range xs.length).map fun j => c.getD (off + j) undef, by simp, fun j y hy => ?_, fun v hv => ?_, by rw [hlen, hsz], .inl ht2, fun w => rfl, fun w hw => ?_⟩
     ·have hj := (List.getElem?_eq_some_iff.1 hy).1
      rw [hget j hj]
      have h2 : ((x.cs.drop off).take (k * sz))[j]? = some (.d y) := by rw [hcs, List.getElem?_map, hy]; rfl
      rw [List.getElem?_take, if_pos (by omega)] at h2
      exact FW_of (hmem2.rep j _ h2).dinv
     ·obtain ⟨j, hj, rfl⟩ := List.mem_map.1 hv
      exact hmem2.one j (by simp at hj ⊢; omega)
     ·refine firstCells_run (C := C) (by rw [List.length_map, List.length_range, hlen, hsz]) (fun hne => ?_) _ _ w hw
      have hpos : 0 < k := by
       cases k with
       | zero => rw [Nat.zero_mul] at hlen; rw [hlen] at hne; exact absurd rfl hne
       | succ => omega
      refine ⟨⟨b, off, none⟩, hA (by omega), fun j hj => ?_⟩
      rw [List.length_map, List.length_range] at hj
      rw [hget j hj]
      exact hmem2.at_ j (by simp; omega)
  ·cases h
 ·cases h
theorem src_sim {n k : Nat} {t2 : TypeId} {X : AV} {xs : List D} {is : List Oid} {u : Value} (hI : Inv C) (h : srcCells P C.H n t2 X = some (xs, k, is)) (hu : Rep C X u) :
  ∃ vs : List Value, vs.length = xs.length ∧ (∀ j x, xs[j]? = some x → RepD (FW C is) C.w x (vs.getD j undef)) ∧ (∀ v ∈ vs, v.oneCell' = true) ∧ xs.length = k * n ∧
   ((∃ e', P.underlying t2 = some (.slice e')) ∨ P.underlying t2 = some .string) ∧ (∀ w, (Builtin.lenOf u).run P w = .ok k w) ∧
   (∀ w, (∀ a v, C.w.cell? a = some v → w.cell? a = some v) → (Builtin.firstCells n k u).run P w = .ok vs.toArray w) := by
 unfold srcCells at h
 split at h
 ·rename_i ds k' hsrc
  cases h
  exact srcRaw_sim hI hsrc hu
 simp only [Option.bind_eq_bind, Option.bind_eq_some_iff] at h
 obtain ⟨⟨x, is'⟩, hx, h⟩ := h
 have hr := reify_sim hI 6 hx hu
 dsimp only at h
 split at h
 ·rename_i cs len full nl
  split at h
  ·rename_i hc
   obtain ⟨hk, hl⟩ := hc
   cases h
   have ht2 : ∃ e', P.underlying t2 = some (.slice e') := by unfold tkind at hk; split at hk <;> first | exact ⟨_, by assumption⟩ | cases hk
   cases hr with
   | sl _ _ cap _ _ a vs hlc hf h1 hrr hcc hnl =>
    have hget : ∀ j, j < xs.length → ((List.range xs.length).map vs).getD j undef = vs j := fun j hj => by simp [List.getD_eq_getElem?_getD, hj]
    refine ⟨(List.range xs.length).map vs, by simp, fun j y hy => ?_, fun v hv => ?_, hl, .inl ht2, fun w => rfl, fun w hw => ?_⟩
    ·rw [hget j (List.getElem?_eq_some_iff.1 hy).1]
     split
     ·rename_i hfl
      exact flat1_any (List.all_eq_true.1 hfl y (List.mem_of_getElem? hy)) (hrr j y hy)
     ·exact hrr j y hy
    ·obtain ⟨j, hj, rfl⟩ := List.mem_map.1 hv
     exact h1 j (by simpa using hj)
    ·refine firstCells_run (C := C) (by simpa using hl) (fun hne => ?_) _ _ w hw
     obtain ⟨ad, ha, _, hcell⟩ := hcc (by intro e; subst e; simp at hne)
     exact ⟨ad, ha, fun j hj => by rw [hget j (by simpa using hj)]; exact hcell j (by simpa using hj)⟩
  ·cases h
 ·rename_i s
  split at h
  ·rename_i hc
   obtain ⟨hk, rfl⟩ := hc
   cases h
   cases hr
   refine ⟨s.data.toList.map (fun b => .int .u8 b.toNat), by simp, fun j y hy => ?_, fun v hv => ?_, by rw [List.length_map, Array.length_toList, Nat.mul_one]; rfl, .inr (tkind7 hk), fun w => rfl, fun w hw => ?_⟩
   ·simp only [List.getElem?_map, Option.map_eq_some_iff] at hy
    obtain ⟨b, hb, rfl⟩ := hy
    rw [List.getD_eq_getElem?_getD, List.getElem?_map, hb]
    exact .int _ _
   ·obtain ⟨b, _, rfl⟩ := List.mem_map.1 hv
    rfl
   ·simp only [Builtin.firstCells, Sem.run_pure]
    congr 1
    rw [ByteArray.extract_zero_size]
    apply Array.ext'
    simp
  ·cases h
 ·cases h
end
end Go.Proofs.Ytiafeijkifpfaaa.Am

/-
 The abstract machine: append is the machine's. No condition.
-/
namespace Go.Proofs.Ytiafeijkifpfaaa.Am
open Go
set_option linter.unusedVariables false
section
variable {P : Program} {C : Cx}
theorem getD_toArray (l : List Value) (j : Nat) : l.toArray.getD j undef = l.getD j undef := by
 rw [Array.getD_eq_getD_getElem?, List.getElem?_toArray, List.getD_eq_getElem?_getD]
theorem row_longer (hI : Inv C) {o : Oid} {cs cs' : List AV} (hx : C.H o = some (.grow cs)) {b S : Nat} (hb : C.ρ o = some (b, S)) {c c' : Array Value} {t : TypeId} (hh : C.w.heap[b]? = some (.cells c t (0, 0))) (hs : c'.size = S)
  (hl : cs.length ≤ cs'.length) (hS : cs'.length ≤ S) (h1 : ∀ j, j < cs'.length → (c'.getD j undef).oneCell' = true) (hr : ∀ j x, cs'[j]? = some x → Rep C x (c'.getD j undef)) :
  Inv ⟨C.ρ, C.F, upd C.H o (.grow cs'), C.U, C.w.setRow b c'⟩ ∧ Ext C ⟨C.ρ, C.F, upd C.H o (.grow cs'), C.U, C.w.setRow b c'⟩ := by
 have hw := wrote_setRow C.w b c'
 have he := ext_write (x' := .grow cs') hI hx rfl hb hw rfl hl
 refine ⟨inv_write hI hx rfl hb hw rfl hl ⟨b, S, c', t, hb, ?_, hs, hS, h1, fun j x hj => (hr j x hj).ext hI he⟩, he⟩
 show (C.w.setRow b c').heap[b]? = _
 rw [setRow_heap C.w b c c' t (0, 0) hh]
theorem row_moves (hI : Inv C) {o : Oid} {x0 : Am.Obj} {cs' : List AV} (hx : C.H o = some x0) (hrow : x0.isRow = true) {w' : World} {b S : Nat} {c' : Array Value} {t : TypeId} (hg : Grew C.w w') (hb : C.w.heap.size ≤ b) (hw : w'.heap[b]? = some (.cells c' t (0, 0))) (hs : c'.size = S)
  (hl : x0.cs.length < cs'.length) (hS : cs'.length ≤ S) (h1 : ∀ j, j < cs'.length → (c'.getD j undef).oneCell' = true) (hr : ∀ j x, cs'[j]? = some x → Rep C x (c'.getD j undef)) :
  Inv ⟨fun p => if p = o then some (b, S) else C.ρ p, C.F, upd C.H o (.grow cs'), C.U, w'⟩ ∧ Ext C ⟨fun p => if p = o then some (b, S) else C.ρ p, C.F, upd C.H o (.grow cs'), C.U, w'⟩ := by
 have old : ∀ p x, upd C.H o (.grow cs') p = some x → p ≠ o → C.H p = some x := fun p x hp hne => by simpa only [upd, if_neg hne] using hp
 have he : Ext C ⟨fun p => if p = o then some (b, S) else C.ρ p, C.F, upd C.H o (.grow cs'), C.U, w'⟩ := by
  refine ⟨fun _ h => h, fun _ h => h, fun _ h => .inl h, hg.os, hg.tape, hg.output, hg.size, fun k hk _ => hg.block k hk, fun p x' hp _ => ?_, fun k hk => ?_⟩
  ·by_cases e : p = o
   ·subst e
    simp only [upd, if_pos] at hp
    cases hp
    exact ⟨x0, hx, hrow, Nat.le_of_lt hl, fun q => absurd q (Nat.ne_of_lt hl)⟩
   ·exact ⟨x', old p x' hp e, rfl, Nat.le_refl _, fun _ => if_neg e⟩
  ·obtain ⟨p, x, S', hp, hz, hr⟩ := hk
   by_cases e : p = o
   ·simp only [e, if_pos] at hr
    cases hr
    exact .inr hb
   ·simp only [if_neg e] at hr
    exact .inl ⟨p, x, S', old p x hp e, hz, hr⟩
 refine ⟨⟨fun p x hp => ?_, fun p x hp => ?_, fun p x k S' hp hz hr hF => ?_, fun p p' x x' k S1 S2 hp hp' hr hr' => ?_, fun k hk => Nat.lt_of_lt_of_le (hI.Flt k hk) hg.size⟩, he⟩
 ·by_cases e : p = o
  ·subst e; exact hI.used p _ hx
  ·exact hI.used p x (old p x hp e)
 ·by_cases e : p = o
  ·subst e
   simp only [upd, if_pos] at hp
   cases hp
   exact ⟨b, S, c', t, if_pos rfl, hw, hs, hS, h1, fun j x hj => (hr j x hj).ext hI he⟩
  ·exact (hI.obj p x (old p x hp e)).keep hI he (if_neg e) fun k S' hk => hg.block k ((hI.obj p x (old p x hp e)).block_lt hk)
 ·by_cases e : p = o
  ·simp only [e, if_pos] at hr
   cases hr
   have := hI.Flt b hF
   omega
  ·simp only [if_neg e] at hr
   exact hI.notF p x k S' (old p x hp e) hz hr hF
 ·by_cases e : p = o
  ·by_cases e' : p' = o
   ·rw [e, e']
   ·simp only [e, if_pos] at hr
    cases hr
    simp only [if_neg e'] at hr'
    have := (hI.obj p' x' (old p' x' hp' e')).block_lt hr'
    omega
  ·by_cases e' : p' = o
   ·simp only [e', if_pos] at hr'
    cases hr'
    simp only [if_neg e] at hr
    have := (hI.obj p x (old p x hp e)).block_lt hr
    omega
   ·simp only [if_neg e] at hr
    simp only [if_neg e'] at hr'
    exact hI.inj p p' x x' k S1 S2 (old p x hp e) (old p' x' hp' e') hr hr'
theorem list_one {us : List Value} (h : ∀ v ∈ us, v.oneCell' = true) (j : Nat) (hj : j < us.length) : (us.getD j undef).oneCell' = true := by
 rw [List.getD_eq_getElem?_getD, List.getElem?_eq_getElem hj]
 exact h _ (List.getElem_mem hj)
theorem appendO_sim {t t2 ty : TypeId} {id : Nat} {S X r : AV} {H' : Hp} {us ux : Value} (hI : Inv C) (hid : ∀ j, ¬ C.U (id, j)) (h : appendO P C.H id t t2 S X = some (r, H')) (hs : Rep C S us) (hx : Rep C X ux) :
  ∃ C' : Cx, ∃ z, (Builtin.append_ #[t, t2] ty #[us, ux]).run P C.w = .ok z C'.w ∧ Rep C' r z ∧ Stepped C C' C'.w H' id := by
 unfold appendO at h
 simp only [Option.bind_eq_bind, Option.bind_eq_some_iff] at h
 obtain ⟨e, he, n, hn, z, hz, ⟨xs, k, is⟩, hsrc, h⟩ := h
 obtain ⟨vs, hvl, hvr, hv1, hxl, ht2, hlx, hnew⟩ := src_sim (P := P) hI hsrc hx
 dsimp only at h
 split at h
 ·cases h
 rename_i hc0
 have hn0 : 0 < n := by omega
 have hzn : z.length = n := by omega
 have hxs : xs.length ≤ 68719476736 := by omega
 have hby : tbytes P e = some true := by
  cases hq : tbytes P e with
  | none => exact absurd (.inr (.inr (.inr (by rw [hq]; simp)))) hc0
  | some b => cases b with
   | true => rfl
   | false => exact absurd (.inr (.inr (.inr (by rw [hq]; simp)))) hc0
 obtain ⟨hIk, hEk⟩ := kill_ok hI is
 have hvs : vs.length = k * n := by rw [hvl, hxl]
 have hkle : k ≤ 68719476736 := by
  have : k * 1 ≤ k * n := Nat.mul_le_mul_left _ hn0
  omega
 split at h
 ·rename_i o off len sz ver
  simp only [Option.bind_eq_some_iff] at h
  obtain ⟨y, hy, h⟩ := h
  split at h
  ·rename_i hc
   obtain ⟨hrow, hver, hfit0, hverle, hois⟩ := hc
   have hyk : kill C.H is o = some y := by simp only [kill, if_neg hois]; exact hy
   cases hs with
   | osl _ _ _ _ _ cap A hlc hU hv hsl0 =>
    have hsl := hsl0 y hy hver
    have hold := Rep.osl (C := C) o off len sz ver cap A hlc hU hv hsl0
    have hcells : ∀ C1 : Cx, C1.F = FW C is → C1.w = C.w → CellsOk C1 (xs.map .d) vs.toArray := by
     intro C1 e1 e2
     refine ⟨by simp [hvl], fun j hj => ?_, fun j x hj => ?_⟩
     ·rw [getD_toArray]; exact list_one hv1 j (by simpa using hj)
     ·simp only [List.getElem?_map, Option.map_eq_some_iff] at hj
      obtain ⟨q, hq, rfl⟩ := hj
      rw [getD_toArray]
      refine .d _ _ ?_
      rw [e1, e2]
      exact hvr j q hq
    split at h
    ·rename_i hk0
     cases h
     subst hk0
     have hvs0 : vs = [] := List.eq_nil_of_length_eq_zero (by rw [hvs, Nat.zero_mul])
     subst hvs0
     exact ⟨⟨C.ρ, FW C is, kill C.H is, C.U, C.w⟩, .slice A len cap, append_none he hn ht2 hlx hlc hnew, hold.ext hI hEk, ⟨rfl, rfl, hIk, hEk, fun o ho => .inl ho⟩⟩
    ·rename_i hk0
     have hpos : 0 < xs.length := by rw [hxl]; exact Nat.mul_pos (by omega) hn0
     cases y with
     | vnil =>
      simp only [growO] at h
      split at h
      ·rename_i hlen0
       cases h
       subst hlen0
       have hρ : C.ρ o = none := hI.obj o _ hy
       rw [hρ] at hsl
       have hcap0 : cap = 0 := hsl.1
       obtain ⟨newCap, arr, hrun, hnc, hasz, hget⟩ := append_grows (C := C) (ty := ty) (A := A) (len := 0) (cap := cap) (us := []) he hn hz hzn hby ht2 hlx (by simp) hvs (by omega) (by omega)
        (fun w hw => firstCells_run (C := C) (by simp) (fun hne => absurd rfl hne) _ _ w hw) hnew
       simp only [Nat.zero_add, List.nil_append] at hrun hnc hget
       have hcc := hcells ⟨C.ρ, FW C is, kill C.H is, C.U, C.w⟩ rfl rfl
       have hkn : k * n ≤ newCap * n := Nat.mul_le_mul_right _ hnc
       obtain ⟨hI2, he2⟩ := row_moves (C := ⟨C.ρ, FW C is, kill C.H is, C.U, C.w⟩) hIk hyk rfl (cs' := xs.map .d) (w' := C.w.drew.alloc (.cells arr e)) (b := C.w.heap.size) (S := newCap * n) (c' := arr) (t := e)
        ((Grew.drew C.w).trans (Grew.alloc _ _)) (Nat.le_refl _) (alloc_block _ _) hasz (by simp [Am.Obj.cs]; omega) (by simp; omega)
        (fun j hj => by
         simp at hj
         rw [hget j (by omega)]
         exact list_one hv1 j (by omega))
        (fun j x hj => by
         have hjl : j < xs.length := by have := (List.getElem?_eq_some_iff.1 hj).1; simpa using this
         rw [hget j (by omega), ← getD_toArray]
         exact hcc.2.2 j x hj)
       refine ⟨_, _, hrun, ?_, ⟨rfl, rfl, hI2, hEk.trans he2, fun o ho => .inl ho⟩⟩
       refine .osl _ _ _ _ _ _ _ hnc hU (fun x hx => ?_) (fun x hx ex => ?_)
       ·simp only [upd, if_pos] at hx
        cases hx
        simp [Am.Obj.cs]
       ·simp only [SlAt, if_pos]
        exact ⟨by omega, fun _ => trivial, rfl⟩
      ·cases h
     | cells cs =>
      simp only [growO] at h
      split at h
      ·cases h
      rename_i hszn
      have hszn : sz = n := by omega
      subst hszn
      obtain ⟨b, S', hρ⟩ : ∃ b S', C.ρ o = some (b, S') := by
       obtain ⟨b, c, t2, e2, _⟩ := hI.obj o _ hy; exact ⟨b, _, e2⟩
      rw [hρ] at hsl
      obtain ⟨hS, hA, hA2⟩ := hsl
      obtain ⟨c, tt, hh, hcs, hle, hmem⟩ := row_mem hI hy hrow hρ
      have hmul : (len + k) * sz = len * sz + k * sz := Nat.add_mul _ _ _
      split at h
      ·rename_i hfit
       cases h
       have hcap : len + k ≤ cap := by
        have : (len + k) * sz ≤ cap * sz := by omega
        exact Nat.le_of_mul_le_mul_right this hn0
       have hA := hA (by omega)
       subst hA
       have hrun := append_fits (P := P) (C := C) (ty := ty) he hn ht2 hlx hvs hv1 hcap hh (off := off) (by omega) hnew
       obtain ⟨hI2, he2⟩ := row_splice (C := ⟨C.ρ, FW C is, kill C.H is, C.U, C.w⟩) hIk hyk hrow rfl hρ hh (off := off + len * sz) (hcells _ rfl rfl) (by simp; omega)
       simp only [List.size_toArray] at hI2 he2
       refine ⟨_, _, hrun, ?_, ⟨rfl, rfl, hI2, hEk.trans he2, fun o ho => .inl ho⟩⟩
       refine .osl _ _ _ _ _ _ _ hcap hU (fun x hx => ?_) (fun x hx ex => ?_)
       ·simp only [upd, if_pos] at hx
        cases hx
        have hpl : (splice cs (off + len * sz) (xs.map .d)).length = cs.length := splice_length _ _ _ (by simp [Am.Obj.cs] at *; omega)
        show ver ≤ (splice cs (off + len * sz) (xs.map .d)).length
        rw [hpl]; exact Nat.le_of_eq hver.symm
       ·show SlAt (C.ρ o) off sz _ cap
        rw [hρ]
        exact ⟨hS, fun _ => rfl, rfl⟩
      ·rename_i hnfit
       split at h
       ·rename_i hoff
        cases h
        subst hoff
        have hcl : cs.length = ver := hver
        have hlv : len * sz ≤ cs.length := by omega
        have hcs'l : (cs.take (len * sz) ++ xs.map AV.d).length = len * sz + xs.length := by simp; omega
        have htl : (c.toList.take (len * sz)).length = len * sz := by simp [Am.Obj.cs] at hle; simp; omega
        have hrold : ∀ (j : Nat) (x : AV), (cs.take (len * sz))[j]? = some x → Rep ⟨C.ρ, FW C is, kill C.H is, C.U, C.w⟩ x ((c.toList.take (len * sz)).getD j undef) := by
         intro j x hj
         rw [List.getElem?_take] at hj
         split at hj
         ·rename_i hj2
          have := (hmem.rep j x hj).ext hI hEk
          rw [List.getD_eq_getElem?_getD, List.getElem?_take, if_pos hj2]
          rw [Array.getD_eq_getD_getElem?] at this
          simpa using this
         ·cases hj
        have hcat := cells_cat (C := ⟨C.ρ, FW C is, kill C.H is, C.U, C.w⟩) (xs := cs.take (len * sz)) (ys := xs.map .d) (us := c.toList.take (len * sz)) (vs := vs) (by rw [htl]; simp; omega) (by simp [hvl]) hrold
         (fun j x hj => by rw [← getD_toArray]; exact (hcells ⟨C.ρ, FW C is, kill C.H is, C.U, C.w⟩ rfl rfl).2.2 j x hj)
        have hone : ∀ j, j < len * sz + xs.length → ((c.toList.take (len * sz) ++ vs).getD j undef).oneCell' = true := by
         intro j hj
         rw [List.getD_eq_getElem?_getD, List.getElem?_append]
         split
         ·rename_i hj2
          rw [htl] at hj2
          have := hmem.one j (by show j < cs.length; omega)
          rw [List.getElem?_take, if_pos hj2]
          rw [Array.getD_eq_getD_getElem?] at this
          simpa using this
         ·rw [htl, ← List.getD_eq_getElem?_getD]
          exact list_one hv1 _ (by omega)
        by_cases hroom : len + k ≤ cap
        ·exfalso
         have hcapm : (len + k) * sz ≤ cap * sz := Nat.mul_le_mul_right _ hroom
         have hSc : S' = cs.length := by
          obtain ⟨b2, c2, t3, e3, _⟩ := hI.obj o _ hy
          rw [hρ] at e3; cases e3; rfl
         omega
        ·have hlen36 : len ≤ 68719476736 := by
          have : len * 1 ≤ len * sz := Nat.mul_le_mul_left _ hn0
          omega
         obtain ⟨newCap, arr, hrun, hnc, hasz, hget⟩ := append_grows (C := C) (ty := ty) (A := A) (len := len) (cap := cap) (us := c.toList.take (len * sz)) he hn hz hzn hby ht2 hlx htl hvs (by omega) (by omega)
          (fun w hw => firstCells_run (C := C) htl (fun hne => by
           have hl0 : 0 < len := by
            cases len with
            | zero => simp at hne
            | succ => omega
           refine ⟨⟨b, 0, none⟩, hA (by omega), fun j hj => ?_⟩
           rw [htl] at hj
           have := hmem.at_ j (by show j < cs.length; omega)
           rw [List.getD_eq_getElem?_getD, List.getElem?_take, if_pos hj]
           rw [Array.getD_eq_getD_getElem?] at this
           simpa using this) _ _ w hw) hnew
         have hkn : (len + k) * sz ≤ newCap * sz := Nat.mul_le_mul_right _ hnc
         obtain ⟨hI2, he2⟩ := row_moves (C := ⟨C.ρ, FW C is, kill C.H is, C.U, C.w⟩) hIk hyk rfl (cs' := cs.take (len * sz) ++ xs.map .d) (w' := C.w.drew.alloc (.cells arr e)) (b := C.w.heap.size) (S := newCap * sz) (c' := arr) (t := e)
          ((Grew.drew C.w).trans (Grew.alloc _ _)) (Nat.le_refl _) (alloc_block _ _) hasz (by rw [hcs'l]; show cs.length < _; omega) (by rw [hcs'l]; omega)
          (fun j hj => by rw [hcs'l] at hj; rw [hget j (by omega)]; exact hone j hj)
          (fun j x hj => by rw [hget j (by have := (List.getElem?_eq_some_iff.1 hj).1; omega)]; exact hcat j x hj)
         refine ⟨_, _, hrun, ?_, ⟨rfl, rfl, hI2, hEk.trans he2, fun o ho => .inl ho⟩⟩
         refine .osl _ _ _ _ _ _ _ hnc hU (fun x hx => ?_) (fun x hx ex => ?_)
         ·simp only [upd, if_pos] at hx
          cases hx
          simp only [Am.Obj.cs, hcs'l]; exact Nat.le_refl _
         ·simp only [SlAt, if_pos]
          exact ⟨by omega, fun _ => trivial, rfl⟩
       ·cases h
     | mp => cases hrow
     | rc => cases hrow
     | frz => cases h
     | grow cs =>
      simp only [growO] at h
      split at h
      ·cases h
      rename_i hszn
      have hszn : sz = n := by omega
      subst hszn
      obtain ⟨b, S', hρ⟩ : ∃ b S', C.ρ o = some (b, S') := by
       obtain ⟨b, S, c, t2, e2, _⟩ := hI.obj o _ hy; exact ⟨b, _, e2⟩
      rw [hρ] at hsl
      obtain ⟨hS, hA, hA2⟩ := hsl
      obtain ⟨c, tt, hh, hcs, hle, hmem⟩ := row_mem hI hy hrow hρ
      have hmul : (len + k) * sz = len * sz + k * sz := Nat.add_mul _ _ _
      split at h
      ·rename_i hfit
       cases h
       have hcap : len + k ≤ cap := by
        have : (len + k) * sz ≤ cap * sz := by omega
        exact Nat.le_of_mul_le_mul_right this hn0
       have hA := hA (by omega)
       subst hA
       have hrun := append_fits (P := P) (C := C) (ty := ty) he hn ht2 hlx hvs hv1 hcap hh (off := off) (by omega) hnew
       obtain ⟨hI2, he2⟩ := row_splice (C := ⟨C.ρ, FW C is, kill C.H is, C.U, C.w⟩) hIk hyk hrow rfl hρ hh (off := off + len * sz) (hcells _ rfl rfl) (by simp; omega)
       simp only [List.size_toArray] at hI2 he2
       refine ⟨_, _, hrun, ?_, ⟨rfl, rfl, hI2, hEk.trans he2, fun o ho => .inl ho⟩⟩
       refine .osl _ _ _ _ _ _ _ hcap hU (fun x hx => ?_) (fun x hx ex => ?_)
       ·simp only [upd, if_pos] at hx
        cases hx
        have hpl : (splice cs (off + len * sz) (xs.map .d)).length = cs.length := splice_length _ _ _ (by simp [Am.Obj.cs] at *; omega)
        show ver ≤ (splice cs (off + len * sz) (xs.map .d)).length
        rw [hpl]; exact Nat.le_of_eq hver.symm
       ·show SlAt (C.ρ o) off sz _ cap
        rw [hρ]
        exact ⟨hS, fun _ => rfl, rfl⟩
      ·rename_i hnfit
       split at h
       ·rename_i hoff
        cases h
        subst hoff
        have hcl : cs.length = ver := hver
        have hlv : len * sz ≤ cs.length := by omega
        have hcs'l : (cs.take (len * sz) ++ xs.map AV.d).length = len * sz + xs.length := by simp; omega
        have htl : (c.toList.take (len * sz)).length = len * sz := by simp [Am.Obj.cs] at hle; simp; omega
        have hrold : ∀ (j : Nat) (x : AV), (cs.take (len * sz))[j]? = some x → Rep ⟨C.ρ, FW C is, kill C.H is, C.U, C.w⟩ x ((c.toList.take (len * sz)).getD j undef) := by
         intro j x hj
         rw [List.getElem?_take] at hj
         split at hj
         ·rename_i hj2
          have := (hmem.rep j x hj).ext hI hEk
          rw [List.getD_eq_getElem?_getD, List.getElem?_take, if_pos hj2]
          rw [Array.getD_eq_getD_getElem?] at this
          simpa using this
         ·cases hj
        have hcat := cells_cat (C := ⟨C.ρ, FW C is, kill C.H is, C.U, C.w⟩) (xs := cs.take (len * sz)) (ys := xs.map .d) (us := c.toList.take (len * sz)) (vs := vs) (by rw [htl]; simp; omega) (by simp [hvl]) hrold
         (fun j x hj => by rw [← getD_toArray]; exact (hcells ⟨C.ρ, FW C is, kill C.H is, C.U, C.w⟩ rfl rfl).2.2 j x hj)
        have hone : ∀ j, j < len * sz + xs.length → ((c.toList.take (len * sz) ++ vs).getD j undef).oneCell' = true := by
         intro j hj
         rw [List.getD_eq_getElem?_getD, List.getElem?_append]
         split
         ·rename_i hj2
          rw [htl] at hj2
          have := hmem.one j (by show j < cs.length; omega)
          rw [List.getElem?_take, if_pos hj2]
          rw [Array.getD_eq_getD_getElem?] at this
          simpa using this
         ·rw [htl, ← List.getD_eq_getElem?_getD]
          exact list_one hv1 _ (by omega)
        by_cases hroom : len + k ≤ cap
        ·have hA := hA (by omega)
         subst hA
         have hcapm : (len + k) * sz ≤ cap * sz := Nat.mul_le_mul_right _ hroom
         have hrun := append_fits (P := P) (C := C) (ty := ty) he hn ht2 hlx hvs hv1 hroom hh (off := 0) (by omega) hnew
         simp only [Nat.zero_add] at hrun
         have hget : ∀ j, j < len * sz + xs.length → (c.toList.take (len * sz) ++ vs ++ c.toList.drop (len * sz + vs.length)).toArray.getD j undef = (c.toList.take (len * sz) ++ vs).getD j undef := by
          intro j hj
          rw [getD_toArray, List.getD_eq_getElem?_getD, List.getD_eq_getElem?_getD, List.getElem?_append_left (by rw [List.length_append, htl]; omega)]
         obtain ⟨hI2, he2⟩ := row_longer (C := ⟨C.ρ, FW C is, kill C.H is, C.U, C.w⟩) hIk hyk hρ hh (cs' := cs.take (len * sz) ++ xs.map .d) (c' := (c.toList.take (len * sz) ++ vs ++ c.toList.drop (len * sz + vs.length)).toArray)
          (by simp; omega) (by rw [hcs'l]; omega) (by rw [hcs'l]; omega) (fun j hj => by rw [hcs'l] at hj; rw [hget j hj]; exact hone j hj)
          (fun j x hj => by rw [hget j (by have := (List.getElem?_eq_some_iff.1 hj).1; omega)]; exact hcat j x hj)
         refine ⟨_, _, hrun, ?_, ⟨rfl, rfl, hI2, hEk.trans he2, fun o ho => .inl ho⟩⟩
         refine .osl _ _ _ _ _ _ _ hroom hU (fun x hx => ?_) (fun x hx ex => ?_)
         ·simp only [upd, if_pos] at hx
          cases hx
          simp only [Am.Obj.cs, hcs'l]; exact Nat.le_refl _
         ·show SlAt (C.ρ o) 0 sz _ cap
          rw [hρ]
          exact ⟨hS, fun _ => rfl, rfl⟩
        ·have hlen36 : len ≤ 68719476736 := by
          have : len * 1 ≤ len * sz := Nat.mul_le_mul_left _ hn0
          omega
         obtain ⟨newCap, arr, hrun, hnc, hasz, hget⟩ := append_grows (C := C) (ty := ty) (A := A) (len := len) (cap := cap) (us := c.toList.take (len * sz)) he hn hz hzn hby ht2 hlx htl hvs (by omega) (by omega)
          (fun w hw => firstCells_run (C := C) htl (fun hne => by
           have hl0 : 0 < len := by
            cases len with
            | zero => simp at hne
            | succ => omega
           refine ⟨⟨b, 0, none⟩, hA (by omega), fun j hj => ?_⟩
           rw [htl] at hj
           have := hmem.at_ j (by show j < cs.length; omega)
           rw [List.getD_eq_getElem?_getD, List.getElem?_take, if_pos hj]
           rw [Array.getD_eq_getD_getElem?] at this
           simpa using this) _ _ w hw) hnew
         have hkn : (len + k) * sz ≤ newCap * sz := Nat.mul_le_mul_right _ hnc
         obtain ⟨hI2, he2⟩ := row_moves (C := ⟨C.ρ, FW C is, kill C.H is, C.U, C.w⟩) hIk hyk rfl (cs' := cs.take (len * sz) ++ xs.map .d) (w' := C.w.drew.alloc (.cells arr e)) (b := C.w.heap.size) (S := newCap * sz) (c' := arr) (t := e)
          ((Grew.drew C.w).trans (Grew.alloc _ _)) (Nat.le_refl _) (alloc_block _ _) hasz (by rw [hcs'l]; show cs.length < _; omega) (by rw [hcs'l]; omega)
          (fun j hj => by rw [hcs'l] at hj; rw [hget j (by omega)]; exact hone j hj)
          (fun j x hj => by rw [hget j (by have := (List.getElem?_eq_some_iff.1 hj).1; omega)]; exact hcat j x hj)
         refine ⟨_, _, hrun, ?_, ⟨rfl, rfl, hI2, hEk.trans he2, fun o ho => .inl ho⟩⟩
         refine .osl _ _ _ _ _ _ _ hnc hU (fun x hx => ?_) (fun x hx ex => ?_)
         ·simp only [upd, if_pos] at hx
          cases hx
          simp only [Am.Obj.cs, hcs'l]; exact Nat.le_refl _
         ·simp only [SlAt, if_pos]
          exact ⟨by omega, fun _ => trivial, rfl⟩
       ·cases h
  ·cases h
 ·rename_i cs len nl
  split at h
  ·rename_i hc
   obtain ⟨hcl, hlsmall⟩ := hc
   split at h
   ·rename_i hk0
    cases h
    subst hk0
    have hvs0 : vs = [] := List.eq_nil_of_length_eq_zero (by rw [hvs, Nat.zero_mul])
    subst hvs0
    have hs' := hs
    cases hs.dinv with
    | sl _ _ cap _ _ A us hlc hf h1 hrr hcc hnl =>
     exact ⟨⟨C.ρ, FW C is, kill C.H is, C.U, C.w⟩, .slice A len cap, append_none he hn ht2 hlx hlc hnew, hs'.ext hI hEk, ⟨rfl, rfl, hIk, hEk, fun o ho => .inl ho⟩⟩
   ·rename_i hk0
    cases h
    cases hs.dinv with
    | sl _ _ cap _ _ A us hlc hf h1 hrr hcc hnl =>
     have hcap : cap = len := hf rfl
     have hgetus : ∀ j, j < cs.length → ((List.range cs.length).map us).getD j undef = us j := fun j hj => by simp [List.getD_eq_getElem?_getD, hj]
     have hul : ((List.range cs.length).map us).length = cs.length := by simp
     have hlen36 : len ≤ 68719476736 := by
      have : len * 1 ≤ len * n := Nat.mul_le_mul_left _ hn0
      omega
     obtain ⟨newCap, arr, hrun, hnc, hasz, hget⟩ := append_grows (C := C) (ty := ty) (A := A) (len := len) (cap := cap) (us := (List.range cs.length).map us) he hn hz hzn hby ht2 hlx (by rw [hul, hcl]) hvs (by omega) (by omega)
      (fun w hw => firstCells_run (C := C) (by rw [hul, hcl]) (fun hne => by
       obtain ⟨ad, ha, _, hcell⟩ := hcc (by intro e; subst e; simp at hne)
       exact ⟨ad, ha, fun j hj => by rw [hul] at hj; rw [hgetus j hj]; exact hcell j hj⟩) _ _ w hw) hnew
     have hmul : (len + k) * n = len * n + k * n := Nat.add_mul _ _ _
     have hkn : (len + k) * n ≤ newCap * n := Nat.mul_le_mul_right _ hnc
     have hcat := cells_cat (C := ⟨C.ρ, FW C is, kill C.H is, C.U, C.w⟩) (xs := cs.map .d) (ys := xs.map .d) (us := (List.range cs.length).map us) (vs := vs) (by simp) (by simp [hvl])
      (fun j x hj => by
       simp only [List.getElem?_map, Option.map_eq_some_iff] at hj
       obtain ⟨q, hq, rfl⟩ := hj
       rw [hgetus j (List.getElem?_eq_some_iff.1 hq).1]
       exact .d _ _ (FW_of (hrr j q hq)))
      (fun j x hj => by
       simp only [List.getElem?_map, Option.map_eq_some_iff] at hj
       obtain ⟨q, hq, rfl⟩ := hj
       exact .d _ _ (hvr j q hq))
     have hone : ∀ j, j < (len + k) * n → (((List.range cs.length).map us ++ vs).getD j undef).oneCell' = true := by
      intro j hj
      rw [List.getD_eq_getElem?_getD, List.getElem?_append]
      split
      ·rename_i hj2
       rw [hul] at hj2
       rw [← List.getD_eq_getElem?_getD, hgetus j hj2]
       exact h1 j hj2
      ·rename_i hj2
       rw [hul] at hj2 ⊢
       rw [← List.getD_eq_getElem?_getD]
       exact list_one hv1 _ (by omega)
     have hcl2 : (cs.map AV.d ++ xs.map AV.d).length = (len + k) * n := by simp; omega
     obtain ⟨hI2, he2⟩ := newRow_ok (C := ⟨C.ρ, FW C is, kill C.H is, C.U, C.w⟩) hIk (hid 0) (cs := cs.map .d ++ xs.map .d) (arr := arr) (t := e) (ob := .grow (cs.map .d ++ xs.map .d)) (.inr rfl) (by rw [hcl2]; omega)
      (fun j hj => by rw [hcl2] at hj; rw [hget j hj]; exact hone j hj) (fun j x hj => by rw [hget j (by have := (List.getElem?_eq_some_iff.1 hj).1; omega)]; exact hcat j x hj)
      (w' := C.w.drew.alloc (.cells arr e)) (b := C.w.heap.size) ((Grew.drew C.w).trans (Grew.alloc _ _)) (Nat.le_refl _) (alloc_block _ _)
     refine ⟨_, _, hrun, ?_, ⟨rfl, rfl, hI2, hEk.trans he2, fun o ho => ho.imp (fun h => h) (fun h => by rw [h])⟩⟩
     refine .osl _ _ _ _ _ _ _ hnc (.inr rfl) (fun x hx => ?_) (fun x hx ex => ?_)
     ·simp only [upd, if_pos] at hx
      cases hx
      simp [Am.Obj.cs]
     ·simp only [SlAt, if_pos]
      exact ⟨by omega, fun _ => trivial, rfl⟩
  ·cases h
 ·cases h
end
end Go.Proofs.Ytiafeijkifpfaaa.Am

/-
 The abstract machine: maps; copy and clear. No condition.
-/
namespace Go.Proofs.Ytiafeijkifpfaaa.Am
open Go
set_option linter.unusedVariables false
section
variable {P : Program} {C : Cx}
theorem zeroAV_run {t : TypeId} {z : AV} (h : zeroAV P t = some z) (w : World) : ∃ v, (zeroValue t).run P w = .ok v w ∧ ∀ C : Cx, Rep C z v := by
 unfold zeroAV at h
 simp only [Option.bind_eq_bind, Option.bind_eq_some_iff] at h
 obtain ⟨i, hi, v, hv, h⟩ := h
 refine ⟨v, by simp [zeroValue, typeInfo, hi, hv], fun C => ?_⟩
 split at h
 ·rename_i cs
  split at h
  ·rename_i hall
   cases h
   exact mkAgg_rep (lift_ok cs (fun u hu => List.all_eq_true.1 hall u hu))
  ·cases h
 ·split at h
  ·cases h; exact liftV_rep C v
  ·cases h
theorem tmap_und {t k e : TypeId} (h : tmap P t = some (k, e)) : P.underlying t = some (.map k e) := by
 unfold tmap at h
 split at h
 ·rename_i he; cases h; exact he
 ·cases h
theorem mp_mem (hI : Inv C) {o : Oid} {sh : Shape} {es : List (D × AV × Nat)} {c : Nat} (hx : C.H o = some (.mp sh es c)) {u : Value} (hu : Rep C (.map o) u) :
  ∃ b S es', u = .map (some b) ∧ C.ρ o = some (b, S) ∧ C.w.heap[b]? = some (.map es' c) ∧ es'.size = es.length ∧
   ∀ (j : Nat) (k : D) (v : AV) (n : Nat), es[j]? = some (k, v, n) → fitD sh k = true ∧ ∃ e, es'[j]? = some e ∧ vOf k = some e.key ∧ Rep C v e.val ∧ e.born = n := by
 cases hu with
 | map _ b hU h =>
  obtain ⟨_, S, hS⟩ := h _ hx
  obtain ⟨b', S', es', e, hh, hs, hr⟩ := hI.obj o _ hx
  rw [hS] at e; cases e
  exact ⟨b, S, es', rfl, hS, hh, hs, hr⟩
theorem keysOk_of {sh : Shape} {es : List (D × AV × Nat)} {es' : Array MapEntry} (hs : es'.size = es.length) (hr : ∀ (j : Nat) (k : D) (v : AV) (n : Nat), es[j]? = some (k, v, n) → fitD sh k = true ∧ ∃ e, es'[j]? = some e ∧ vOf k = some e.key ∧ Rep C v e.val ∧ e.born = n) : KeysOk sh es es'.toList :=
 ⟨by simpa using hs, fun j k v n hj => by
  obtain ⟨h1, e, h2, h3, _⟩ := hr j k v n hj
  exact ⟨h1, e, by simpa using h2, h3⟩⟩
theorem makeMap_sim {t k e : TypeId} {sh : Shape} {id : Nat} (hI : Inv C) (hid : ∀ j, ¬ C.U (id, j)) (ht : tmap P t = some (k, e)) (hsh : tshape P k = some sh) :
  ∃ C' : Cx, ∃ z, (Instr.makeMap t none).run P C.w = .ok z C'.w ∧ Rep C' (.map (id, 0)) z ∧ Stepped C C' C'.w (upd C.H (id, 0) (.mp sh [] 0)) id := by
 have ne : ∀ o, C.U o → o ≠ (id, 0) := fun o ho e => hid 0 (e ▸ ho)
 have hg := Grew.alloc C.w (.map #[] 0)
 let ρ' : Oid → Option (Nat × Nat) := fun o => if o = (id, 0) then some (C.w.heap.size, 0) else C.ρ o
 have hH : ∀ o, C.U o → upd C.H (id, 0) (.mp sh [] 0) o = C.H o ∧ ρ' o = C.ρ o := fun o ho => ⟨if_neg (ne o ho), if_neg (ne o ho)⟩
 have hnew : ∀ o x, upd C.H (id, 0) (.mp sh [] 0) o = some x → ¬ C.U o → o = (id, 0) ∧ x = .mp sh [] 0 := fun o x hx hc => by
  simp only [upd] at hx
  split at hx
  ·rename_i e; cases hx; exact ⟨e, rfl⟩
  ·exact absurd (hI.used o x hx) hc
 have hN : ∀ o x, upd C.H (id, 0) (.mp sh [] 0) o = some x → ¬ C.U o → ∀ b' S, ρ' o = some (b', S) → C.w.heap.size ≤ b' := fun o x hx hc b' S e => by
  simp only [ρ'] at e
  rw [if_pos (hnew o x hx hc).1] at e; cases e; exact Nat.le_refl _
 have he := ext_fresh (U' := fun o => C.U o ∨ o = (id, 0)) hI hg (fun _ h => .inl h) hH hN
 have hI' := inv_fresh (U' := fun o => C.U o ∨ o = (id, 0)) hI hg (fun _ h => .inl h) hH hN (fun o x hx hc => .inr (hnew o x hx hc).1) (fun o x hx hc => by
  obtain ⟨rfl, rfl⟩ := hnew o x hx hc
  exact ⟨C.w.heap.size, 0, #[], if_pos rfl, alloc_block _ _, rfl, fun j k v n hj => by simp at hj⟩)
  (fun o o' x x' b' S S' hx hx' hc hc' _ _ => by rw [(hnew o x hx hc).1, (hnew o' x' hx' hc').1])
 refine ⟨⟨ρ', C.F, upd C.H (id, 0) (.mp sh [] 0), fun o => C.U o ∨ o = (id, 0), C.w.alloc (.map #[] 0)⟩, .map (some C.w.heap.size), ?_, .map _ _ (.inr rfl) (fun x hx => ?_), ⟨rfl, rfl, hI', he, ?_⟩⟩
 ·simp only [Instr.makeMap, Sem.run_bind, run_newObj, Result.andThen_ok, Sem.run_pure]
  rfl
 ·simp only [upd, if_pos] at hx
  cases hx
  exact ⟨rfl, 0, if_pos rfl⟩
 ·rintro o (h | rfl)
  ·exact .inl h
  ·exact .inr rfl
theorem wrote_put (w : World) (b : Nat) (o : Go.Obj) : Wrote w { w with heap := w.heap.setIfInBounds b o } b :=
 ⟨rfl, rfl, rfl, by simp, fun k hk => by simp [Array.getElem?_setIfInBounds]; intro e; exact absurd e.symm hk⟩
theorem mp_write (hI : Inv C) {o : Oid} {sh : Shape} {es fs : List (D × AV × Nat)} {c c' : Nat} (hx : C.H o = some (.mp sh es c)) {b S : Nat} (hb : C.ρ o = some (b, S)) {es' fs' : Array MapEntry} (hh : C.w.heap[b]? = some (.map es' c)) (hs : fs'.size = fs.length)
  (hr : ∀ (j : Nat) (k : D) (v : AV) (n : Nat), fs[j]? = some (k, v, n) → fitD sh k = true ∧ ∃ e, fs'[j]? = some e ∧ vOf k = some e.key ∧ Rep C v e.val ∧ e.born = n) :
  ∃ C', (setObj b (.map fs' c')).run P C.w = .ok () C'.w ∧ C'.H = upd C.H o (.mp sh fs c') ∧ Inv C' ∧ Ext C C' ∧ C'.U = C.U := by
 have hw := wrote_put C.w b (.map fs' c')
 have hlt : b < C.w.heap.size := (Array.getElem?_eq_some_iff.1 hh).1
 have he := ext_write (x' := .mp sh fs c') hI hx rfl hb hw rfl (Nat.le_refl _)
 have hI' := inv_write (x' := .mp sh fs c') hI hx rfl hb hw rfl (Nat.le_refl _) ⟨b, S, fs', hb, by simp [hlt], hs, fun j k v n hj => by
  obtain ⟨h1, e, h2, h3, h4, h5⟩ := hr j k v n hj
  exact ⟨h1, e, h2, h3, h4.ext hI he, h5⟩⟩
 exact ⟨_, MapKept.run_setObj_map _ hh, rfl, hI', he, rfl⟩
theorem entriesOf_some {H : Hp} {sh : Shape} {m : AV} {es : List (D × AV × Nat)} (h : entriesOf H sh m = some es) : (m = .d .nilmap ∧ es = []) ∨ ∃ o c, m = .map o ∧ H o = some (.mp sh es c) := by
 unfold entriesOf at h
 split at h
 ·cases h; exact .inl ⟨rfl, rfl⟩
 ·rename_i o
  simp only [Option.bind_eq_some_iff] at h
  obtain ⟨x, hx, h⟩ := h
  split at h
  ·split at h
   ·rename_i hq; cases h; subst hq; exact .inr ⟨o, _, rfl, hx⟩
   ·cases h
  ·cases h
 ·cases h
theorem mapO_some {H : Hp} {sh : Shape} {m : AV} {o : Oid} {es : List (D × AV × Nat)} {c : Nat} (h : mapO H sh m = some (o, es, c)) : m = .map o ∧ H o = some (.mp sh es c) := by
 unfold mapO at h
 split at h
 ·rename_i o
  simp only [Option.bind_eq_some_iff] at h
  obtain ⟨x, hx, h⟩ := h
  split at h
  ·split at h
   ·rename_i hq; cases h; subst hq; exact ⟨rfl, hx⟩
   ·cases h
  ·cases h
 ·cases h
def pickV (ok : Bool) (zv : Value) : Option (Nat × Value) → Value
 | some (_, v) => if ok then Value.tuple #[v, .bool true] else v
 | none => if ok then Value.tuple #[zv, .bool false] else zv
theorem lookup_sim {t : TypeId} {M I r : AV} {ok : Bool} {u i : Value} (hI : Inv C) (h : lookupO P C.H t M I ok = some r) (hu : Rep C M u) (hi : Rep C I i) : ∃ z, (Instr.lookup t u i ok).run P C.w = .ok z C.w ∧ Rep C r z := by
 unfold lookupO at h
 simp only [Option.bind_eq_bind, Option.bind_eq_some_iff] at h
 obtain ⟨⟨k, e⟩, ht, sh, hsh, es, hes, h⟩ := h
 split at h
 ·rename_i x
  simp only [Option.bind_eq_some_iff] at h
  obtain ⟨z, hz, h⟩ := h
  split at h
  ·rename_i hf
   obtain ⟨V, _, hV, _, _⟩ := key_val hsh hf
   obtain rfl := vOf_rep hV hi.dinv
   obtain ⟨zv, hzv, hzr⟩ := zeroAV_run hz C.w
   have fin : ∀ (es' : Array MapEntry), KeysOk sh es es'.toList → (∀ (j : Nat) (k : D) (v : AV) (n : Nat), es[j]? = some (k, v, n) → ∃ e, es'[j]? = some e ∧ Rep C v e.val) →
     ∃ q : Option (Nat × Value), (Instr.findKey k i es'.toList).run P C.w = .ok q C.w ∧ Rep C r (pickV ok zv q) := by
    intro es' hk hrep
    refine ⟨_, findKey_ok hsh hf hV C.w hk, ?_⟩
    have tup : ∀ {a : AV} {v : Value} {b : Bool}, Rep C a v → Rep C (mkTup [a, .d (.bool b)]) (.tuple #[v, .bool b]) := fun {a v b} ha => mkTup_rep ⟨rfl, fun j y hy => by
     match j, hy with
     | 0, hy => simp at hy; subst hy; simpa using ha
     | 1, hy => simp at hy; subst hy; exact .d _ _ (.bool _)
     | j + 2, hy => simp at hy⟩
    split at h
    ·rename_i j v n hq
     obtain ⟨hj, k', hkj⟩ := findK_ge hq
     obtain ⟨e', he', hre⟩ := hrep _ _ _ _ hkj
     rw [hq]
     simp only [Nat.sub_zero] at he'
     simp only [found, Nat.sub_zero, Array.getElem?_toList, he', Option.map_some]
     cases h
     cases ok with
     | true => exact tup hre
     | false => exact hre
    ·rename_i hq
     rw [hq]
     simp only [found]
     cases h
     cases ok with
     | true => exact tup (hzr C)
     | false => exact hzr C
   have run : ∀ (es' : Array MapEntry), (∃ q : Option (Nat × Value), (Instr.findKey k i es'.toList).run P C.w = .ok q C.w ∧ Rep C r (pickV ok zv q)) →
     ((∃ q, u = .map (some q) ∧ ∃ c, C.w.heap[q]? = some (.map es' c)) ∨ (u = .map none ∧ es' = #[])) → ∃ z, (Instr.lookup t u i ok).run P C.w = .ok z C.w ∧ Rep C r z := by
    rintro es' ⟨q, hq, hrq⟩ hu'
    have hes : (Instr.lookup t u i ok).run P C.w = .ok (pickV ok zv q) C.w := by
     rcases hu' with ⟨b, rfl, c, hh⟩ | ⟨rfl, rfl⟩
     ·simp only [Instr.lookup, Sem.run_bind, und_run (tmap_und ht), Result.andThen_ok, MapKept.run_getObj_map hh, Sem.run_pure, checkKey_ok hsh hf hV, hq]
      cases q <;> simp [hzv, pickV]
     ·simp only [Instr.lookup, Sem.run_bind, und_run (tmap_und ht), Result.andThen_ok, Sem.run_pure, checkKey_ok hsh hf hV, hq]
      cases q <;> simp [hzv, pickV]
    exact ⟨_, hes, hrq⟩
   rcases entriesOf_some hes with ⟨rfl, rfl⟩ | ⟨o, c, rfl, hx⟩
   ·have hn := hu.dinv
    refine run #[] (fin #[] ⟨rfl, fun j k v n hj => by simp at hj⟩ (fun j k v n hj => by simp at hj)) (.inr ⟨?_, rfl⟩)
    cases hn; rfl
   ·obtain ⟨b, S, es', hub, hb, hh, hs, hr⟩ := mp_mem hI hx hu
    exact run es' (fin es' (keysOk_of hs hr) (fun j k v n hj => by
     obtain ⟨_, e, h1, _, h2, _⟩ := hr j k v n hj
     exact ⟨e, h1, h2⟩)) (.inl ⟨b, hub, c, hh⟩)
  ·cases h
 ·cases h
theorem entry_set {sh : Shape} {es : List (D × AV × Nat)} {es' : Array MapEntry} (hs : es'.size = es.length)
  (hr : ∀ (j : Nat) (k : D) (v : AV) (n : Nat), es[j]? = some (k, v, n) → fitD sh k = true ∧ ∃ e, es'[j]? = some e ∧ vOf k = some e.key ∧ Rep C v e.val ∧ e.born = n)
  {j : Nat} {f : MapEntry → MapEntry} {x : D} {v : AV} {n : Nat} (hx : fitD sh x = true) (hf : ∀ e, es'[j]? = some e → vOf x = some (f e).key ∧ Rep C v (f e).val ∧ (f e).born = n) :
  (es'.modify j f).size = (es.set j (x, v, n)).length ∧ ∀ (i : Nat) (k : D) (v' : AV) (m : Nat), (es.set j (x, v, n))[i]? = some (k, v', m) → fitD sh k = true ∧ ∃ e, (es'.modify j f)[i]? = some e ∧ vOf k = some e.key ∧ Rep C v' e.val ∧ e.born = m := by
 refine ⟨by simp [hs], fun i k v' m hi => ?_⟩
 rw [List.getElem?_set] at hi
 rw [Array.getElem?_modify]
 split at hi
 ·rename_i hij
  subst hij
  split at hi
  ·rename_i hlt
   cases hi
   have : j < es'.size := by omega
   have he : es'[j]? = some es'[j] := Array.getElem?_eq_getElem this
   obtain ⟨h1, h2, h3⟩ := hf _ he
   exact ⟨hx, f es'[j], by simp [this], h1, h2, h3⟩
  ·cases hi
 ·rename_i hij
  rw [if_neg hij]
  obtain ⟨h1, e, h2, h3⟩ := hr i k v' m hi
  exact ⟨h1, e, h2, h3⟩
theorem entry_push {sh : Shape} {es : List (D × AV × Nat)} {es' : Array MapEntry} (hs : es'.size = es.length)
  (hr : ∀ (j : Nat) (k : D) (v : AV) (n : Nat), es[j]? = some (k, v, n) → fitD sh k = true ∧ ∃ e, es'[j]? = some e ∧ vOf k = some e.key ∧ Rep C v e.val ∧ e.born = n)
  {x : D} {v : AV} {n : Nat} {e0 : MapEntry} (hx : fitD sh x = true) (h1 : vOf x = some e0.key) (h2 : Rep C v e0.val) (h3 : e0.born = n) :
  (es'.push e0).size = (es ++ [(x, v, n)]).length ∧ ∀ (i : Nat) (k : D) (v' : AV) (m : Nat), (es ++ [(x, v, n)])[i]? = some (k, v', m) → fitD sh k = true ∧ ∃ e, (es'.push e0)[i]? = some e ∧ vOf k = some e.key ∧ Rep C v' e.val ∧ e.born = m := by
 refine ⟨by simp [hs], fun i k v' m hi => ?_⟩
 rw [List.getElem?_append] at hi
 rw [Array.getElem?_push]
 split at hi
 ·rename_i hlt
  rw [if_neg (by omega)]
  exact hr i k v' m hi
 ·rename_i hlt
  have : i = es.length := by
   rcases Nat.lt_or_ge es.length i with q | q
   ·rw [List.getElem?_eq_none (by simp; omega)] at hi; cases hi
   ·omega
  subst this
  simp at hi
  obtain ⟨rfl, rfl, rfl⟩ := hi
  rw [if_pos hs.symm]
  exact ⟨hx, e0, rfl, h1, h2, h3⟩
theorem found_key {sh : Shape} {es : List (D × AV × Nat)} {x : D} (hx : fitD sh x = true) {V : Value} (hV : vOf x = some V) : ∀ {es : List (D × AV × Nat)} {i j : Nat} {v : AV} {n : Nat}, findK x es i = some (j, v, n) → ∃ k, es[j - i]? = some (k, v, n) ∧ eqD x k = true
 | (k, v, n) :: r, i, j, v', n', h => by
  simp only [findK] at h
  split at h
  ·rename_i hq; cases h; exact ⟨k, by simp, hq⟩
  ·obtain ⟨h1, _⟩ := findK_ge h
   obtain ⟨k', h2, h3⟩ := found_key (es := es) hx hV h
   refine ⟨k', ?_, h3⟩
   rw [show j - i = (j - (i + 1)) + 1 by omega]
   simpa using h2
theorem mapUpdate_sim {t : TypeId} {M I W : AV} {H' : Hp} {u i v : Value} (hI : Inv C) (h : mapUpdateO P C.H t M I W = some H') (hu : Rep C M u) (hi : Rep C I i) (hv : Rep C W v) :
  ∃ C', (Instr.mapUpdate t u i v).run P C.w = .ok () C'.w ∧ C'.H = H' ∧ Inv C' ∧ Ext C C' ∧ C'.U = C.U := by
 unfold mapUpdateO at h
 simp only [Option.bind_eq_bind, Option.bind_eq_some_iff] at h
 obtain ⟨⟨k, e⟩, ht, sh, hsh, ⟨o, es, c⟩, hm, h⟩ := h
 obtain ⟨rfl, hx⟩ := mapO_some hm
 obtain ⟨b, S, es', rfl, hb, hh, hs, hr⟩ := mp_mem hI hx hu
 split at h
 ·rename_i x
  split at h
  ·rename_i hf
   obtain ⟨V, _, hV, _, _⟩ := key_val hsh hf
   obtain rfl := vOf_rep hV hi.dinv
   simp only [Instr.mapUpdate, Sem.run_bind, und_run (tmap_und ht), Result.andThen_ok, MapKept.run_getObj_map hh, checkKey_ok hsh hf hV, findKey_ok hsh hf hV C.w (keysOk_of hs hr)]
   split at h
   ·rename_i j v0 n hq
    cases h
    rw [hq]
    obtain ⟨k', hk', heq⟩ := found_key (es := es) hf hV hq
    simp only [Nat.sub_zero] at hk'
    obtain ⟨hf', e', he', hke, _, hbn⟩ := hr _ _ _ _ hk'
    have hsame := eqD_same hf hf' heq hV hke
    simp only [found, Nat.sub_zero, Array.getElem?_toList, he', Option.map_some, Option.getD_some, ← hsame, Sem.run_bind, keyStays_ok hsh hf hV, Result.andThen_ok]
    obtain ⟨h1, h2⟩ := entry_set (C := C) (f := fun e => { e with key := i, val := v }) (v := W) (n := n) hs hr hf (j := j) (fun e he => ⟨hV, hv, by rw [he'] at he; cases he; exact hbn⟩)
    exact mp_write hI hx hb hh h1 h2
   ·rename_i hq
    cases h
    rw [hq]
    simp only [found]
    obtain ⟨h1, h2⟩ := entry_push (C := C) (v := W) (n := c) (e0 := { key := i, val := v, born := c }) hs hr hf hV hv rfl
    exact mp_write hI hx hb hh h1 h2
  ·cases h
 ·cases h
theorem mapEntry_sim {t : TypeId} {M I r : AV} {H' : Hp} {u i : Value} (hI : Inv C) (h : mapEntryO P C.H t M I = some (r, H')) (hu : Rep C M u) (hi : Rep C I i) :
  ∃ C' z, (Instr.mapEntry t u i).run P C.w = .ok z C'.w ∧ Rep C' r z ∧ C'.H = H' ∧ Inv C' ∧ Ext C C' ∧ C'.U = C.U := by
 unfold mapEntryO at h
 simp only [Option.bind_eq_bind, Option.bind_eq_some_iff] at h
 obtain ⟨⟨k, e⟩, ht, sh, hsh, ⟨o, es, c⟩, hm, h⟩ := h
 obtain ⟨rfl, hx⟩ := mapO_some hm
 obtain ⟨b, S, es', rfl, hb, hh, hs, hr⟩ := mp_mem hI hx hu
 have tup : ∀ {C : Cx} {a : AV} {v : Value} {n : Int}, Rep C a v → Rep C (mkTup [a, .d (.int .i64 n)]) (.tuple #[v, .int .i64 n]) := fun {C a v n} ha => mkTup_rep ⟨rfl, fun j y hy => by
  match j, hy with
  | 0, hy => simp at hy; subst hy; simpa using ha
  | 1, hy => simp at hy; subst hy; exact .d _ _ (.int _ _)
  | j + 2, hy => simp at hy⟩
 split at h
 ·rename_i x
  simp only [Option.bind_eq_some_iff] at h
  obtain ⟨z, hz, h⟩ := h
  split at h
  ·rename_i hf
   obtain ⟨V, _, hV, _, _⟩ := key_val hsh hf
   obtain rfl := vOf_rep hV hi.dinv
   obtain ⟨zv, hzv, hzr⟩ := zeroAV_run hz C.w
   simp only [Instr.mapEntry, Sem.run_bind, und_run (tmap_und ht), Result.andThen_ok, MapKept.run_getObj_map hh, checkKey_ok hsh hf hV, findKey_ok hsh hf hV C.w (keysOk_of hs hr)]
   split at h
   ·rename_i j v0 n hq
    cases h
    rw [hq]
    obtain ⟨k', hk', heq⟩ := found_key (es := es) hf hV hq
    simp only [Nat.sub_zero] at hk'
    obtain ⟨hf', e', he', hke, hre, hbn⟩ := hr _ _ _ _ hk'
    have hsame := eqD_same hf hf' heq hV hke
    simp only [found, Nat.sub_zero, Array.getElem?_toList, he', Option.map_some, Option.getD_some, ← hsame, Sem.run_bind, keyStays_ok hsh hf hV, Result.andThen_ok, hbn]
    obtain ⟨h1, h2⟩ := entry_set (C := C) (f := fun e => { e with key := i }) (x := k') (v := v0) (n := n) hs hr hf' (j := j) (fun e he => by rw [he'] at he; cases he; exact ⟨by rw [hke, hsame], hre, hbn⟩)
    have hes : es.set j (k', v0, n) = es := by
     apply List.ext_getElem?
     intro m
     rw [List.getElem?_set]
     split
     ·rename_i e; subst e
      rw [hk', if_pos (List.getElem?_eq_some_iff.1 hk').1]
     ·rfl
    rw [hes] at h1 h2
    obtain ⟨C', hw, hH, hI', he', hU⟩ := mp_write (P := P) (c' := c) hI hx hb hh h1 h2
    refine ⟨C', .tuple #[e'.val, .int .i64 n], ?_, tup (hre.ext hI he'), ?_, hI', he', hU⟩
    ·rw [hw]; simp only [Result.andThen_ok, Sem.run_pure, goInt]
    ·rw [hH]
     funext p
     simp only [upd]
     split
     ·rename_i e; rw [e, hx]
     ·rfl
   ·rename_i hq
    cases h
    rw [hq]
    simp only [found, Sem.run_bind, hzv, Result.andThen_ok]
    obtain ⟨h1, h2⟩ := entry_push (C := C) (v := z) (n := c) (e0 := { key := i, val := zv, born := c }) hs hr hf hV (hzr C) rfl
    obtain ⟨C', hw, hH, hI', he', hU⟩ := mp_write (P := P) (c' := c + 1) hI hx hb hh h1 h2
    exact ⟨C', .tuple #[zv, .int .i64 c], by rw [hw]; simp only [Result.andThen_ok, Sem.run_pure, goInt], tup (hzr C'), hH, hI', he', hU⟩
  ·cases h
 ·cases h
theorem stampAt_spec {n : Int} : ∀ {es : List (D × AV × Nat)} {i j : Nat} {x : D}, stampAt n es i = some (j, x) → i ≤ j ∧ (∃ v m, es[j - i]? = some (x, v, m) ∧ (m : Int) = n) ∧ ∀ l, l < j - i → ∀ k v m, es[l]? = some (k, v, m) → (m : Int) ≠ n
 | (x, v, b) :: r, i, j, x', h => by
  simp only [stampAt] at h
  split at h
  ·rename_i hq; cases h; exact ⟨Nat.le_refl _, ⟨v, b, by simp, hq⟩, fun l hl => by omega⟩
  ·rename_i hq
   obtain ⟨h1, ⟨v', m, h2, h3⟩, h4⟩ := stampAt_spec h
   have e : j - i = (j - (i + 1)) + 1 := by omega
   refine ⟨by omega, ⟨v', m, by rw [e]; simpa using h2, h3⟩, fun l hl k v m hlk => ?_⟩
   cases l with
   | zero => simp at hlk; obtain ⟨_, _, rfl⟩ := hlk; exact hq
   | succ l => exact h4 l (by omega) k v m (by simpa using hlk)
theorem entryStore_sim {t : TypeId} {M S V : AV} {H' : Hp} {u s v : Value} (hI : Inv C) (h : entryStoreO P C.H t M S V = some H') (hu : Rep C M u) (hs' : Rep C S s) (hv : Rep C V v) :
  ∃ C', (Instr.entryStore t u s v).run P C.w = .ok () C'.w ∧ C'.H = H' ∧ Inv C' ∧ Ext C C' ∧ C'.U = C.U := by
 unfold entryStoreO at h
 simp only [Option.bind_eq_bind, Option.bind_eq_some_iff] at h
 obtain ⟨⟨k, e⟩, ht, sh, hsh, ⟨o, es, c⟩, hm, h⟩ := h
 obtain ⟨rfl, hx⟩ := mapO_some hm
 obtain ⟨b, S', es', rfl, hb, hh, hs, hr⟩ := mp_mem hI hx hu
 split at h
 ·rename_i n
  simp only [Option.bind_eq_some_iff] at h
  obtain ⟨⟨j, x⟩, hst, h⟩ := h
  cases h
  cases hs'.dinv
  obtain ⟨_, ⟨v0, m, hj, hmn⟩, hbefore⟩ := stampAt_spec hst
  simp only [Nat.sub_zero] at hj hbefore
  obtain ⟨hf, e', he', hke, hre, hbn⟩ := hr _ _ _ _ hj
  have hfi : es'.findIdx? (fun e => (e.born : Int) == n) = some j := by
   rw [Array.findIdx?_eq_some_iff_getElem]
   have hjl : j < es'.size := (Array.getElem?_eq_some_iff.1 he').1
   refine ⟨hjl, ?_, fun l hl => ?_⟩
   ·have : es'[j] = e' := by rw [Array.getElem?_eq_getElem hjl] at he'; exact Option.some.inj he'
    rw [this, hbn]; simpa using hmn
   ·have hll : l < es.length := by have := (List.getElem?_eq_some_iff.1 hj).1; omega
    obtain ⟨_, e1, h1, _, _, h3⟩ := hr l es[l].1 es[l].2.1 es[l].2.2 (by rw [List.getElem?_eq_getElem hll])
    have := hbefore l hl es[l].1 es[l].2.1 es[l].2.2 (by rw [List.getElem?_eq_getElem hll])
    have hlt : l < es'.size := by omega
    rw [Array.getElem?_eq_getElem hlt] at h1
    rw [Option.some.inj h1, h3]
    simpa using this
  obtain ⟨h1, h2⟩ := entry_set (C := C) (f := fun e => { e with val := v }) (x := x) (v := V) (n := n.toNat) hs hr hf (j := j) (fun e he => by
   rw [he'] at he; cases he
   exact ⟨hke, hv, by rw [hbn]; omega⟩)
  obtain ⟨C', hw, hH, hI', he', hU⟩ := mp_write (P := P) (c' := c) hI hx hb hh h1 h2
  refine ⟨C', ?_, hH, hI', he', hU⟩
  simp only [Instr.entryStore, Sem.run_bind, MapKept.run_getObj_map hh, Result.andThen_ok, asInt, asIntOf, Sem.run_pure, hfi]
  exact hw
 ·cases h
theorem delete_sim {t ty : TypeId} {ts : Array TypeId} {M I : AV} {H' : Hp} {u i : Value} (hI : Inv C) (h : deleteO P C.H t M I = some H') (hts : ts[0]? = some t) (hu : Rep C M u) (hi : Rep C I i) :
  ∃ C', (Builtin.delete_ ts ty #[u, i]).run P C.w = .ok (.tuple #[]) C'.w ∧ C'.H = H' ∧ Inv C' ∧ Ext C C' ∧ C'.U = C.U := by
 unfold deleteO at h
 simp only [Option.bind_eq_bind, Option.bind_eq_some_iff] at h
 obtain ⟨⟨k, e⟩, ht, sh, hsh, ⟨o, es, c⟩, hm, h⟩ := h
 obtain ⟨rfl, hx⟩ := mapO_some hm
 obtain ⟨b, S, es', rfl, hb, hh, hs, hr⟩ := mp_mem hI hx hu
 split at h
 ·rename_i x
  split at h
  ·rename_i hf
   obtain ⟨V, _, hV, _, _⟩ := key_val hsh hf
   obtain rfl := vOf_rep hV hi.dinv
   simp only [Builtin.delete_, hts, List.getElem?_toArray, List.getElem?_cons_zero, List.getElem?_cons_succ, Sem.run_bind, und_run (tmap_und ht), Result.andThen_ok, MapKept.run_getObj_map hh, checkKey_ok hsh hf hV, findKey_ok hsh hf hV C.w (keysOk_of hs hr)]
   split at h
   ·rename_i j v0 n hq
    cases h
    rw [hq]
    obtain ⟨k', hk', _⟩ := found_key (es := es) hf hV hq
    simp only [Nat.sub_zero] at hk'
    obtain ⟨hf', e', he', _⟩ := hr _ _ _ _ hk'
    have hjl : j < es'.size := (Array.getElem?_eq_some_iff.1 he').1
    simp only [found, Nat.sub_zero, Array.getElem?_toList, he', Option.map_some]
    obtain ⟨C', hw, hH, hI', hE, hU⟩ := mp_write (P := P) (c' := c) (fs := es.eraseIdx j) (fs' := es'.eraseIdxIfInBounds j) hI hx hb hh (by
      rw [Array.eraseIdxIfInBounds, dif_pos hjl, Array.size_eraseIdx, List.length_eraseIdx_of_lt (by omega)]; omega) (fun i k v m hi => by
     rw [List.getElem?_eraseIdx] at hi
     rw [Array.eraseIdxIfInBounds, dif_pos hjl, Array.getElem?_eraseIdx]
     split at hi
     ·rename_i hlt; rw [if_pos hlt]; exact hr _ _ _ _ hi
     ·rename_i hlt; rw [if_neg hlt]; exact hr _ _ _ _ hi)
    exact ⟨C', by rw [Sem.run_bind, hw]; simp only [Result.andThen_ok, Sem.run_pure], hH, hI', hE, hU⟩
   ·rename_i hq
    cases h
    rw [hq]
    simp only [found]
    obtain ⟨C', hw, hH, hI', hE, hU⟩ := mp_write (P := P) (c' := c) (fs := es) (fs' := es') hI hx hb hh hs hr
    refine ⟨C', by rw [Sem.run_bind, hw]; simp only [Result.andThen_ok, Sem.run_pure], ?_, hI', hE, hU⟩
    rw [hH]
    funext p
    simp only [upd]
    split
    ·rename_i e; rw [e, hx]
    ·rfl
  ·cases h
 ·cases h
theorem mapLen_sim {t ty : TypeId} {ts : Array TypeId} {M r : AV} {u : Value} (hI : Inv C) (h : mapLen P C.H t M = some r) (hts : ts[0]? = some t) (hu : Rep C M u) : ∃ z, (Builtin.len_ ts ty #[u]).run P C.w = .ok z C.w ∧ Rep C r z := by
 unfold mapLen at h
 split at h
 ·rename_i o
  split at h
  ·rename_i hk
   simp only [Option.bind_eq_some_iff] at h
   obtain ⟨x, hx, h⟩ := h
   split at h
   ·rename_i sh es c
    cases h
    obtain ⟨b, S, es', rfl, hb, hh, hs, hr⟩ := mp_mem hI hx hu
    obtain ⟨k, e, hd⟩ : ∃ k e, P.underlying t = some (.map k e) := by unfold tkind at hk; split at hk <;> first | exact ⟨_, _, by assumption⟩ | cases hk
    refine ⟨.int .i64 es.length, ?_, .d _ _ (.int _ _)⟩
    simp only [Builtin.len_, List.getElem?_toArray, hts, List.getElem?_cons_zero, Sem.run_bind, und_run hd, Result.andThen_ok, MapKept.run_getObj_map hh, goInt, hs, Sem.run_pure]
   ·cases h
  ·cases h
 ·cases h
theorem hput_sim (hI : Inv C) {o : Oid} {ver off : Nat} {xs : List AV} {H' : Hp} (h : Hput C.H o ver off xs = some H') {A : Option Addr} {cap len sz : Nat} (hl : len ≤ cap) (hpos : 0 < len)
  (hs : ∀ x, C.H o = some x → x.cs.length = ver → SlAt (C.ρ o) off sz A cap) {vs : Array Value} (hv : CellsOk C xs vs) :
  ∃ C' b, A = some ⟨b, off, none⟩ ∧ (storeCells ⟨b, off, none⟩ vs.toList).run P C.w = .ok () C'.w ∧ C'.H = H' ∧ Inv C' ∧ Ext C C' ∧ C'.U = C.U := by
 unfold Hput at h
 simp only [Option.bind_eq_bind, Option.bind_eq_some_iff] at h
 obtain ⟨x, hx, h⟩ := h
 split at h
 ·rename_i hq
  simp only [Bool.and_eq_true, decide_eq_true_eq, Bool.not_eq_true'] at hq
  obtain ⟨⟨⟨hrow, hz⟩, hver⟩, hfit⟩ := hq
  cases h
  have hsl := hs x hx hver
  unfold SlAt at hsl
  split at hsl
  ·omega
  ·rename_i b S hb
   obtain ⟨hS, hA, _⟩ := hsl
   obtain ⟨c, tt, hh, hcs, hlS, hm⟩ := row_mem hI hx hrow hb
   obtain ⟨hI2, he2⟩ := row_splice hI hx hrow hz hb hh hv (off := off) (by omega)
   refine ⟨_, b, hA (by omega), ?_, rfl, hI2, he2, rfl⟩
   have hone : ∀ v ∈ vs.toList, v.oneCell' = true := by
    intro v hv'
    obtain ⟨j, hj, rfl⟩ := List.getElem_of_mem hv'
    have := hv.2.1 j (by simpa using hj)
    rw [Array.getD_eq_getD_getElem?, Array.getElem?_eq_getElem (by simpa using hj)] at this
    simpa using this
   have hst := run_storeCells_at P b off tt vs.toList 0 c C.w hh (by have := hv.1; simp; omega) hone
   simpa only [Nat.add_zero, Array.length_toList] using hst
 ·cases h
theorem take_cells {n k m : Nat} {cs : List AV} {us : List Value} (hu : us.length = cs.length) (h1 : ∀ v ∈ us, v.oneCell' = true) (hr : ∀ j x, cs[j]? = some x → Rep C x (us.getD j undef)) : CellsOk C (cs.take m) (us.take m).toArray := by
 refine ⟨by simp [hu], fun j hj => ?_, fun j x hx => ?_⟩
 ·have hq : (us.take m).toArray.getD j undef ∈ us.take m := by
   have hj' : j < (us.take m).length := by simpa using hj
   rw [Array.getD_eq_getD_getElem?, List.getElem?_toArray, List.getElem?_eq_getElem hj']
   exact List.getElem_mem hj'
  exact h1 _ (List.mem_of_mem_take hq)
 ·rw [List.getElem?_take] at hx
  split at hx
  ·rename_i hj
   have := hr j x hx
   rw [Array.getD_eq_getD_getElem?, List.getElem?_toArray, List.getElem?_take, if_pos hj, ← List.getD_eq_getElem?_getD]
   exact this
  ·cases hx
theorem copySrc_sim {n k : Nat} {Y : AV} {cs : List AV} {u : Value} (hI : Inv C) (h : copySrc P C.H n Y = some (cs, k)) (hu : Rep C Y u) :
  ∃ us : List Value, us.length = cs.length ∧ (∀ v ∈ us, v.oneCell' = true) ∧ (∀ j x, cs[j]? = some x → Rep C x (us.getD j undef)) ∧ cs.length = k * n ∧ (∀ w, (Builtin.lenOf u).run P w = .ok k w) ∧
   ∀ m, m ≤ k → (Builtin.firstCells n m u).run P C.w = .ok (us.take (m * n)).toArray C.w := by
 unfold copySrc at h
 split at h
 ·rename_i o off len sz ver
  simp only [Option.bind_eq_bind, Option.bind_eq_some_iff] at h
  obtain ⟨x, hx, h⟩ := h
  split at h
  ·rename_i hc
   simp only [Bool.and_eq_true, decide_eq_true_eq] at hc
   obtain ⟨⟨⟨hrow, hver⟩, hfit⟩, rfl⟩ := hc
   cases h
   have hcl : ((x.cs.drop off).take (k * sz)).length = k * sz := by simp; omega
   cases hu with
   | osl _ _ _ _ _ cap A hlc hU hv hs =>
    have hsl := hs x hx hver
    unfold SlAt at hsl
    split at hsl
    ·have hc0 : cap = 0 := hsl.1
     have : k = 0 := by omega
     subst this
     refine ⟨[], by rw [hcl]; simp, fun v hv => by simp at hv, fun j x hj => by simp at hj, hcl, fun w => rfl, fun m hm => ?_⟩
     obtain rfl : m = 0 := by omega
     rw [hsl.2]
     simp [Builtin.firstCells]
    ·rename_i b S hρ
     obtain ⟨hS, hA, hA2⟩ := hsl
     obtain ⟨c, tt, hh, hcsz, hle, hmem⟩ := row_mem hI hx hrow hρ
     have hmem2 := hmem.drop off
     rw [add_at, Nat.zero_add] at hmem2
     have hget : ∀ j, j < k * sz → ((List.range (k * sz)).map fun j => c.getD (off + j) undef).getD j undef = c.getD (off + j) undef := fun j hj => by simp [List.getD_eq_getElem?_getD, hj]
     refine ⟨(List.range (k * sz)).map fun j => c.getD (off + j) undef, by rw [hcl]; simp, fun v hv => ?_, fun j y hy => ?_, hcl, fun w => rfl, fun m hm => ?_⟩
     ·obtain ⟨j, hj, rfl⟩ := List.mem_map.1 hv
      exact hmem2.one j (by simp at hj ⊢; omega)
     ·have hj := (List.getElem?_eq_some_iff.1 hy).1
      rw [hcl] at hj
      rw [hget j hj]
      rw [List.getElem?_take, if_pos hj] at hy
      exact hmem2.rep j _ hy
     ·have hmk : m * sz ≤ k * sz := Nat.mul_le_mul_right _ hm
      refine firstCells_run (C := C) (by rw [List.length_take, List.length_map, List.length_range]; omega) (fun hne => ?_) _ _ C.w (fun _ _ h => h)
      have hpos : 0 < m := by
       cases m with
       | zero => simp at hne
       | succ => omega
      refine ⟨⟨b, off, none⟩, hA (by omega), fun j hj => ?_⟩
      rw [List.length_take, List.length_map, List.length_range] at hj
      have e : (((List.range (k * sz)).map fun j => c.getD (off + j) undef).take (m * sz)).getD j undef = c.getD (off + j) undef := by
       rw [List.getD_eq_getElem?_getD, List.getElem?_take, if_pos (by omega), ← List.getD_eq_getElem?_getD]
       exact hget j (by omega)
      rw [e]
      exact hmem2.at_ j (by simp; omega)
  ·cases h
 ·rename_i cs0 len full nl
  split at h
  ·rename_i hc
   cases h
   cases hu.dinv with
   | sl _ _ cap _ _ a vs hlc hf h1 hrr hcc hnl =>
    have hget : ∀ j, j < cs0.length → ((List.range cs0.length).map vs).getD j undef = vs j := fun j hj => by simp [List.getD_eq_getElem?_getD, hj]
    refine ⟨(List.range cs0.length).map vs, by simp, fun v hv => ?_, fun j y hy => ?_, by simpa using hc, fun w => rfl, fun m hm => ?_⟩
    ·obtain ⟨j, hj, rfl⟩ := List.mem_map.1 hv
     exact h1 j (by simpa using hj)
    ·simp only [List.getElem?_map, Option.map_eq_some_iff] at hy
     obtain ⟨z, hz, rfl⟩ := hy
     rw [hget j (List.getElem?_eq_some_iff.1 hz).1]
     exact .d _ _ (hrr j z hz)
    ·have hmk : m * n ≤ k * n := Nat.mul_le_mul_right _ hm
     refine firstCells_run (C := C) (by rw [List.length_take, List.length_map, List.length_range]; omega) (fun hne => ?_) _ _ C.w (fun _ _ h => h)
     obtain ⟨ad, ha, _, hcell⟩ := hcc (by intro e; subst e; simp at hne)
     refine ⟨ad, ha, fun j hj => ?_⟩
     rw [List.length_take, List.length_map, List.length_range] at hj
     have e : (((List.range cs0.length).map vs).take (m * n)).getD j undef = vs j := by
      rw [List.getD_eq_getElem?_getD, List.getElem?_take, if_pos (by omega), ← List.getD_eq_getElem?_getD]
      exact hget j (by omega)
     rw [e]
     exact hcell j (by omega)
  ·cases h
 ·cases h
theorem copy_sim {t ty : TypeId} {ts : Array TypeId} {X Y r : AV} {H' : Hp} {u v : Value} (hI : Inv C) (h : copyO P C.H t X Y = some (r, H')) (hts : ts[0]? = some t) (hu : Rep C X u) (hv : Rep C Y v) :
  ∃ C' z, (Builtin.copy_ ts ty #[u, v]).run P C.w = .ok z C'.w ∧ Rep C' r z ∧ C'.H = H' ∧ Inv C' ∧ Ext C C' ∧ C'.U = C.U := by
 unfold copyO at h
 simp only [Option.bind_eq_bind, Option.bind_eq_some_iff] at h
 obtain ⟨e, he, n, hn, ⟨cs, k⟩, hsrc, h⟩ := h
 obtain ⟨us, hul, hu1, hur, hcl, hlen, hfirst⟩ := copySrc_sim hI hsrc hv
 split at h
 ·rename_i o off len sz ver
  split at h
  ·rename_i hsz
   subst hsz
   cases hu with
   | osl _ _ _ _ _ cap A hlc hU hvv hs =>
    have hf := hfirst (min k len) (Nat.min_le_left _ _)
    split at h
    ·rename_i h0
     cases h
     rw [h0, Nat.zero_mul, List.take_zero] at hf
     refine ⟨C, .int .i64 0, ?_, .d _ _ (.int _ _), rfl, hI, .refl hI, rfl⟩
     simp only [Builtin.copy_, hts, List.getElem?_toArray, List.getElem?_cons_zero, List.getElem?_cons_succ, Sem.run_bind, und_run (elem_und he), Result.andThen_ok, hlen, size_run hn, h0, hf]
     cases A <;> simp [storeCells, goInt]
    ·rename_i h0
     simp only [Option.map_eq_some_iff, Prod.mk.injEq] at h
     obtain ⟨H1, hput, rfl, rfl⟩ := h
     obtain ⟨C', b, rfl, hst, hH, hI', hE, hU'⟩ := hput_sim (P := P) hI hput hlc (by omega) hs (take_cells (n := 0) (k := 0) hul hu1 hur)
     refine ⟨C', .int .i64 (min k len : Nat), ?_, .d _ _ (.int _ _), hH, hI', hE, hU'⟩
     simp only [Builtin.copy_, hts, List.getElem?_toArray, List.getElem?_cons_zero, List.getElem?_cons_succ, Sem.run_bind, und_run (elem_und he), Result.andThen_ok, hlen, size_run hn, hf, hst, goInt, Sem.run_pure]
  ·cases h
 ·cases h
theorem clear_sim {t ty : TypeId} {ts : Array TypeId} {X : AV} {H' : Hp} {u : Value} (hI : Inv C) (h : clearO P C.H t X = some H') (hts : ts[0]? = some t) (hu : Rep C X u) :
  ∃ C', (Builtin.clear_ ts ty #[u]).run P C.w = .ok (.tuple #[]) C'.w ∧ C'.H = H' ∧ Inv C' ∧ Ext C C' ∧ C'.U = C.U := by
 unfold clearO at h
 split at h
 ·rename_i o off len sz ver
  simp only [Option.bind_eq_bind, Option.bind_eq_some_iff] at h
  obtain ⟨e, he, n, hn, z, hz, h⟩ := h
  split at h
  ·rename_i hc
   obtain ⟨rfl, hzl, hn0⟩ := hc
   cases hu with
   | osl _ _ _ _ _ cap A hlc hU hvv hs =>
    split at h
    ·rename_i h0
     cases h
     subst h0
     refine ⟨C, ?_, rfl, hI, .refl hI, rfl⟩
     cases A <;> simp [Builtin.clear_, hts, und_run (elem_und he)]
    ·rename_i h0
     obtain ⟨v, hv, hvs, hck⟩ := zeros_ok (C := C) hz hzl hn0 len
     obtain ⟨C', b, rfl, hst, hH, hI', hE, hU'⟩ := hput_sim (P := P) hI h hlc (by omega) hs hck
     refine ⟨C', ?_, hH, hI', hE, hU'⟩
     have e0 : Builtin.zeroCells v.cells len = (Array.range (len * sz)).map (v.cells[· % v.cells.size]!) := by rw [Builtin.zeroCells, hvs]
     obtain ⟨l, rfl⟩ : ∃ l, len = l + 1 := ⟨len - 1, by omega⟩
     simp only [Builtin.clear_, hts, List.getElem?_toArray, List.getElem?_cons_zero, Sem.run_bind, und_run (elem_und he), Result.andThen_ok, hv, e0, hst, Sem.run_pure]
  ·cases h
 ·rename_i cs full nl
  simp only [Option.map_eq_some_iff] at h
  obtain ⟨e, he, h⟩ := h
  cases h
  cases hu.dinv with
  | sl _ _ cap _ _ a vs hlc hf h1 hrr hcc hnl =>
   refine ⟨C, ?_, rfl, hI, .refl hI, rfl⟩
   cases a <;> simp [Builtin.clear_, hts, und_run (elem_und he)]
 ·cases h
end
end Go.Proofs.Ytiafeijkifpfaaa.Am


/-
  The abstract machine: slices made; objects read as data. No condition.
-/
import Derived.Test.YtiafeijkifpfaaaAm11
import Derived.IntWalk
namespace Go.Proofs.Ytiafeijkifpfaaa.Am
open Go
set_option linter.unusedVariables false

section
variable {P : Program} {C : Cx}

theorem buildSlice_sim {t : TypeId} {id len : Nat} {ps : List (Nat × AV)} {us : Array (Nat × Value)} {e : TypeId} {n : Nat} {z cs : List AV} (hI : Inv C) (hid : ∀ j, ¬ C.U (id, j))
    (he : telem P t = some e) (hn : tsize P e = some n) (hz : zeroCells P e = some z) (hc : ¬ (n = 0 ∨ len = 0 ∨ len * n > 16777216 ∨ z.length ≠ n))
    (hf : fillC (fun i => some (i * n, n)) (List.replicate len z).flatten ps = some cs) (hus : us.size = ps.length) (hu : ∀ (j : Nat) (p : Nat × AV), ps[j]? = some p → ∃ u, us[j]? = some (p.1, u) ∧ Rep C p.2 u) :
    ∃ C' : Cx, ∃ v, (Instr.buildSlice t len us).run P C.w = .ok v C'.w ∧ Rep C' (.osl (id, 0) 0 len n cs.length) v ∧ Stepped C C' C'.w (upd C.H (id, 0) (.cells cs)) id := by
  have h0 : 0 < n := by omega
  obtain ⟨v, hv, hvs, hck⟩ := zeros_ok (P := P) (C := C) hz (by omega) h0 len
  obtain ⟨arr', ha, hr⟩ := fillC_sim hf hck (us := us.toList) (by simpa using hus) (fun j p hj => by simpa using hu j p hj)
  have hlen : cs.length = len * n := by
    have : ∀ (ps : List (Nat × AV)) (a b : List AV), fillC (fun i => some (i * n, n)) a ps = some b → b.length = a.length := by
      intro ps
      induction ps with
      | nil => intro a b h; cases h; rfl
      | cons p ps ih =>
        intro a b h
        obtain ⟨i, x⟩ := p
        simp only [fillC, Option.bind_eq_bind, Option.bind_some] at h
        split at h
        · rename_i hq
          rw [ih _ _ h, splice_length _ _ _ (by omega)]
        · cases h
    rw [this _ _ _ hf, replicate_flatten_length]
    have : z.length = n := by omega
    rw [this]
  obtain ⟨hI2, he2⟩ := newRow_ok hI (hid 0) (cs := cs) (arr := arr') (t := e) (ob := .cells cs) (.inl ⟨rfl, hr.1⟩) (Nat.le_of_eq hr.1.symm) (fun j hj => hr.2.1 j (by rw [hr.1]; exact hj)) hr.2.2
    (Grew.alloc C.w (.cells arr' e)) (Nat.le_refl _) (alloc_block _ _)
  have hne : len * n ≠ 0 := Nat.mul_ne_zero (by omega) (by omega)
  have hle : ¬ len * n > 2 ^ 24 := by
    have : (2:Nat) ^ 24 = 16777216 := by decide
    omega
  refine ⟨_, .slice (some ⟨C.w.heap.size, 0, none⟩) len len, ?_, ?_, ⟨rfl, rfl, hI2, he2, fun o ho => ho.imp (fun h => h) (fun h => by rw [h])⟩⟩
  · simp only [Instr.buildSlice, Sem.run_bind, und_run (elem_und he), Result.andThen_ok, size_run hn, if_neg hle, if_neg hne, hv, Sem.run_pure, ha, newRow, run_newObj]
    rfl
  · refine .osl _ _ _ _ _ _ _ (Nat.le_refl _) (.inr rfl) (fun x hx => ?_) (fun x hx ex => ?_)
    · simp only [upd, if_pos] at hx
      cases hx
      exact Nat.le_refl _
    · simp only [SlAt, if_pos]
      exact ⟨by rw [hr.1, hlen]; omega, fun _ => by simp, rfl⟩

theorem buildSlice0_sim {t : TypeId} {id : Nat} {e : TypeId} {n : Nat} (hI : Inv C) (hid : ∀ j, ¬ C.U (id, j)) (he : telem P t = some e) (hn : tsize P e = some n) :
    ∃ C' : Cx, ∃ v, (Instr.buildSlice t 0 #[]).run P C.w = .ok v C'.w ∧ Rep C' (.osl (id, 0) 0 0 n 0) v ∧ Stepped C C' C'.w (upd C.H (id, 0) (.grow [])) id := by
  obtain ⟨hI2, he2⟩ := newRow_ok hI (hid 0) (cs := []) (arr := #[]) (t := e) (ob := .grow []) (.inr rfl) (Nat.le_refl _) (fun j hj => absurd hj (Nat.not_lt_zero _)) (fun j x hj => by simp at hj)
    (Grew.alloc C.w (.cells #[] e)) (Nat.le_refl _) (alloc_block _ _)
  refine ⟨_, .slice (some ⟨C.w.heap.size, 0, none⟩) 0 0, ?_, ?_, ⟨rfl, rfl, hI2, he2, fun o ho => ho.imp (fun h => h) (fun h => by rw [h])⟩⟩
  · simp only [Instr.buildSlice, Sem.run_bind, und_run (elem_und he), Result.andThen_ok, size_run hn, Nat.zero_mul, if_true, newRow]
    rw [if_neg (by decide)]
    have : (Array.range 0).map (fun x => (#[] : Array Value)[x % (#[] : Array Value).size]!) = #[] := by simp
    simp only [Sem.run_bind, Sem.run_pure, Result.andThen_ok, this, Instr.fill, run_newObj]
    rfl
  · refine .osl _ _ _ _ _ _ _ (Nat.le_refl _) (.inr rfl) (fun x hx => Nat.zero_le _) (fun x hx ex => ?_)
    simp only [SlAt, if_pos]
    exact ⟨by simp, fun _ => by simp, rfl⟩

theorem nilCmp_sim {t : TypeId} {op : BinOp} {X r : AV} {b : Bool} {x y : Operand} {u : Value} (hI : Inv C) (hk : tkind P t = 3) (h : nilCmp C.H X = some b) (hr : eqB op b = some r) (hu : Rep C X u) :
    ∃ z, (do eqGuard op t x y u (.slice none 0 0); binOp op t u (.slice none 0 0) : Sem Value).run P C.w = .ok z C.w ∧ Rep C r z := by
  obtain ⟨A, len, cap, rfl, hA⟩ : ∃ A len cap, u = .slice A len cap ∧ A.isNone = b := by
    unfold nilCmp at h
    split at h
    · cases hu.dinv with
      | sl _ _ cap _ _ A vs hlc hf h1 hrr hcc hnl => exact ⟨_, _, _, rfl, hnl b h⟩
    · simp only [Option.bind_eq_some_iff] at h
      obtain ⟨y, hy, h⟩ := h
      split at h
      · rename_i hver
        cases hu with
        | osl _ _ _ _ _ cap A hlc hU hv hs =>
          refine ⟨_, _, _, rfl, ?_⟩
          have hsl := hs y hy hver
          cases y with
          | vnil =>
            rw [show C.ρ _ = none from hI.obj _ _ hy] at hsl
            cases h
            rw [hsl.2]; rfl
          | mp => cases h
          | cells cs =>
            obtain ⟨b', c, t2, e2, _⟩ := hI.obj _ _ hy
            rw [e2] at hsl
            cases h
            have := hsl.2.2
            cases A <;> simp_all
          | grow cs =>
            obtain ⟨b', S, c, t2, e2, _⟩ := hI.obj _ _ hy
            rw [e2] at hsl
            cases h
            have := hsl.2.2
            cases A <;> simp_all
          | frz cs =>
            obtain ⟨b', S, c, t2, e2, _⟩ := hI.obj _ _ hy
            rw [e2] at hsl
            cases h
            have := hsl.2.2
            cases A <;> simp_all
      · cases h
    · cases h
  have ht : ∃ e, P.underlying t = some (.slice e) := by unfold tkind at hk; split at hk <;> first | exact ⟨_, by assumption⟩ | cases hk
  obtain ⟨e, ht⟩ := ht
  have heq : (Op.equal t (.slice A len cap) (.slice none 0 0)).run P C.w = .ok b C.w := by
    have one : ∀ d, (Op.equalIn (d + 1) t (.slice A len cap) (.slice none 0 0)).run P C.w = .ok b C.w := fun d => by
      cases A <;> simp [Op.equalIn, und_run ht, ← hA]
    exact one 9999
  obtain ⟨z, hz, hq⟩ := eqB_sim (P := P) (t := t) (x := x) (y := y) (u := .slice A len cap) (v := .slice none 0 0) (w := C.w) hr (by simp) (by simp) (by simp) (by simp) (by simp) (by simp) heq
  exact ⟨z, hz, hq C⟩

theorem makeSlice_sim {t : TypeId} {id : Nat} {e : TypeId} {n : Nat} {z : List AV} {a b : Int} (hI : Inv C) (hid : ∀ j, ¬ C.U (id, j))
    (he : telem P t = some e) (hn : tsize P e = some n) (hz : zeroCells P e = some z) (hb : tbytes P e = some true) (hc : 0 ≤ a ∧ a ≤ b ∧ b ≤ 1099511627776 ∧ 0 < n ∧ z.length = n) :
    ∃ C' : Cx, ∃ v, (Instr.makeSlice t (.int .i64 a) (.int .i64 b)).run P C.w = .ok v C'.w ∧ Rep C' (.osl (id, 0) 0 a.toNat n (a.toNat * n)) v ∧
      Stepped C C' C'.w (upd C.H (id, 0) (if a = b then .cells (List.replicate a.toNat z).flatten else .grow (List.replicate a.toNat z).flatten)) id := by
  obtain ⟨c1, c2, c3, c4, c5⟩ := hc
  obtain ⟨v, hv, hvs, hck⟩ := zeros_ok (P := P) (C := C) hz c5 c4 b.toNat
  obtain ⟨i, hi, hby⟩ : ∃ i, P.info? e = some i ∧ i.bytes ≤ 256 := by
    unfold tbytes at hb
    cases hi : P.info? e with
    | none => rw [hi] at hb; cases hb
    | some i => rw [hi] at hb; exact ⟨i, rfl, by simpa using hb⟩
  have hlen : (List.replicate a.toNat z).flatten.length = a.toNat * n := by rw [replicate_flatten_length, c5]
  have hlenb : (List.replicate b.toNat z).flatten.length = b.toNat * n := by rw [replicate_flatten_length, c5]
  have hmul : a.toNat * n ≤ b.toNat * n := Nat.mul_le_mul_right _ (by omega)
  have hpre : ∀ j, j < a.toNat * n → (List.replicate a.toNat z).flatten[j]? = (List.replicate b.toNat z).flatten[j]? := by
    intro j hj
    rw [replicate_flatten_get _ _ _ (by omega) (by rw [c5]; exact hj), replicate_flatten_get _ _ _ (by omega) (by rw [c5]; omega)]
  have hsz := hck.1
  obtain ⟨hI2, he2⟩ := newRow_ok hI (hid 0) (cs := (List.replicate a.toNat z).flatten) (arr := (Array.range (b.toNat * n)).map (v.cells[· % v.cells.size]!)) (t := e)
    (ob := if a = b then .cells (List.replicate a.toNat z).flatten else .grow (List.replicate a.toNat z).flatten)
    (by
      by_cases q : a = b
      · rw [if_pos q]; exact .inl ⟨rfl, by rw [hsz, hlenb, hlen, q]⟩
      · rw [if_neg q]; exact .inr rfl)
    (by rw [hsz, hlenb, hlen]; exact hmul) (fun j hj => hck.2.1 j (by rw [hsz, hlenb]; omega)) (fun j x hx => hck.2.2 j x (by rw [← hpre j (by have := (List.getElem?_eq_some_iff.1 hx).1; omega)]; exact hx))
    (Grew.alloc C.w (.cells ((Array.range (b.toNat * n)).map (v.cells[· % v.cells.size]!)) e)) (Nat.le_refl _) (alloc_block _ _)
  have wa : IntKind.i64.wrap a = a := IntWalk.i64_in _ (by omega)
  have wb : IntKind.i64.wrap b = b := IntWalk.i64_in _ (by omega)
  refine ⟨_, .slice (some ⟨C.w.heap.size, 0, none⟩) a.toNat b.toNat, ?_, ?_, ⟨rfl, rfl, hI2, he2, fun o ho => ho.imp (fun h => h) (fun h => by rw [h])⟩⟩
  · have hnl : ¬ ((decide (b < 0) || decide ((i.bytes : Int) * b > 2 ^ 48) || decide (a < 0) || decide (a > b)) = true) := by
      simp only [Bool.or_eq_true, decide_eq_true_eq]
      have : (i.bytes : Int) * b ≤ 256 * 1099511627776 := Int.mul_le_mul (by omega) (by omega) (by omega) (by omega)
      omega
    simp only [Instr.makeSlice, asInt, asIntOf, typeInfo, Sem.run_bind, und_run (elem_und he), Result.andThen_ok, Sem.run_pure, run_program, hi, wa, wb, Sem.run_ite]
    rw [if_neg hnl]
    simp only [run_askRoom, Result.andThen_ok, size_run hn]
    by_cases q : b.toNat * n = 0
    · rw [if_pos q, q]
      have e0 : ∀ f : Nat → Value, (Array.range 0).map f = #[] := fun f => by simp
      simp only [newRow, Sem.run_bind, run_newObj, Result.andThen_ok, Sem.run_pure, e0]
      rfl
    · rw [if_neg q, hv]
      simp only [newRow, Sem.run_bind, run_newObj, Result.andThen_ok, Sem.run_pure]
      rfl
  · refine .osl _ _ _ _ _ _ _ (by omega) (.inr rfl) (fun x hx => ?_) (fun x hx ex => ?_)
    · simp only [upd, if_pos] at hx
      cases hx
      split <;> (simp only [Am.Obj.cs]; omega)
    · simp only [SlAt, if_pos]
      exact ⟨by rw [hsz, hlenb]; omega, fun _ => by simp, rfl⟩

/-! ### Objects read as data -/
/-- The blocks that a reading adds to those that stay. -/
def FW (C : Cx) (is : List Oid) : Nat → Prop := fun b => C.F b ∨ ∃ o ∈ is, ∃ x S, C.H o = some x ∧ x.isRow = true ∧ C.ρ o = some (b, S)

theorem FW_mono {is is' : List Oid} (h : ∀ o ∈ is, o ∈ is') {x : D} {v : Value} (hr : RepD (FW C is) C.w x v) : RepD (FW C is') C.w x v :=
  hr.keep (fun b hb => hb.imp (fun h => h) (fun ⟨o, ho, q⟩ => ⟨o, h o ho, q⟩)) (fun _ _ _ => rfl)
theorem FW_of {is : List Oid} {x : D} {v : Value} (hr : RepD C.F C.w x v) : RepD (FW C is) C.w x v := hr.keep (fun b hb => .inl hb) (fun _ _ _ => rfl)

theorem mapD_sim {f : AV → Option (D × List Oid)} (hf : ∀ v x is u, f v = some (x, is) → Rep C v u → RepD (FW C is) C.w x u) : ∀ {vs : List AV} {ds : List D} {is : List Oid}, mapD f vs = some (ds, is) →
    ds.length = vs.length ∧ ∀ (j : Nat) (d : D), ds[j]? = some d → ∃ v, vs[j]? = some v ∧ ∀ u, Rep C v u → RepD (FW C is) C.w d u := by
  intro vs
  induction vs with
  | nil => intro ds is h; cases h; exact ⟨rfl, fun j d hd => by simp at hd⟩
  | cons v r ih =>
    intro ds is h
    simp only [mapD, Option.bind_eq_bind, Option.bind_eq_some_iff] at h
    obtain ⟨⟨x, i⟩, h1, ⟨xs, is'⟩, h2, h⟩ := h
    cases h
    obtain ⟨hl, hr⟩ := ih h2
    refine ⟨by simp [hl], fun j d hd => ?_⟩
    cases j with
    | zero =>
      simp only [List.getElem?_cons_zero, Option.some.injEq] at hd
      subst hd
      exact ⟨v, rfl, fun u hu => FW_mono (fun o ho => List.mem_append_left _ ho) (hf v x i u h1 hu)⟩
    | succ j =>
      obtain ⟨w, hw, hq⟩ := hr j d (by simpa using hd)
      exact ⟨w, by simpa using hw, fun u hu => FW_mono (fun o ho => List.mem_append_right _ ho) (hq u hu)⟩

theorem reify_sim (hI : Inv C) : ∀ (n : Nat) {X : AV} {d : D} {is : List Oid} {u : Value}, reify C.H n X = some (d, is) → Rep C X u → RepD (FW C is) C.w d u := by
  intro n
  induction n with
  | zero =>
    intro X d is u h hu
    cases X with
    | d x => simp only [reify, Option.some.injEq, Prod.mk.injEq] at h; obtain ⟨rfl, rfl⟩ := h; exact FW_of hu.dinv
    | _ => simp [reify] at h
  | succ n ih =>
    intro X d is u h hu
    cases X with
    | d x => simp only [reify, Option.some.injEq, Prod.mk.injEq] at h; obtain ⟨rfl, rfl⟩ := h; exact FW_of hu.dinv
    | osl o off len sz ver =>
      simp only [reify, Option.bind_eq_bind, Option.bind_eq_some_iff] at h
      obtain ⟨x, hx, h⟩ := h
      split at h
      · rename_i hc
        simp only [Bool.and_eq_true, decide_eq_true_eq] at hc
        obtain ⟨⟨hrow, hver⟩, hfit⟩ := hc
        simp only [Option.bind_eq_some_iff] at h
        obtain ⟨⟨ds, is'⟩, hm, h⟩ := h
        cases h
        obtain ⟨hl, hr⟩ := mapD_sim (C := C) (f := reify C.H n) (fun v x is u h1 h2 => ih h1 h2) hm
        have hlen : ds.length = len * sz := by rw [hl]; simp; omega
        cases hu with
        | osl _ _ _ _ _ cap A hlc hU hv hs =>
          have hsl := hs x hx hver
          unfold SlAt at hsl
          split at hsl
          · rename_i hρ
            have hc0 : cap = 0 := hsl.1
            have : len = 0 := by omega
            subst this
            have hds : ds = [] := List.eq_nil_of_length_eq_zero (by rw [hlen]; exact Nat.zero_mul _)
            subst hds
            exact .sl [] 0 cap false _ A (fun _ => undef) (by omega) (fun h => by cases h) (fun j hj => by simp at hj) (fun j x hx => by simp at hx) (fun hne => absurd rfl hne) (fun b hb => by
              cases x with
              | vnil => cases hb; rw [hsl.2]; rfl
              | mp => cases hrow
              | cells cs => obtain ⟨b', c, t2, e2, _⟩ := hI.obj o _ hx; rw [hρ] at e2; cases e2
              | frz cs => obtain ⟨b', S, c, t2, e2, _⟩ := hI.obj o _ hx; rw [hρ] at e2; cases e2
              | grow cs => obtain ⟨b', S, c, t2, e2, _⟩ := hI.obj o _ hx; rw [hρ] at e2; cases e2)
          · rename_i b S hρ
            obtain ⟨hS, hA, hA2⟩ := hsl
            obtain ⟨c, tt, hh, hcs, hle, hmem⟩ := row_mem hI hx hrow hρ
            have e := add0 b off
            have hmem2 := hmem.drop off
            rw [e] at hmem2
            have hwin : ∀ j v, ((x.cs.drop off).take (len * sz))[j]? = some v → (x.cs.drop off)[j]? = some v := fun j v hj => by
              rw [List.getElem?_take] at hj; split at hj <;> first | exact hj | cases hj
            refine .sl ds len cap false _ A (fun j => c.getD (off + j) undef) hlc (fun h => by cases h) (fun j hj => hmem2.one j (by simp; omega)) (fun j y hy => ?_) (fun hne => ?_) (fun b hb => ?_)
            · obtain ⟨v, hv2, hq⟩ := hr j y hy
              exact FW_mono (fun o ho => by split <;> first | exact ho | exact List.mem_cons_of_mem _ ho) (hq _ (hmem2.rep j v (hwin j v hv2)))
            · have hpos : 0 < ds.length := by cases ds with | nil => exact absurd rfl hne | cons => simp
              have : 0 < len := by
                cases len with
                | zero => rw [Nat.zero_mul] at hlen; omega
                | succ => omega
              refine ⟨⟨b, off, none⟩, hA (by omega), .inr ⟨o, by rw [if_neg (by cases ds with | nil => exact absurd rfl hne | cons => simp)]; exact List.mem_cons_self, x, S, hx, hrow, hρ⟩, fun j hj => hmem2.at_ j (by simp; omega)⟩
            · cases x with
              | vnil => rw [show C.ρ o = none from hI.obj o _ hx] at hρ; cases hρ
              | mp => cases hrow
              | cells cs => cases hb; cases A <;> simp_all
              | grow cs => cases hb; cases A <;> simp_all
              | frz cs => cases hb; cases A <;> simp_all
      · cases h
    | vsl o off len sz ver =>
      simp only [reify, Option.bind_eq_bind, Option.bind_eq_some_iff] at h
      obtain ⟨x, hx, h⟩ := h
      split at h
      · rename_i hc
        simp only [Bool.and_eq_true, decide_eq_true_eq] at hc
        obtain ⟨⟨hrow, hver⟩, hfit⟩ := hc
        simp only [Option.bind_eq_some_iff] at h
        obtain ⟨⟨ds, is'⟩, hm, h⟩ := h
        cases h
        obtain ⟨hl, hr⟩ := mapD_sim (C := C) (f := reify C.H n) (fun v x is u h1 h2 => ih h1 h2) hm
        have hlen : ds.length = len * sz := by rw [hl]; simp; omega
        cases hu with
        | vsl _ _ _ _ _ cap A hlc hU hv hs =>
          obtain ⟨b, S, hρ, rfl⟩ := hs x hx hver
          obtain ⟨c, tt, hh, hcs, hle, hmem⟩ := row_mem hI hx hrow hρ
          have e := add0 b off
          have hmem2 := hmem.drop off
          rw [e] at hmem2
          have hwin : ∀ j v, ((x.cs.drop off).take (len * sz))[j]? = some v → (x.cs.drop off)[j]? = some v := fun j v hj => by
            rw [List.getElem?_take] at hj; split at hj <;> first | exact hj | cases hj
          refine .sl ds len cap false _ _ (fun j => c.getD (off + j) undef) hlc (fun h => by cases h) (fun j hj => hmem2.one j (by simp; omega)) (fun j y hy => ?_) (fun hne => ?_) (fun b hb => by cases hb)
          · obtain ⟨v, hv2, hq⟩ := hr j y hy
            exact FW_mono (fun o ho => by split <;> first | exact ho | exact List.mem_cons_of_mem _ ho) (hq _ (hmem2.rep j v (hwin j v hv2)))
          · exact ⟨⟨b, off, none⟩, rfl, .inr ⟨o, by rw [if_neg (by cases ds with | nil => exact absurd rfl hne | cons => simp)]; exact List.mem_cons_self, x, S, hx, hrow, hρ⟩, fun j hj => hmem2.at_ j (by simp; omega)⟩
      · cases h
    | ptr o off ver =>
      simp only [reify, Option.bind_eq_bind, Option.bind_eq_some_iff] at h
      obtain ⟨x, hx, h⟩ := h
      split at h
      · rename_i hc
        simp only [Bool.and_eq_true, decide_eq_true_eq] at hc
        obtain ⟨hrow, hver⟩ := hc
        simp only [Option.bind_eq_some_iff] at h
        obtain ⟨⟨ds, is'⟩, hm, h⟩ := h
        cases h
        obtain ⟨hl, hr⟩ := mapD_sim (C := C) (f := reify C.H n) (fun v x is u h1 h2 => ih h1 h2) hm
        cases hu with
        | ptr _ _ _ a hU hv hs =>
          obtain ⟨b, S, hρ, rfl⟩ := hs x hx hver
          obtain ⟨c, tt, hh, hcs, hle, hmem⟩ := row_mem hI hx hrow hρ
          have hmem2 := hmem.drop off
          rw [add0 b off] at hmem2
          refine .dptr ds ⟨b, off, none⟩ (fun j => c.getD (off + j) undef) (fun j hj => hmem2.one j (by omega)) (fun j y hy => ?_) (.inr ⟨o, List.mem_cons_self, x, S, hx, hrow, hρ⟩) (fun j hj => hmem2.at_ j (by omega))
          obtain ⟨v, hv2, hq⟩ := hr j y hy
          exact FW_mono (fun o ho => List.mem_cons_of_mem _ ho) (hq _ (hmem2.rep j v hv2))
      · cases h
    | fn f cs =>
      simp only [reify, Option.bind_eq_bind, Option.bind_eq_some_iff] at h
      obtain ⟨⟨ds, is'⟩, hm, h⟩ := h
      cases h
      obtain ⟨hl, hr⟩ := mapD_sim (C := C) (f := reify C.H n) (fun v x is u h1 h2 => ih h1 h2) hm
      cases hu with
      | fn _ _ arr hn hrr =>
        refine .fn f ds arr (by rw [hn, hl]) fun j y hy => ?_
        obtain ⟨v, hv, hq⟩ := hr j y hy
        exact hq _ (hrr j v hv)
    | agg cs =>
      simp only [reify, Option.bind_eq_bind, Option.bind_eq_some_iff] at h
      obtain ⟨⟨ds, is'⟩, hm, h⟩ := h
      cases h
      obtain ⟨hl, hr⟩ := mapD_sim (C := C) (f := reify C.H n) (fun v x is u h1 h2 => ih h1 h2) hm
      cases hu with
      | agg _ arr hn h1 hrr =>
        refine .agg ds arr (by rw [hn, hl]) h1 fun j y hy => ?_
        obtain ⟨v, hv, hq⟩ := hr j y hy
        exact hq _ (hrr j v hv)
    | tup cs =>
      simp only [reify, Option.bind_eq_bind, Option.bind_eq_some_iff] at h
      obtain ⟨⟨ds, is'⟩, hm, h⟩ := h
      cases h
      obtain ⟨hl, hr⟩ := mapD_sim (C := C) (f := reify C.H n) (fun v x is u h1 h2 => ih h1 h2) hm
      cases hu with
      | tup _ arr hn hrr =>
        refine .tup ds arr (by rw [hn, hl]) fun j y hy => ?_
        obtain ⟨v, hv, hq⟩ := hr j y hy
        exact hq _ (hrr j v hv)
    | _ => simp [reify] at h

theorem flat1_any {F F' : Nat → Prop} {w w' : World} {x : D} {v : Value} (hf : flat1 x = true) (h : RepD F w x v) : RepD F' w' x v := by
  cases h with
  | int k n => exact .int k n
  | bool b => exact .bool b
  | str s => exact .str s
  | nilptr => exact .nilptr
  | nilmap => exact .nilmap
  | nilfn => exact .nilfn
  | fn f cs arr hn hr =>
    obtain rfl : cs = [] := by simpa [flat1] using hf
    exact .fn f [] arr hn (fun j x hx => by simp at hx)
  | _ => cases hf
theorem flatD_any {F F' : Nat → Prop} {w w' : World} {x : D} {v : Value} (hf : flatD x = true) (h : RepD F w x v) : RepD F' w' x v := by
  cases h with
  | agg cs arr hn h1 hr =>
    refine .agg cs arr hn h1 fun j y hy => flat1_any (List.all_eq_true.1 hf y (List.mem_of_getElem? hy)) (hr j y hy)
  | tup cs arr hn hr =>
    refine .tup cs arr hn fun j y hy => flat1_any (List.all_eq_true.1 hf y (List.mem_of_getElem? hy)) (hr j y hy)
  | int k n => exact .int k n
  | bool b => exact .bool b
  | str s => exact .str s
  | nilptr => exact .nilptr
  | nilmap => exact .nilmap
  | nilfn => exact .nilfn
  | fn f cs arr hn hr =>
    obtain rfl : cs = [] := by simpa [flatD, flat1] using hf
    exact .fn f [] arr hn (fun j x hx => by simp at hx)
  | _ => cases hf

end
end Go.Proofs.Ytiafeijkifpfaaa.Am

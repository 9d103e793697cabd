/-
  The abstract machine: append. No condition.
-/
import Derived.Test.YtiafeijkifpfaaaAm12
namespace Go.Proofs.Ytiafeijkifpfaaa.Am
open Go
set_option linter.unusedVariables false

section
variable {P : Program} {C : Cx}

/-- Objects that were read stay as they are for good. -/
theorem kill_ok (hI : Inv C) (is : List Oid) : Inv ⟨C.ρ, FW C is, kill C.H is, C.U, C.w⟩ ∧ Ext C ⟨C.ρ, FW C is, kill C.H is, C.U, C.w⟩ := by
  have fz : ∀ x : Am.Obj, x.isRow = x.freeze.isRow ∧ x.cs = x.freeze.cs ∧ (x.freeze.isFrz = false → x.freeze = x ∧ x.isFrz = false) := fun x => by cases x <;> simp [Am.Obj.freeze, Am.Obj.isRow, Am.Obj.cs, Am.Obj.isFrz]
  have old : ∀ o x, kill C.H is o = some x → ∃ y, C.H o = some y ∧ ((o ∈ is ∧ x = y.freeze) ∨ (o ∉ is ∧ x = y)) := fun o x h => by
    simp only [kill] at h
    split at h
    · rename_i hm
      simp only [Option.map_eq_some_iff] at h
      obtain ⟨y, hy, rfl⟩ := h
      exact ⟨y, hy, .inl ⟨hm, rfl⟩⟩
    · rename_i hn; exact ⟨x, h, .inr ⟨hn, rfl⟩⟩
  have he : Ext C ⟨C.ρ, FW C is, kill C.H is, C.U, C.w⟩ := by
    refine ⟨fun _ h => h, fun b h => .inl h, fun b h => ?_, rfl, rfl, rfl, Nat.le_refl _, fun _ _ _ => rfl, fun o x' hx _ => ?_, fun b hb => ?_⟩
    · rcases h with h | ⟨o, _, x, S, hx, _, hr⟩
      · exact .inl h
      · cases hz : x.isFrz with
        | false => exact .inr (.inl ⟨o, x, S, hx, hz, hr⟩)
        | true =>
          cases x with
          | frz cs =>
            obtain ⟨b', S', c, t, e, hF, _⟩ := hI.obj o _ hx
            rw [hr] at e; cases e
            exact .inl hF
          | _ => cases hz
    · obtain ⟨y, hy, h⟩ := old o x' hx
      refine ⟨y, hy, ?_, ?_, fun _ => rfl⟩
      · rcases h with ⟨_, rfl⟩ | ⟨_, rfl⟩
        · exact (fz y).1
        · rfl
      · rcases h with ⟨_, rfl⟩ | ⟨_, rfl⟩
        · rw [← (fz y).2.1]; exact Nat.le_refl _
        · exact Nat.le_refl _
    · obtain ⟨o, x, S, hx, hz, hr⟩ := hb
      obtain ⟨y, hy, h⟩ := old o x hx
      refine .inl ⟨o, y, S, hy, ?_, hr⟩
      rcases h with ⟨_, rfl⟩ | ⟨_, rfl⟩
      · exact ((fz y).2.2 hz).2
      · exact hz
  refine ⟨⟨fun o x h => ?_, fun o x h => ?_, fun o x b S h hz hr hF => ?_, fun o o' x x' b S S' h h' hr hr' => ?_, fun b hb => ?_⟩, he⟩
  · obtain ⟨y, hy, _⟩ := old o x h
    exact hI.used o y hy
  · obtain ⟨y, hy, hc⟩ := old o x h
    have hk := (hI.obj o y hy).keep hI he rfl (fun _ _ _ => rfl)
    rcases hc with ⟨hm, rfl⟩ | ⟨_, rfl⟩
    · have hF : y.isRow = true → ∀ b S, C.ρ o = some (b, S) → FW C is b := fun hrow b S hb => .inr ⟨o, hm, y, S, hy, hrow, hb⟩
      cases y with
      | cells cs =>
        obtain ⟨b, c, t, e, hh, hs, h1, hr⟩ := hk
        exact ⟨b, cs.length, c, t, e, hF rfl _ _ e, hh, hs, Nat.le_refl _, h1, hr⟩
      | grow cs =>
        obtain ⟨b, S, c, t, e, hh, hs, hl, h1, hr⟩ := hk
        exact ⟨b, S, c, t, e, hF rfl _ _ e, hh, hs, hl, h1, hr⟩
      | frz cs => exact hk
      | vnil => exact hk
      | mp es => exact hk
    · exact hk
  · obtain ⟨y, hy, hc⟩ := old o x h
    have hyz : y.isFrz = false := by
      rcases hc with ⟨_, rfl⟩ | ⟨_, rfl⟩
      · exact ((fz y).2.2 hz).2
      · exact hz
    rcases hF with hF | ⟨o', ho', x', S', hx', hrow', hr'⟩
    · exact hI.notF o y b S hy hyz hr hF
    · obtain rfl := hI.inj o o' y x' b S S' hy hx' hr hr'
      rcases hc with ⟨_, rfl⟩ | ⟨hn, _⟩
      · obtain ⟨e, _⟩ := (fz y).2.2 hz
        cases y with
        | vnil => rw [show C.ρ o = none from hI.obj o _ hy] at hr; cases hr
        | mp es c => rw [hx'] at hy; cases hy; cases hrow'
        | _ => cases hz
      · exact hn ho'
  · obtain ⟨y, hy, _⟩ := old o x h
    obtain ⟨y', hy', _⟩ := old o' x' h'
    exact hI.inj o o' y y' b S S' hy hy' hr hr'
  · rcases hb with hb | ⟨o, _, x, S, hx, _, hr⟩
    · exact hI.Flt b hb
    · exact (hI.obj o x hx).block_lt hr

/-- A row with a longer beginning. -/
theorem cells_cat {xs ys : List AV} {us vs : List Value} (h1 : us.length = xs.length) (h2 : vs.length = ys.length) (r1 : ∀ j x, xs[j]? = some x → Rep C x (us.getD j undef)) (r2 : ∀ j x, ys[j]? = some x → Rep C x (vs.getD j undef)) :
    ∀ j x, (xs ++ ys)[j]? = some x → Rep C x ((us ++ vs).getD j undef) := by
  intro j x hx
  rw [List.getElem?_append] at hx
  rw [List.getD_eq_getElem?_getD, List.getElem?_append]
  split at hx
  · rename_i hj
    rw [if_pos (by omega), ← List.getD_eq_getElem?_getD]
    exact r1 j x hx
  · rename_i hj
    rw [if_neg (by omega), ← List.getD_eq_getElem?_getD, h1]
    exact r2 _ x hx

theorem firstCells_run {n len : Nat} {A : Option Addr} {us : List Value} (hn : us.length = len * n) (h : us ≠ [] → ∃ ad, A = some ad ∧ ∀ j, j < us.length → C.w.cell? (ad.add j) = some (us.getD j undef)) (l c : Nat) (w : World) (hw : ∀ a v, C.w.cell? a = some v → w.cell? a = some v) :
    (Builtin.firstCells n len (.slice A l c)).run P w = .ok us.toArray w := by
  cases us with
  | nil =>
    cases A with
    | none => simp [Builtin.firstCells]
    | some a =>
      have := run_firstCells_some (P := P) w n len a l c [] (by simpa using hn) (fun j v hj => by simp at hj)
      simpa using this
  | cons u r =>
    obtain ⟨ad, rfl, hc⟩ := h (by simp)
    exact run_firstCells_some (P := P) w n len ad l c (u :: r) hn (fun j v hj => hw _ _ (by rw [hc j (List.getElem?_eq_some_iff.1 hj).1, List.getD_eq_getElem?_getD, hj]; rfl))

/-- An append that makes a new array. -/
theorem append_grows {t t2 ty e : TypeId} {n len cap k : Nat} {A : Option Addr} {x : Value} {us vs : List Value} {z : List AV} (he : telem P t = some e) (hn : tsize P e = some n) (hz : zeroCells P e = some z) (hzn : z.length = n) (hb : tbytes P e = some true)
    (h2 : (∃ e', P.underlying t2 = some (.slice e')) ∨ P.underlying t2 = some .string) (hlx : ∀ w, (Builtin.lenOf x).run P w = .ok k w) (hus : us.length = len * n) (hvs : vs.length = k * n) (hsmall : len + k ≤ 137438953472) (hcap : cap < len + k)
    (hold : ∀ w, (∀ a v, C.w.cell? a = some v → w.cell? a = some v) → (Builtin.firstCells n len (.slice A len cap)).run P w = .ok us.toArray w) (hnew : ∀ w, (∀ a v, C.w.cell? a = some v → w.cell? a = some v) → (Builtin.firstCells n k x).run P w = .ok vs.toArray w) :
    ∃ newCap arr, (Builtin.append_ #[t, t2] ty #[.slice A len cap, x]).run P C.w = .ok (.slice (some ⟨C.w.heap.size, 0, none⟩) (len + k) newCap) (C.w.drew.alloc (.cells arr e)) ∧ len + k ≤ newCap ∧ arr.size = newCap * n ∧
      ∀ j, j < (len + k) * n → arr.getD j undef = (us ++ vs).getD j undef := by
  obtain ⟨zv, hzv, rfl, hz1⟩ := zero_run hz C.w.drew
  obtain ⟨i, hi, hby⟩ : ∃ i, P.info? e = some i ∧ i.bytes ≤ 256 := by
    unfold tbytes at hb
    cases hi : P.info? e with
    | none => rw [hi] at hb; cases hb
    | some i => rw [hi] at hb; exact ⟨i, rfl, by simpa using hb⟩
  have hzs : zv.cells.size = n := by simpa using hzn
  have hnc := nextslicecap_le (need := len + k) (old := cap) hcap
  have hq : ¬ Builtin.nextslicecap (len + k) cap * i.bytes > 2 ^ 48 := by
    have : Builtin.nextslicecap (len + k) cap * i.bytes ≤ (2 * (len + k)) * 256 := Nat.mul_le_mul hnc hby
    have h48 : (2 : Nat) ^ 48 = 281474976710656 := by decide
    omega
  have hmx : ¬ (((len + k : Nat) : Int) > IntKind.i64.max ∧ (false = true ∨ i.bytes = 0)) := by
    rintro ⟨h, _⟩
    have : (IntKind.i64.max : Int) = 9223372036854775807 := rfl
    omega
  refine ⟨Question.cut (.appendCap (len + k) cap e) (C.w.tape C.w.drawn (.appendCap (len + k) cap e)), us.toArray ++ vs.toArray ++ Builtin.zeroCells zv.cells (Question.cut (.appendCap (len + k) cap e) (C.w.tape C.w.drawn (.appendCap (len + k) cap e)) - (len + k)), ?_, ?_, ?_, ?_⟩
  · have hd : ∀ a v, C.w.cell? a = some v → C.w.drew.cell? a = some v := fun a v h => by simpa using h
    obtain ⟨d, hd2, hcase⟩ : ∃ d, P.underlying t2 = some d ∧ ((∃ e', d = .slice e') ∨ d = .string) := by
      rcases h2 with ⟨e', h⟩ | h
      · exact ⟨_, h, .inl ⟨e', rfl⟩⟩
      · exact ⟨_, h, .inr rfl⟩
    simp only [Builtin.append_, List.getElem?_toArray, List.getElem?_cons_zero, List.getElem?_cons_succ, Sem.run_bind, und_run (elem_und he), Result.andThen_ok, size_run hn, und_run hd2]
    rcases hcase with ⟨e', rfl⟩ | rfl
    all_goals
      simp only [Sem.run_pure, Result.andThen_ok, Bool.false_eq_true, if_false, hlx, Sem.run_bind]
      rw [if_neg (by omega)]
      simp only [typeInfo, run_program, Result.andThen_ok, hi, Sem.run_pure, Sem.run_ite, Sem.run_bind]
      rw [if_neg (by simpa using hmx), if_neg hq]
      simp only [run_choose, Question.forced, Bool.false_eq_true, if_false, Result.andThen_ok, run_askRoom]
      rw [show ({ C.w with drawn := C.w.drawn + 1 } : World) = C.w.drew from rfl, hold _ hd]
      simp only [Result.andThen_ok, Bool.not_false, if_true, hnew _ hd, hzv, newRow, Sem.run_bind, run_newObj, Sem.run_pure]
      rfl
  · simp only [Question.cut]; omega
  · simp only [Array.size_append, List.size_toArray, hus, hvs, Builtin.zeroCells, Array.size_map, Array.size_range, hzs]
    rw [← Nat.add_mul, ← Nat.add_mul]
    congr 1
    simp only [Question.cut]; omega
  · intro j hj
    have hl : (us ++ vs).length = (len + k) * n := by simp [hus, hvs, Nat.add_mul]
    rw [Array.getD_eq_getD_getElem?, List.getD_eq_getElem?_getD, Array.getElem?_append_left (by simp [hus, hvs, ← Nat.add_mul]; exact hj)]
    simp
/-- An append in place. -/
theorem append_fits {t t2 ty e : TypeId} {n len cap k b off : Nat} {x : Value} {vs : List Value} {c : Array Value} {tt : TypeId} (he : telem P t = some e) (hn : tsize P e = some n)
    (h2 : (∃ e', P.underlying t2 = some (.slice e')) ∨ P.underlying t2 = some .string) (hlx : ∀ w, (Builtin.lenOf x).run P w = .ok k w) (hvs : vs.length = k * n) (h1 : ∀ v ∈ vs, v.oneCell' = true) (hcap : len + k ≤ cap)
    (hh : C.w.heap[b]? = some (.cells c tt (0, 0))) (hfit : off + len * n + vs.length ≤ c.size)
    (hnew : ∀ w, (∀ a v, C.w.cell? a = some v → w.cell? a = some v) → (Builtin.firstCells n k x).run P w = .ok vs.toArray w) :
    (Builtin.append_ #[t, t2] ty #[.slice (some ⟨b, off, none⟩) len cap, x]).run P C.w = .ok (.slice (some ⟨b, off, none⟩) (len + k) cap) (C.w.setRow b (c.toList.take (off + len * n) ++ vs ++ c.toList.drop (off + len * n + vs.length)).toArray) := by
  obtain ⟨d, hd2, hcase⟩ : ∃ d, P.underlying t2 = some d ∧ ((∃ e', d = .slice e') ∨ d = .string) := by
    rcases h2 with ⟨e', h⟩ | h
    · exact ⟨_, h, .inl ⟨e', rfl⟩⟩
    · exact ⟨_, h, .inr rfl⟩
  have hst := run_storeCells_at P b (off + len * n) tt vs 0 c C.w hh (by simpa using hfit) h1
  simp only [Nat.add_zero] at hst
  have ea : (⟨b, off, none⟩ : Addr).add (len * n) = ⟨b, off + len * n, none⟩ := by
    unfold Addr.add
    split
    · rename_i h0; simp [h0]
    · rfl
  simp only [Builtin.append_, List.getElem?_toArray, List.getElem?_cons_zero, List.getElem?_cons_succ, Sem.run_bind, und_run (elem_und he), Result.andThen_ok, size_run hn, und_run hd2]
  rcases hcase with ⟨e', rfl⟩ | rfl
  all_goals
    simp only [Sem.run_pure, Result.andThen_ok, Bool.false_eq_true, if_false, hlx, Sem.run_bind]
    rw [if_pos hcap]
    simp only [Sem.run_bind, Bool.not_false, if_true, hnew C.w (fun _ _ h => h), Result.andThen_ok, ea, Sem.run_pure]
    rw [hst]
    rfl
/-- An append of nothing. -/
theorem append_none {t t2 ty e : TypeId} {n len cap : Nat} {A : Option Addr} {x : Value} (he : telem P t = some e) (hn : tsize P e = some n)
    (h2 : (∃ e', P.underlying t2 = some (.slice e')) ∨ P.underlying t2 = some .string) (hlx : ∀ w, (Builtin.lenOf x).run P w = .ok 0 w) (hcap : len ≤ cap)
    (hnew : ∀ w, (∀ a v, C.w.cell? a = some v → w.cell? a = some v) → (Builtin.firstCells n 0 x).run P w = .ok #[] w) :
    (Builtin.append_ #[t, t2] ty #[.slice A len cap, x]).run P C.w = .ok (.slice A len cap) C.w := by
  obtain ⟨d, hd2, hcase⟩ : ∃ d, P.underlying t2 = some d ∧ ((∃ e', d = .slice e') ∨ d = .string) := by
    rcases h2 with ⟨e', h⟩ | h
    · exact ⟨_, h, .inl ⟨e', rfl⟩⟩
    · exact ⟨_, h, .inr rfl⟩
  simp only [Builtin.append_, List.getElem?_toArray, List.getElem?_cons_zero, List.getElem?_cons_succ, Sem.run_bind, und_run (elem_und he), Result.andThen_ok, size_run hn, und_run hd2]
  rcases hcase with ⟨e', rfl⟩ | rfl
  all_goals
    simp only [Sem.run_pure, Result.andThen_ok, Bool.false_eq_true, if_false, hlx, Sem.run_bind]
    rw [if_pos (by omega)]
    simp only [Sem.run_bind, Bool.not_false, if_true, hnew C.w (fun _ _ h => h), Result.andThen_ok]
    cases A <;> simp [storeCells]

theorem srcRaw_sim {n k : Nat} {t2 : TypeId} {X : AV} {xs : List D} {u : Value} (hI : Inv C) (h : srcRaw P C.H n t2 X = some (xs, k)) (hu : Rep C X u) :
    ∃ vs : List Value, vs.length = xs.length ∧ (∀ j x, xs[j]? = some x → RepD (FW C []) C.w x (vs.getD j undef)) ∧ (∀ v ∈ vs, v.oneCell' = true) ∧ xs.length = k * n ∧
      ((∃ e', P.underlying t2 = some (.slice e')) ∨ P.underlying t2 = some .string) ∧ (∀ w, (Builtin.lenOf u).run P w = .ok k w) ∧
      (∀ w, (∀ a v, C.w.cell? a = some v → w.cell? a = some v) → (Builtin.firstCells n k u).run P w = .ok vs.toArray w) := by
  unfold srcRaw at h
  split at h
  · rename_i o off len sz ver
    simp only [Option.bind_eq_bind, Option.bind_eq_some_iff] at h
    obtain ⟨x, hx, h⟩ := h
    split at h
    · rename_i hc
      simp only [Bool.and_eq_true, decide_eq_true_eq] at hc
      obtain ⟨⟨⟨⟨hrow, hver⟩, hfit⟩, hsz⟩, hk⟩ := hc
      simp only [Option.bind_eq_some_iff] at h
      obtain ⟨ds, hds, h⟩ := h
      cases h
      have ht2 : ∃ e', P.underlying t2 = some (.slice e') := by unfold tkind at hk; split at hk <;> first | exact ⟨_, by assumption⟩ | cases hk
      have hcs := allD_some hds
      have hlen : xs.length = k * sz := by
        have := congrArg List.length hcs
        simp at this; omega
      cases hu with
      | osl _ _ _ _ _ cap A hlc hU hv hs =>
        have hsl := hs x hx hver
        unfold SlAt at hsl
        split at hsl
        · have hc0 : cap = 0 := hsl.1
          have : k = 0 := by omega
          subst this
          obtain rfl : xs = [] := List.eq_nil_of_length_eq_zero (by rw [hlen]; exact Nat.zero_mul _)
          refine ⟨[], rfl, fun j x hj => by simp at hj, fun v hv => by simp at hv, by simp, .inl ht2, fun w => rfl, fun w hw => ?_⟩
          exact firstCells_run (C := C) (us := []) (by simp) (fun hne => absurd rfl hne) _ _ w hw
        · rename_i b S hρ
          obtain ⟨hS, hA, hA2⟩ := hsl
          obtain ⟨c, tt, hh, hcsz, hle, hmem⟩ := row_mem hI hx hrow hρ
          have hmem2 := hmem.drop off
          rw [add_at, Nat.zero_add] at hmem2
          have hget : ∀ j, j < xs.length → ((List.range xs.length).map fun j => c.getD (off + j) undef).getD j undef = c.getD (off + j) undef := fun j hj => by simp [List.getD_eq_getElem?_getD, hj]
          refine ⟨(List.range xs.length).map fun j => c.getD (off + j) undef, by simp, fun j y hy => ?_, fun v hv => ?_, by rw [hlen, hsz], .inl ht2, fun w => rfl, fun w hw => ?_⟩
          · have hj := (List.getElem?_eq_some_iff.1 hy).1
            rw [hget j hj]
            have h2 : ((x.cs.drop off).take (k * sz))[j]? = some (.d y) := by rw [hcs, List.getElem?_map, hy]; rfl
            rw [List.getElem?_take, if_pos (by omega)] at h2
            exact FW_of (hmem2.rep j _ h2).dinv
          · obtain ⟨j, hj, rfl⟩ := List.mem_map.1 hv
            exact hmem2.one j (by simp at hj ⊢; omega)
          · refine firstCells_run (C := C) (by rw [List.length_map, List.length_range, hlen, hsz]) (fun hne => ?_) _ _ w hw
            have hpos : 0 < k := by
              cases k with
              | zero => rw [Nat.zero_mul] at hlen; rw [hlen] at hne; exact absurd rfl hne
              | succ => omega
            refine ⟨⟨b, off, none⟩, hA (by omega), fun j hj => ?_⟩
            rw [List.length_map, List.length_range] at hj
            rw [hget j hj]
            exact hmem2.at_ j (by simp; omega)
    · cases h
  · cases h

theorem src_sim {n k : Nat} {t2 : TypeId} {X : AV} {xs : List D} {is : List Oid} {u : Value} (hI : Inv C) (h : srcCells P C.H n t2 X = some (xs, k, is)) (hu : Rep C X u) :
    ∃ vs : List Value, vs.length = xs.length ∧ (∀ j x, xs[j]? = some x → RepD (FW C is) C.w x (vs.getD j undef)) ∧ (∀ v ∈ vs, v.oneCell' = true) ∧ xs.length = k * n ∧
      ((∃ e', P.underlying t2 = some (.slice e')) ∨ P.underlying t2 = some .string) ∧ (∀ w, (Builtin.lenOf u).run P w = .ok k w) ∧
      (∀ w, (∀ a v, C.w.cell? a = some v → w.cell? a = some v) → (Builtin.firstCells n k u).run P w = .ok vs.toArray w) := by
  unfold srcCells at h
  split at h
  · rename_i ds k' hsrc
    cases h
    exact srcRaw_sim hI hsrc hu
  simp only [Option.bind_eq_bind, Option.bind_eq_some_iff] at h
  obtain ⟨⟨x, is'⟩, hx, h⟩ := h
  have hr := reify_sim hI 6 hx hu
  dsimp only at h
  split at h
  · rename_i cs len full nl
    split at h
    · rename_i hc
      obtain ⟨hk, hl⟩ := hc
      cases h
      have ht2 : ∃ e', P.underlying t2 = some (.slice e') := by unfold tkind at hk; split at hk <;> first | exact ⟨_, by assumption⟩ | cases hk
      cases hr with
      | sl _ _ cap _ _ a vs hlc hf h1 hrr hcc hnl =>
        have hget : ∀ j, j < xs.length → ((List.range xs.length).map vs).getD j undef = vs j := fun j hj => by simp [List.getD_eq_getElem?_getD, hj]
        refine ⟨(List.range xs.length).map vs, by simp, fun j y hy => ?_, fun v hv => ?_, hl, .inl ht2, fun w => rfl, fun w hw => ?_⟩
        · rw [hget j (List.getElem?_eq_some_iff.1 hy).1]
          split
          · rename_i hfl
            exact flat1_any (List.all_eq_true.1 hfl y (List.mem_of_getElem? hy)) (hrr j y hy)
          · exact hrr j y hy
        · obtain ⟨j, hj, rfl⟩ := List.mem_map.1 hv
          exact h1 j (by simpa using hj)
        · refine firstCells_run (C := C) (by simpa using hl) (fun hne => ?_) _ _ w hw
          obtain ⟨ad, ha, _, hcell⟩ := hcc (by intro e; subst e; simp at hne)
          exact ⟨ad, ha, fun j hj => by rw [hget j (by simpa using hj)]; exact hcell j (by simpa using hj)⟩
    · cases h
  · rename_i s
    split at h
    · rename_i hc
      obtain ⟨hk, rfl⟩ := hc
      cases h
      cases hr
      refine ⟨s.data.toList.map (fun b => .int .u8 b.toNat), by simp, fun j y hy => ?_, fun v hv => ?_, by rw [List.length_map, Array.length_toList, Nat.mul_one]; rfl, .inr (tkind7 hk), fun w => rfl, fun w hw => ?_⟩
      · simp only [List.getElem?_map, Option.map_eq_some_iff] at hy
        obtain ⟨b, hb, rfl⟩ := hy
        rw [List.getD_eq_getElem?_getD, List.getElem?_map, hb]
        exact .int _ _
      · obtain ⟨b, _, rfl⟩ := List.mem_map.1 hv
        rfl
      · simp only [Builtin.firstCells, Sem.run_pure]
        congr 1
        rw [ByteArray.extract_zero_size]
        apply Array.ext'
        simp
    · cases h
  · cases h
end
end Go.Proofs.Ytiafeijkifpfaaa.Am

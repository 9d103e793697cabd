/-
  The abstract machine: its operations on values are the machine's (parts, fields, pieces). No condition.
-/
import Derived.Test.YtiafeijkifpfaaaAm5
namespace Go.Proofs.Ytiafeijkifpfaaa.Am
open Go

theorem add_add (a : Addr) (m j : Nat) : (a.add m).add j = a.add (m + j) := by
  unfold Addr.add
  by_cases h : j = 0
  · subst h; simp
  · by_cases h2 : m = 0
    · subst h2; simp
    · rw [if_neg h, if_neg h2, if_neg (by omega)]
      simp; omega

section
variable {P : Program} {C : Cx}

theorem CellsOk.get {cs : List AV} {arr : Array Value} (h : CellsOk C cs arr) {j : Nat} {x : AV} (hx : cs[j]? = some x) : ∃ v, arr[j]? = some v ∧ Rep C x v := by
  have hl : j < arr.size := by rw [h.1]; exact (List.getElem?_eq_some_iff.1 hx).1
  have := h.2.2 j x hx
  rw [Array.getD_eq_getD_getElem?, Array.getElem?_eq_getElem hl] at this
  exact ⟨arr[j], Array.getElem?_eq_getElem hl, this⟩
/-- Cells without their being one cell each. -/
theorem vals_get {cs : List AV} {arr : Array Value} (h : arr.size = cs.length ∧ ∀ j x, cs[j]? = some x → Rep C x (arr.getD j undef)) {j : Nat} {x : AV} (hx : cs[j]? = some x) : ∃ v, arr[j]? = some v ∧ Rep C x v := by
  have hl : j < arr.size := by rw [h.1]; exact (List.getElem?_eq_some_iff.1 hx).1
  have := h.2 j x hx
  rw [Array.getD_eq_getD_getElem?, Array.getElem?_eq_getElem hl] at this
  exact ⟨arr[j], Array.getElem?_eq_getElem hl, this⟩

theorem CellsOk.window {cs : List AV} {arr : Array Value} (h : CellsOk C cs arr) {off n : Nat} (hl : off + n ≤ cs.length) : CellsOk C ((cs.drop off).take n) (arr.extract off (off + n)) := by
  refine ⟨by simp [h.1]; omega, fun j hj => ?_, fun j x hx => ?_⟩
  · have hs := h.1
    simp at hj
    have := h.2.1 (off + j) (by omega)
    rw [Array.getD_eq_getD_getElem?] at this ⊢
    rw [Array.getElem?_extract, if_pos (by omega)]
    exact this
  rw [List.getElem?_take] at hx
  split at hx
  · rename_i hj
    rw [List.getElem?_drop] at hx
    obtain ⟨v, hv, hr⟩ := h.get hx
    rw [Array.getD_eq_getD_getElem?, Array.getElem?_extract, if_pos (by rw [h.1]; omega), hv]
    exact hr
  · cases hx

theorem part_sim {t : TypeId} {cs : List AV} {arr : Array Value} {off : Nat} {x : AV} (h : part P t cs off = some x) (hc : CellsOk C cs arr) :
    ∃ z, (Go.part t arr off).run P C.w = .ok z C.w ∧ Rep C x z := by
  unfold part at h
  split at h
  · rename_i ha
    simp only [Option.bind_eq_bind, Option.bind_eq_some_iff] at h
    obtain ⟨n, hn, h⟩ := h
    split at h
    · rename_i hl
      cases h
      exact ⟨.agg (arr.extract off (off + n)), by simp [Go.part, agg_run ha, size_run hn], mkAgg_rep (hc.window hl)⟩
    · cases h
  · rename_i ha
    obtain ⟨v, hv, hr⟩ := hc.get h
    exact ⟨v, by simp [Go.part, agg_run ha, hv], hr⟩
  · cases h

theorem allD_map (cs : List D) : allD (cs.map .d) = some cs := by
  induction cs with
  | nil => rfl
  | cons x r ih => simp [allD, ih]
theorem dpart_part {t : TypeId} {cs : List D} {off : Nat} {x : D} (h : dpart P t cs off = some x) : part P t (cs.map .d) off = some (.d x) := by
  unfold dpart at h
  unfold part
  split at h
  · rename_i ha
    simp only [Option.bind_eq_bind, Option.bind_eq_some_iff] at h ⊢
    obtain ⟨n, hn, h⟩ := h
    refine ⟨n, hn, ?_⟩
    split at h
    · rename_i hl
      cases h
      rw [if_pos (by simpa using hl), ← List.map_drop, ← List.map_take]
      unfold mkAgg
      rw [allD_map]
    · cases h
  · simp [h]
  · cases h
theorem mapD_ok {cs : List D} {arr : Array Value} (hn : arr.size = cs.length) (h1 : ∀ j, j < arr.size → (arr.getD j undef).oneCell' = true) (hr : ∀ j x, cs[j]? = some x → RepD C.F C.w x (arr.getD j undef)) : CellsOk C (cs.map .d) arr := by
  refine ⟨by simpa using hn, h1, fun j y hy => ?_⟩
  simp only [List.getElem?_map, Option.map_eq_some_iff] at hy
  obtain ⟨z, hz, rfl⟩ := hy
  exact .d _ _ (hr j z hz)

theorem fieldD_sim {t : TypeId} {X r : AV} {i : Nat} {u : Value} (h : fieldD P t X i = some r) (hu : Rep C X u) : ∃ z, (Instr.field t u i).run P C.w = .ok z C.w ∧ Rep C r z := by
  unfold fieldD at h
  simp only [Option.bind_eq_bind, Option.bind_eq_some_iff] at h
  obtain ⟨⟨off, ft⟩, hf, h⟩ := h
  obtain ⟨fs, f, hu1, hf1, rfl, rfl⟩ := field_und hf
  split at h
  · rename_i cs
    simp only [Option.map_eq_some_iff] at h
    obtain ⟨x, hx, rfl⟩ := h
    cases hu.dinv with
    | agg _ arr hn h1 hr =>
      obtain ⟨z, hz, hr⟩ := part_sim (dpart_part hx) (mapD_ok hn h1 hr)
      exact ⟨z, by simp [Instr.field, und_run hu1, hf1, asAgg, hz], hr⟩
  · rename_i cs
    cases hu with
    | agg _ arr hn h1 hr =>
      obtain ⟨z, hz, hr⟩ := part_sim h ⟨hn, h1, hr⟩
      exact ⟨z, by simp [Instr.field, und_run hu1, hf1, asAgg, hz], hr⟩
  · cases h

theorem fieldPtr_sim {t : TypeId} {X r : AV} {i : Nat} {u : Value} (h : fieldPtr P t X i = some r) (hu : Rep C X u) : ∃ z, (Instr.fieldAt t u i).run P C.w = .ok z C.w ∧ Rep C r z := by
  unfold fieldPtr at h
  simp only [Option.bind_eq_bind, Option.bind_eq_some_iff] at h
  obtain ⟨⟨off, ft⟩, hf, n, hn, h⟩ := h
  obtain ⟨fs, f, hu1, hf1, rfl, rfl⟩ := field_und hf
  split at h
  · cases h
  · rename_i h0
    have hplace : ∀ a : Addr, (fieldPlace a f).run P C.w = .ok (a.add f.offset) C.w := fun a => by simp [fieldPlace, size_run hn, h0]
    split at h
    · cases h
      cases hu with
      | ptr o k ver a hU hv hs =>
        refine ⟨.pointer (some (a.add f.offset)), by simp [Instr.fieldAt, und_run hu1, hf1, Instr.sureAddr, hplace], .ptr _ _ _ _ hU hv fun x hx e => ?_⟩
        obtain ⟨b, S, hb, rfl⟩ := hs x hx e
        refine ⟨b, S, hb, ?_⟩
        unfold Addr.add
        split
        · rename_i h0; simp [h0]
        · rfl
    · rename_i cs
      split at h
      · rename_i hl
        cases h
        cases hu.dinv with
        | dptr _ ad vs h1 hr hF hc =>
          refine ⟨.pointer (some (ad.add f.offset)), by simp [Instr.fieldAt, und_run hu1, hf1, Instr.sureAddr, hplace], .d _ _ (.dptr _ _ (fun j => vs (f.offset + j)) (fun j hj => h1 _ (by simp at hj; omega)) (fun j x hx => ?_) (by rw [add_block]; exact hF) (fun j hj => ?_))⟩
          · rw [List.getElem?_drop] at hx; exact hr _ _ hx
          · rw [add_add]; simp at hj; exact hc _ (by omega)
      · cases h
    · cases h

theorem tup1_sim {X r : AV} {i : Nat} {u : Value} (h : tup1 X i = some r) (hu : Rep C X u) : ∃ z, (Instr.extract u i).run P C.w = .ok z C.w ∧ Rep C r z := by
  unfold tup1 at h
  split at h
  · simp only [Option.map_eq_some_iff] at h
    obtain ⟨x, hx, rfl⟩ := h
    cases hu.dinv with
    | tup _ arr hn hr =>
      obtain ⟨v, hv, hr⟩ := getD_cells hn hr _ _ hx
      exact ⟨v, by simp [Instr.extract, hv], .d _ _ hr⟩
  · cases hu with
    | tup _ arr hn hr =>
      obtain ⟨v, hv, hr⟩ := vals_get ⟨hn, hr⟩ h
      exact ⟨v, by simp [Instr.extract, hv], hr⟩
  · cases h

theorem lenD_sim {t ty : TypeId} {ts : Array TypeId} {X : AV} {d : D} {u : Value} (h : lenD P t X = some d) (ht : ts[0]? = some t) (hu : Rep C X u) : ∃ z, (Builtin.len_ ts ty #[u]).run P C.w = .ok z C.w ∧ Rep C (.d d) z := by
  have hk : ∀ k, tkind P t = k → (k = 3 → ∃ e, P.underlying t = some (.slice e)) ∧ (k = 7 → P.underlying t = some .string) ∧ (k = 4 → ∃ a b, P.underlying t = some (.map a b)) := by
    intro k hk
    unfold tkind at hk
    split at hk <;> subst hk <;> simp_all
  unfold lenD at h
  split at h
  · split at h
    · rename_i h3
      cases h
      obtain ⟨e, he⟩ := (hk _ h3).1 rfl
      cases hu.dinv
      exact ⟨_, by simp only [Builtin.len_, List.getElem?_toArray, ht, List.getElem?_cons_zero, Sem.run_bind, und_run he, Result.andThen_ok, goInt, Sem.run_pure], .d _ _ (.int _ _)⟩
    · cases h
  · split at h
    · rename_i h3
      cases h
      have he := (hk _ h3).2.1 rfl
      cases hu.dinv
      exact ⟨_, by simp only [Builtin.len_, List.getElem?_toArray, ht, List.getElem?_cons_zero, Sem.run_bind, und_run he, Result.andThen_ok, goInt, Sem.run_pure], .d _ _ (.int _ _)⟩
    · cases h
  · split at h
    · rename_i h3
      cases h
      obtain ⟨a, b, he⟩ := (hk _ h3).2.2 rfl
      cases hu.dinv
      exact ⟨_, by simp only [Builtin.len_, List.getElem?_toArray, ht, List.getElem?_cons_zero, Sem.run_bind, und_run he, Result.andThen_ok, goInt, Sem.run_pure], .d _ _ (.int _ _)⟩
    · cases h
  · split at h
    · rename_i h3
      cases h
      obtain ⟨e, he⟩ := (hk _ h3).1 rfl
      cases hu
      exact ⟨_, by simp only [Builtin.len_, List.getElem?_toArray, ht, List.getElem?_cons_zero, Sem.run_bind, und_run he, Result.andThen_ok, goInt, Sem.run_pure], .d _ _ (.int _ _)⟩
    · cases h
  · split at h
    · rename_i h3
      cases h
      obtain ⟨e, he⟩ := (hk _ h3).1 rfl
      cases hu
      exact ⟨_, by simp only [Builtin.len_, List.getElem?_toArray, ht, List.getElem?_cons_zero, Sem.run_bind, und_run he, Result.andThen_ok, goInt, Sem.run_pure], .d _ _ (.int _ _)⟩
    · cases h
  · cases h

theorem minmax_sim {mx : Bool} {Xs : List AV} {r : AV} {us : Array Value} {ts : Array TypeId} {ty : TypeId} (h : minmax mx Xs = some r) (hu : us.size = Xs.length ∧ ∀ j x, Xs[j]? = some x → Rep C x (us.getD j undef)) :
    ∃ z, ((if mx then Builtin.max_ ts ty us else Builtin.min_ ts ty us).run P C.w = .ok z C.w) ∧ Rep C r z := by
  unfold minmax at h
  split at h
  · rename_i k a k' b
    split at h
    · rename_i hk
      subst hk
      cases h
      obtain ⟨h1, h2⟩ := hu
      obtain ⟨v0, e0, r0⟩ := vals_get ⟨h1, h2⟩ (j := 0) rfl
      obtain ⟨v1, e1, r1⟩ := vals_get ⟨h1, h2⟩ (j := 1) rfl
      cases r0.dinv
      cases r1.dinv
      have : us = #[.int k a, .int k b] := by
        apply Array.ext_getElem?
        intro i
        match i with
        | 0 => simpa using e0
        | 1 => simpa using e1
        | i + 2 => rw [Array.getElem?_eq_none (by rw [h1]; simp), Array.getElem?_eq_none (by simp)]
      subst this
      cases mx
      · exact ⟨.int k (if b < a then b else a), by simp [Builtin.min_, Builtin.min2], .d _ _ (.int _ _)⟩
      · exact ⟨.int k (if b > a then b else a), by simp [Builtin.max_, Builtin.max2], .d _ _ (.int _ _)⟩
    · cases h
  · cases h

/-! ### Composite values -/
theorem foldl_set (off : Nat) (l : List Value) : ∀ (i : Nat) (arr : Array Value),
    (((l.zipIdx i).foldl (fun cs (c, j) => cs.setIfInBounds (off + j) c) arr).size = arr.size) ∧
    ∀ k, ((l.zipIdx i).foldl (fun cs (c, j) => cs.setIfInBounds (off + j) c) arr)[k]? = if off + i ≤ k ∧ k < off + i + l.length ∧ k < arr.size then l[k - (off + i)]? else arr[k]? := by
  induction l with
  | nil => intro i arr; simp; intro k h1 h2; omega
  | cons v r ih =>
    intro i arr
    obtain ⟨h1, h2⟩ := ih (i + 1) (arr.setIfInBounds (off + i) v)
    simp only [List.zipIdx_cons, List.foldl_cons]
    refine ⟨by rw [h1]; simp, fun k => ?_⟩
    rw [h2 k]
    simp only [Array.size_setIfInBounds, List.length_cons, Array.getElem?_setIfInBounds]
    by_cases e : k = off + i
    · subst e
      by_cases hs : off + i < arr.size
      · rw [if_neg (by omega), if_pos rfl, if_pos (by omega), if_pos (by omega)]; simp
      · rw [if_neg (by omega), if_pos rfl, if_neg (by omega), if_neg (by omega), Array.getElem?_eq_none (by omega)]
    · by_cases hc : off + (i + 1) ≤ k ∧ k < off + (i + 1) + r.length ∧ k < arr.size
      · rw [if_pos hc, if_pos (by omega)]
        have : k - (off + i) = (k - (off + (i + 1))) + 1 := by omega
        rw [this, List.getElem?_cons_succ]
      · rw [if_neg hc, if_neg (by omega), if_neg (by omega)]

theorem splice_length (l : List AV) (off : Nat) (xs : List AV) (h : off + xs.length ≤ l.length) : (splice l off xs).length = l.length := by simp [splice]; omega
theorem splice_get (l : List AV) (off : Nat) (xs : List AV) (h : off + xs.length ≤ l.length) (k : Nat) : (splice l off xs)[k]? = if off ≤ k ∧ k < off + xs.length then xs[k - off]? else l[k]? := by
  unfold splice
  by_cases h1 : k < off
  · rw [if_neg (by omega), List.append_assoc, List.getElem?_append_left (by simp; omega), List.getElem?_take, if_pos h1]
  · by_cases h2 : k < off + xs.length
    · rw [if_pos (by omega), List.getElem?_append_left (by simp; omega), List.getElem?_append_right (by simp; omega)]
      congr 1
      simp; omega
    · rw [if_neg (by omega), List.getElem?_append_right (by simp; omega), List.getElem?_drop]
      congr 1
      simp; omega
/-- Some cells are put in the place of others. -/
theorem CellsOk.splice {cs xs : List AV} {arr : Array Value} {v : Array Value} (h : CellsOk C cs arr) (hx : CellsOk C xs v) {off : Nat} (hl : off + xs.length ≤ cs.length)
    {arr' : Array Value} (hs : arr'.size = arr.size) (hg : ∀ k, arr'[k]? = if off ≤ k ∧ k < off + v.size ∧ k < arr.size then v[k - off]? else arr[k]?) : CellsOk C (Am.splice cs off xs) arr' := by
  refine ⟨by rw [hs, h.1, splice_length _ _ _ hl], fun j hj => ?_, fun j x hj => ?_⟩
  · have hvs := hx.1
    have has := h.1
    rw [Array.getD_eq_getD_getElem?, hg j]
    split
    · rename_i hc
      have := hx.2.1 (j - off) (by omega)
      rwa [Array.getD_eq_getD_getElem?] at this
    · have := h.2.1 j (by omega)
      rwa [Array.getD_eq_getD_getElem?] at this
  rw [splice_get _ _ _ hl] at hj
  rw [Array.getD_eq_getD_getElem?, hg j]
  have hvs := hx.1
  have has := h.1
  split at hj
  · rename_i hc
    obtain ⟨u, hu, hr⟩ := hx.get hj
    rw [if_pos (by omega), hu]
    exact hr
  · rename_i hc
    obtain ⟨u, hu, hr⟩ := h.get hj
    rw [if_neg (by omega), hu]
    exact hr

theorem fillC_sim {place : Nat → Option (Nat × Nat)} : ∀ {ps : List (Nat × AV)} {us : List (Nat × Value)} {cs r : List AV} {arr : Array Value}, fillC place cs ps = some r → CellsOk C cs arr →
    us.length = ps.length → (∀ (j : Nat) (p : Nat × AV), ps[j]? = some p → ∃ u, us[j]? = some (p.1, u) ∧ Rep C p.2 u) → ∃ arr', Instr.fill place arr us = some arr' ∧ CellsOk C r arr' := by
  intro ps
  induction ps with
  | nil =>
    intro us cs r arr h hc hn _
    cases us with
    | nil => cases h; exact ⟨arr, rfl, hc⟩
    | cons => simp at hn
  | cons p ps ih =>
    intro us cs r arr h hc hn hu
    cases us with
    | nil => simp at hn
    | cons q us =>
      obtain ⟨i, X⟩ := p
      obtain ⟨u, hq, hr⟩ := hu 0 (i, X) rfl
      simp only [List.getElem?_cons_zero, Option.some.injEq] at hq
      subst hq
      simp only [fillC, Option.bind_eq_bind, Option.bind_eq_some_iff] at h
      obtain ⟨⟨off, n⟩, hp, h⟩ := h
      split at h
      · rename_i hcond
        obtain ⟨e1, e2, e3⟩ := hcond
        replace hr : Rep C X u := hr
        have ht : isTup X = false := by
          cases X with
          | d x => cases x <;> first | rfl | (simp [cellsOf] at e1; omega)
          | _ => first | rfl | (simp [cellsOf] at e1; omega)
        have hX := cellsOf_ok hr ht
        obtain ⟨f1, f2⟩ := foldl_set off u.cells.toList 0 arr
        have hc' := hc.splice hX (off := off) (by omega) (arr' := (u.cells.toList.zipIdx 0).foldl (fun cs (c, j) => cs.setIfInBounds (off + j) c) arr) f1 (fun k => by rw [f2 k]; simp)
        obtain ⟨arr', ha, hr'⟩ := ih h hc' (by simpa using hn) (fun j p hj => hu (j + 1) p (by simpa using hj))
        refine ⟨arr', ?_, hr'⟩
        have hsz := hX.1
        have hsz2 := hc.1
        simp only [Instr.fill, hp]
        rw [if_neg (by simp only [Bool.or_eq_true, decide_eq_true_eq, not_or]; constructor <;> omega)]
        rw [← Array.toList_zipIdx, Array.foldl_toList] at ha
        exact ha
      · cases h

theorem zero_run {t : TypeId} {z : List AV} (h : zeroCells P t = some z) (w : World) : ∃ v, (zeroValue t).run P w = .ok v w ∧ z = v.cells.toList.map liftV ∧ (∀ u ∈ v.cells.toList, u.oneCell' = true) := by
  unfold zeroCells at h
  simp only [Option.bind_eq_bind, Option.bind_eq_some_iff] at h
  obtain ⟨i, hi, v, hv, h⟩ := h
  split at h
  · rename_i hall
    cases h
    exact ⟨v, by simp [zeroValue, typeInfo, hi, hv], rfl, fun u hu => List.all_eq_true.1 hall u hu⟩
  · cases h
theorem lift_ok (arr : Array Value) (h1 : ∀ u ∈ arr.toList, u.oneCell' = true) : CellsOk C (arr.toList.map liftV) arr := by
  refine ⟨by simp, fun j hj => ?_, fun j x hx => ?_⟩
  · rw [Array.getD_eq_getD_getElem?, Array.getElem?_eq_getElem hj]
    exact h1 _ (by simp)
  simp only [List.getElem?_map, Option.map_eq_some_iff, Array.getElem?_toList] at hx
  obtain ⟨v, hv, rfl⟩ := hx
  rw [Array.getD_eq_getD_getElem?, hv]
  exact liftV_rep C v

theorem mapM_places {fs : List Field} {pl : List (Nat × Nat)} (h : fs.mapM (fun f => (tsize P f.type).map (f.offset, ·)) = some pl) (w : World) :
    (fs.mapM (fun f => do pure (f.offset, ← sizeOf f.type)) : Sem (List (Nat × Nat))).run P w = .ok pl w := by
  induction fs generalizing pl with
  | nil => simp at h; subst h; rfl
  | cons f r ih =>
    simp only [List.mapM_cons, Option.bind_eq_bind, Option.bind_eq_some_iff, Option.map_eq_some_iff] at h
    obtain ⟨p, ⟨n, hn, rfl⟩, l, hl, h⟩ := h
    cases h
    simp only [List.mapM_cons, Sem.run_bind, size_run hn, Result.andThen_ok, Sem.run_pure, ih hl]

theorem buildD_sim {t : TypeId} {ps : List (Nat × AV)} {us : Array (Nat × Value)} {r : AV} (h : buildD P t ps = some r) (hn : us.size = ps.length)
    (hu : ∀ (j : Nat) (p : Nat × AV), ps[j]? = some p → ∃ u, us[j]? = some (p.1, u) ∧ Rep C p.2 u) : ∃ z, (Instr.build t us).run P C.w = .ok z C.w ∧ Rep C r z := by
  unfold buildD at h
  simp only [Option.bind_eq_bind, Option.bind_eq_some_iff] at h
  obtain ⟨pl, hpl, z, hz, cs, hcs, h⟩ := h
  cases h
  obtain ⟨v, hv, rfl, hz1⟩ := zero_run hz C.w
  unfold tplaces at hpl
  split at hpl
  · rename_i fs hfs
    obtain ⟨arr', ha, hr⟩ := fillC_sim hcs (lift_ok (C := C) v.cells hz1) (us := us.toList) (by simpa using hn) (fun j p hj => by simpa using hu j p hj)
    have hm : (fs.mapM (fun f => do pure (f.offset, ← sizeOf f.type)) : Sem (Array (Nat × Nat))).run P C.w = .ok pl.toArray C.w := by
      rw [Array.mapM_eq_mapM_toList]
      simp only [Sem.run_map, mapM_places hpl, Result.andThen_ok]
    refine ⟨.agg arr', ?_, mkAgg_rep hr⟩
    have hpe : (fun i : Nat => (pl.toArray)[i]?) = fun i => pl[i]? := by funext i; simp
    simp only [Instr.build, Sem.run_bind, hv, Result.andThen_ok, und_run hfs, hm, hpe, ha, Sem.run_pure]
  · cases hpl

end
end Go.Proofs.Ytiafeijkifpfaaa.Am

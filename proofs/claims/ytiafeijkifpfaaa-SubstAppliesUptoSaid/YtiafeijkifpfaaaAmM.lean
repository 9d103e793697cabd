/-
  The abstract machine: maps; copy and clear. No condition.
-/
import Derived.Test.YtiafeijkifpfaaaAm14
namespace Go.Proofs.Ytiafeijkifpfaaa.Am
open Go
set_option linter.unusedVariables false

section
variable {P : Program} {C : Cx}

theorem zeroAV_run {t : TypeId} {z : AV} (h : zeroAV P t = some z) (w : World) : ∃ v, (zeroValue t).run P w = .ok v w ∧ ∀ C : Cx, Rep C z v := by
  unfold zeroAV at h
  simp only [Option.bind_eq_bind, Option.bind_eq_some_iff] at h
  obtain ⟨i, hi, v, hv, h⟩ := h
  refine ⟨v, by simp [zeroValue, typeInfo, hi, hv], fun C => ?_⟩
  split at h
  · rename_i cs
    split at h
    · rename_i hall
      cases h
      exact mkAgg_rep (lift_ok cs (fun u hu => List.all_eq_true.1 hall u hu))
    · cases h
  · split at h
    · cases h; exact liftV_rep C v
    · cases h

/-! ### Maps -/
theorem tmap_und {t k e : TypeId} (h : tmap P t = some (k, e)) : P.underlying t = some (.map k e) := by
  unfold tmap at h
  split at h
  · rename_i he; cases h; exact he
  · cases h

/-- A map's block. -/
theorem mp_mem (hI : Inv C) {o : Oid} {sh : Shape} {es : List (D × AV × Nat)} {c : Nat} (hx : C.H o = some (.mp sh es c)) {u : Value} (hu : Rep C (.map o) u) :
    ∃ b S es', u = .map (some b) ∧ C.ρ o = some (b, S) ∧ C.w.heap[b]? = some (.map es' c) ∧ es'.size = es.length ∧
      ∀ (j : Nat) (k : D) (v : AV) (n : Nat), es[j]? = some (k, v, n) → fitD sh k = true ∧ ∃ e, es'[j]? = some e ∧ vOf k = some e.key ∧ Rep C v e.val ∧ e.born = n := by
  cases hu with
  | map _ b hU h =>
    obtain ⟨_, S, hS⟩ := h _ hx
    obtain ⟨b', S', es', e, hh, hs, hr⟩ := hI.obj o _ hx
    rw [hS] at e; cases e
    exact ⟨b, S, es', rfl, hS, hh, hs, hr⟩
theorem keysOk_of {sh : Shape} {es : List (D × AV × Nat)} {es' : Array MapEntry} (hs : es'.size = es.length) (hr : ∀ (j : Nat) (k : D) (v : AV) (n : Nat), es[j]? = some (k, v, n) → fitD sh k = true ∧ ∃ e, es'[j]? = some e ∧ vOf k = some e.key ∧ Rep C v e.val ∧ e.born = n) : KeysOk sh es es'.toList :=
  ⟨by simpa using hs, fun j k v n hj => by
    obtain ⟨h1, e, h2, h3, _⟩ := hr j k v n hj
    exact ⟨h1, e, by simpa using h2, h3⟩⟩

theorem makeMap_sim {t k e : TypeId} {sh : Shape} {id : Nat} (hI : Inv C) (hid : ∀ j, ¬ C.U (id, j)) (ht : tmap P t = some (k, e)) (hsh : tshape P k = some sh) :
    ∃ C' : Cx, ∃ z, (Instr.makeMap t none).run P C.w = .ok z C'.w ∧ Rep C' (.map (id, 0)) z ∧ Stepped C C' C'.w (upd C.H (id, 0) (.mp sh [] 0)) id := by
  have ne : ∀ o, C.U o → o ≠ (id, 0) := fun o ho e => hid 0 (e ▸ ho)
  have hg := Grew.alloc C.w (.map #[] 0)
  let ρ' : Oid → Option (Nat × Nat) := fun o => if o = (id, 0) then some (C.w.heap.size, 0) else C.ρ o
  have hH : ∀ o, C.U o → upd C.H (id, 0) (.mp sh [] 0) o = C.H o ∧ ρ' o = C.ρ o := fun o ho => ⟨if_neg (ne o ho), if_neg (ne o ho)⟩
  have hnew : ∀ o x, upd C.H (id, 0) (.mp sh [] 0) o = some x → ¬ C.U o → o = (id, 0) ∧ x = .mp sh [] 0 := fun o x hx hc => by
    simp only [upd] at hx
    split at hx
    · rename_i e; cases hx; exact ⟨e, rfl⟩
    · exact absurd (hI.used o x hx) hc
  have hN : ∀ o x, upd C.H (id, 0) (.mp sh [] 0) o = some x → ¬ C.U o → ∀ b' S, ρ' o = some (b', S) → C.w.heap.size ≤ b' := fun o x hx hc b' S e => by
    simp only [ρ'] at e
    rw [if_pos (hnew o x hx hc).1] at e; cases e; exact Nat.le_refl _
  have he := ext_fresh (U' := fun o => C.U o ∨ o = (id, 0)) hI hg (fun _ h => .inl h) hH hN
  have hI' := inv_fresh (U' := fun o => C.U o ∨ o = (id, 0)) hI hg (fun _ h => .inl h) hH hN (fun o x hx hc => .inr (hnew o x hx hc).1) (fun o x hx hc => by
    obtain ⟨rfl, rfl⟩ := hnew o x hx hc
    exact ⟨C.w.heap.size, 0, #[], if_pos rfl, alloc_block _ _, rfl, fun j k v n hj => by simp at hj⟩)
    (fun o o' x x' b' S S' hx hx' hc hc' _ _ => by rw [(hnew o x hx hc).1, (hnew o' x' hx' hc').1])
  refine ⟨⟨ρ', C.F, upd C.H (id, 0) (.mp sh [] 0), fun o => C.U o ∨ o = (id, 0), C.w.alloc (.map #[] 0)⟩, .map (some C.w.heap.size), ?_, .map _ _ (.inr rfl) (fun x hx => ?_), ⟨rfl, rfl, hI', he, ?_⟩⟩
  · simp only [Instr.makeMap, Sem.run_bind, run_newObj, Result.andThen_ok, Sem.run_pure]
    rfl
  · simp only [upd, if_pos] at hx
    cases hx
    exact ⟨rfl, 0, if_pos rfl⟩
  · rintro o (h | rfl)
    · exact .inl h
    · exact .inr rfl

theorem wrote_put (w : World) (b : Nat) (o : Go.Obj) : Wrote w { w with heap := w.heap.setIfInBounds b o } b :=
  ⟨rfl, rfl, rfl, by simp, fun k hk => by simp [Array.getElem?_setIfInBounds]; intro e; exact absurd e.symm hk⟩

/-- A map's entries turn. -/
theorem mp_write (hI : Inv C) {o : Oid} {sh : Shape} {es fs : List (D × AV × Nat)} {c c' : Nat} (hx : C.H o = some (.mp sh es c)) {b S : Nat} (hb : C.ρ o = some (b, S)) {es' fs' : Array MapEntry} (hh : C.w.heap[b]? = some (.map es' c)) (hs : fs'.size = fs.length)
    (hr : ∀ (j : Nat) (k : D) (v : AV) (n : Nat), fs[j]? = some (k, v, n) → fitD sh k = true ∧ ∃ e, fs'[j]? = some e ∧ vOf k = some e.key ∧ Rep C v e.val ∧ e.born = n) :
    ∃ C', (setObj b (.map fs' c')).run P C.w = .ok () C'.w ∧ C'.H = upd C.H o (.mp sh fs c') ∧ Inv C' ∧ Ext C C' ∧ C'.U = C.U := by
  have hw := wrote_put C.w b (.map fs' c')
  have hlt : b < C.w.heap.size := (Array.getElem?_eq_some_iff.1 hh).1
  have he := ext_write (x' := .mp sh fs c') hI hx rfl hb hw rfl (Nat.le_refl _)
  have hI' := inv_write (x' := .mp sh fs c') hI hx rfl hb hw rfl (Nat.le_refl _) ⟨b, S, fs', hb, by simp [hlt], hs, fun j k v n hj => by
    obtain ⟨h1, e, h2, h3, h4, h5⟩ := hr j k v n hj
    exact ⟨h1, e, h2, h3, h4.ext hI he, h5⟩⟩
  exact ⟨_, MapKept.run_setObj_map _ hh, rfl, hI', he, rfl⟩

theorem entriesOf_some {H : Hp} {sh : Shape} {m : AV} {es : List (D × AV × Nat)} (h : entriesOf H sh m = some es) : (m = .d .nilmap ∧ es = []) ∨ ∃ o c, m = .map o ∧ H o = some (.mp sh es c) := by
  unfold entriesOf at h
  split at h
  · cases h; exact .inl ⟨rfl, rfl⟩
  · rename_i o
    simp only [Option.bind_eq_some_iff] at h
    obtain ⟨x, hx, h⟩ := h
    split at h
    · split at h
      · rename_i hq; cases h; subst hq; exact .inr ⟨o, _, rfl, hx⟩
      · cases h
    · cases h
  · cases h
theorem mapO_some {H : Hp} {sh : Shape} {m : AV} {o : Oid} {es : List (D × AV × Nat)} {c : Nat} (h : mapO H sh m = some (o, es, c)) : m = .map o ∧ H o = some (.mp sh es c) := by
  unfold mapO at h
  split at h
  · rename_i o
    simp only [Option.bind_eq_some_iff] at h
    obtain ⟨x, hx, h⟩ := h
    split at h
    · split at h
      · rename_i hq; cases h; subst hq; exact ⟨rfl, hx⟩
      · cases h
    · cases h
  · cases h

def pickV (ok : Bool) (zv : Value) : Option (Nat × Value) → Value
  | some (_, v) => if ok then Value.tuple #[v, .bool true] else v
  | none => if ok then Value.tuple #[zv, .bool false] else zv
theorem lookup_sim {t : TypeId} {M I r : AV} {ok : Bool} {u i : Value} (hI : Inv C) (h : lookupO P C.H t M I ok = some r) (hu : Rep C M u) (hi : Rep C I i) : ∃ z, (Instr.lookup t u i ok).run P C.w = .ok z C.w ∧ Rep C r z := by
  unfold lookupO at h
  simp only [Option.bind_eq_bind, Option.bind_eq_some_iff] at h
  obtain ⟨⟨k, e⟩, ht, sh, hsh, es, hes, h⟩ := h
  split at h
  · rename_i x
    simp only [Option.bind_eq_some_iff] at h
    obtain ⟨z, hz, h⟩ := h
    split at h
    · rename_i hf
      obtain ⟨V, _, hV, _, _⟩ := key_val hsh hf
      obtain rfl := vOf_rep hV hi.dinv
      obtain ⟨zv, hzv, hzr⟩ := zeroAV_run hz C.w
      have fin : ∀ (es' : Array MapEntry), KeysOk sh es es'.toList → (∀ (j : Nat) (k : D) (v : AV) (n : Nat), es[j]? = some (k, v, n) → ∃ e, es'[j]? = some e ∧ Rep C v e.val) →
          ∃ q : Option (Nat × Value), (Instr.findKey k i es'.toList).run P C.w = .ok q C.w ∧ Rep C r (pickV ok zv q) := by
        intro es' hk hrep
        refine ⟨_, findKey_ok hsh hf hV C.w hk, ?_⟩
        have tup : ∀ {a : AV} {v : Value} {b : Bool}, Rep C a v → Rep C (mkTup [a, .d (.bool b)]) (.tuple #[v, .bool b]) := fun {a v b} ha => mkTup_rep ⟨rfl, fun j y hy => by
          match j, hy with
          | 0, hy => simp at hy; subst hy; simpa using ha
          | 1, hy => simp at hy; subst hy; exact .d _ _ (.bool _)
          | j + 2, hy => simp at hy⟩
        split at h
        · rename_i j v n hq
          obtain ⟨hj, k', hkj⟩ := findK_ge hq
          obtain ⟨e', he', hre⟩ := hrep _ _ _ _ hkj
          rw [hq]
          simp only [Nat.sub_zero] at he'
          simp only [found, Nat.sub_zero, Array.getElem?_toList, he', Option.map_some]
          cases h
          cases ok with
          | true => exact tup hre
          | false => exact hre
        · rename_i hq
          rw [hq]
          simp only [found]
          cases h
          cases ok with
          | true => exact tup (hzr C)
          | false => exact hzr C
      have run : ∀ (es' : Array MapEntry), (∃ q : Option (Nat × Value), (Instr.findKey k i es'.toList).run P C.w = .ok q C.w ∧ Rep C r (pickV ok zv q)) →
          ((∃ q, u = .map (some q) ∧ ∃ c, C.w.heap[q]? = some (.map es' c)) ∨ (u = .map none ∧ es' = #[])) → ∃ z, (Instr.lookup t u i ok).run P C.w = .ok z C.w ∧ Rep C r z := by
        rintro es' ⟨q, hq, hrq⟩ hu'
        have hes : (Instr.lookup t u i ok).run P C.w = .ok (pickV ok zv q) C.w := by
          rcases hu' with ⟨b, rfl, c, hh⟩ | ⟨rfl, rfl⟩
          · simp only [Instr.lookup, Sem.run_bind, und_run (tmap_und ht), Result.andThen_ok, MapKept.run_getObj_map hh, Sem.run_pure, checkKey_ok hsh hf hV, hq]
            cases q <;> simp [hzv, pickV]
          · simp only [Instr.lookup, Sem.run_bind, und_run (tmap_und ht), Result.andThen_ok, Sem.run_pure, checkKey_ok hsh hf hV, hq]
            cases q <;> simp [hzv, pickV]
        exact ⟨_, hes, hrq⟩
      rcases entriesOf_some hes with ⟨rfl, rfl⟩ | ⟨o, c, rfl, hx⟩
      · have hn := hu.dinv
        refine run #[] (fin #[] ⟨rfl, fun j k v n hj => by simp at hj⟩ (fun j k v n hj => by simp at hj)) (.inr ⟨?_, rfl⟩)
        cases hn; rfl
      · obtain ⟨b, S, es', hub, hb, hh, hs, hr⟩ := mp_mem hI hx hu
        exact run es' (fin es' (keysOk_of hs hr) (fun j k v n hj => by
          obtain ⟨_, e, h1, _, h2, _⟩ := hr j k v n hj
          exact ⟨e, h1, h2⟩)) (.inl ⟨b, hub, c, hh⟩)
    · cases h
  · cases h

/-- What an entry is replaced by. -/
theorem entry_set {sh : Shape} {es : List (D × AV × Nat)} {es' : Array MapEntry} (hs : es'.size = es.length)
    (hr : ∀ (j : Nat) (k : D) (v : AV) (n : Nat), es[j]? = some (k, v, n) → fitD sh k = true ∧ ∃ e, es'[j]? = some e ∧ vOf k = some e.key ∧ Rep C v e.val ∧ e.born = n)
    {j : Nat} {f : MapEntry → MapEntry} {x : D} {v : AV} {n : Nat} (hx : fitD sh x = true) (hf : ∀ e, es'[j]? = some e → vOf x = some (f e).key ∧ Rep C v (f e).val ∧ (f e).born = n) :
    (es'.modify j f).size = (es.set j (x, v, n)).length ∧ ∀ (i : Nat) (k : D) (v' : AV) (m : Nat), (es.set j (x, v, n))[i]? = some (k, v', m) → fitD sh k = true ∧ ∃ e, (es'.modify j f)[i]? = some e ∧ vOf k = some e.key ∧ Rep C v' e.val ∧ e.born = m := by
  refine ⟨by simp [hs], fun i k v' m hi => ?_⟩
  rw [List.getElem?_set] at hi
  rw [Array.getElem?_modify]
  split at hi
  · rename_i hij
    subst hij
    split at hi
    · rename_i hlt
      cases hi
      have : j < es'.size := by omega
      have he : es'[j]? = some es'[j] := Array.getElem?_eq_getElem this
      obtain ⟨h1, h2, h3⟩ := hf _ he
      exact ⟨hx, f es'[j], by simp [this], h1, h2, h3⟩
    · cases hi
  · rename_i hij
    rw [if_neg hij]
    obtain ⟨h1, e, h2, h3⟩ := hr i k v' m hi
    exact ⟨h1, e, h2, h3⟩
theorem entry_push {sh : Shape} {es : List (D × AV × Nat)} {es' : Array MapEntry} (hs : es'.size = es.length)
    (hr : ∀ (j : Nat) (k : D) (v : AV) (n : Nat), es[j]? = some (k, v, n) → fitD sh k = true ∧ ∃ e, es'[j]? = some e ∧ vOf k = some e.key ∧ Rep C v e.val ∧ e.born = n)
    {x : D} {v : AV} {n : Nat} {e0 : MapEntry} (hx : fitD sh x = true) (h1 : vOf x = some e0.key) (h2 : Rep C v e0.val) (h3 : e0.born = n) :
    (es'.push e0).size = (es ++ [(x, v, n)]).length ∧ ∀ (i : Nat) (k : D) (v' : AV) (m : Nat), (es ++ [(x, v, n)])[i]? = some (k, v', m) → fitD sh k = true ∧ ∃ e, (es'.push e0)[i]? = some e ∧ vOf k = some e.key ∧ Rep C v' e.val ∧ e.born = m := by
  refine ⟨by simp [hs], fun i k v' m hi => ?_⟩
  rw [List.getElem?_append] at hi
  rw [Array.getElem?_push]
  split at hi
  · rename_i hlt
    rw [if_neg (by omega)]
    exact hr i k v' m hi
  · rename_i hlt
    have : i = es.length := by
      rcases Nat.lt_or_ge es.length i with q | q
      · rw [List.getElem?_eq_none (by simp; omega)] at hi; cases hi
      · omega
    subst this
    simp at hi
    obtain ⟨rfl, rfl, rfl⟩ := hi
    rw [if_pos hs.symm]
    exact ⟨hx, e0, rfl, h1, h2, h3⟩

/-- A key that is found is the same. -/
theorem found_key {sh : Shape} {es : List (D × AV × Nat)} {x : D} (hx : fitD sh x = true) {V : Value} (hV : vOf x = some V) : ∀ {es : List (D × AV × Nat)} {i j : Nat} {v : AV} {n : Nat}, findK x es i = some (j, v, n) → ∃ k, es[j - i]? = some (k, v, n) ∧ eqD x k = true
  | (k, v, n) :: r, i, j, v', n', h => by
    simp only [findK] at h
    split at h
    · rename_i hq; cases h; exact ⟨k, by simp, hq⟩
    · obtain ⟨h1, _⟩ := findK_ge h
      obtain ⟨k', h2, h3⟩ := found_key (es := es) hx hV h
      refine ⟨k', ?_, h3⟩
      rw [show j - i = (j - (i + 1)) + 1 by omega]
      simpa using h2

theorem mapUpdate_sim {t : TypeId} {M I W : AV} {H' : Hp} {u i v : Value} (hI : Inv C) (h : mapUpdateO P C.H t M I W = some H') (hu : Rep C M u) (hi : Rep C I i) (hv : Rep C W v) :
    ∃ C', (Instr.mapUpdate t u i v).run P C.w = .ok () C'.w ∧ C'.H = H' ∧ Inv C' ∧ Ext C C' ∧ C'.U = C.U := by
  unfold mapUpdateO at h
  simp only [Option.bind_eq_bind, Option.bind_eq_some_iff] at h
  obtain ⟨⟨k, e⟩, ht, sh, hsh, ⟨o, es, c⟩, hm, h⟩ := h
  obtain ⟨rfl, hx⟩ := mapO_some hm
  obtain ⟨b, S, es', rfl, hb, hh, hs, hr⟩ := mp_mem hI hx hu
  split at h
  · rename_i x
    split at h
    · rename_i hf
      obtain ⟨V, _, hV, _, _⟩ := key_val hsh hf
      obtain rfl := vOf_rep hV hi.dinv
      simp only [Instr.mapUpdate, Sem.run_bind, und_run (tmap_und ht), Result.andThen_ok, MapKept.run_getObj_map hh, checkKey_ok hsh hf hV, findKey_ok hsh hf hV C.w (keysOk_of hs hr)]
      split at h
      · rename_i j v0 n hq
        cases h
        rw [hq]
        obtain ⟨k', hk', heq⟩ := found_key (es := es) hf hV hq
        simp only [Nat.sub_zero] at hk'
        obtain ⟨hf', e', he', hke, _, hbn⟩ := hr _ _ _ _ hk'
        have hsame := eqD_same hf hf' heq hV hke
        simp only [found, Nat.sub_zero, Array.getElem?_toList, he', Option.map_some, Option.getD_some, ← hsame, Sem.run_bind, keyStays_ok hsh hf hV, Result.andThen_ok]
        obtain ⟨h1, h2⟩ := entry_set (C := C) (f := fun e => { e with key := i, val := v }) (v := W) (n := n) hs hr hf (j := j) (fun e he => ⟨hV, hv, by rw [he'] at he; cases he; exact hbn⟩)
        exact mp_write hI hx hb hh h1 h2
      · rename_i hq
        cases h
        rw [hq]
        simp only [found]
        obtain ⟨h1, h2⟩ := entry_push (C := C) (v := W) (n := c) (e0 := { key := i, val := v, born := c }) hs hr hf hV hv rfl
        exact mp_write hI hx hb hh h1 h2
    · cases h
  · cases h

theorem mapEntry_sim {t : TypeId} {M I r : AV} {H' : Hp} {u i : Value} (hI : Inv C) (h : mapEntryO P C.H t M I = some (r, H')) (hu : Rep C M u) (hi : Rep C I i) :
    ∃ C' z, (Instr.mapEntry t u i).run P C.w = .ok z C'.w ∧ Rep C' r z ∧ C'.H = H' ∧ Inv C' ∧ Ext C C' ∧ C'.U = C.U := by
  unfold mapEntryO at h
  simp only [Option.bind_eq_bind, Option.bind_eq_some_iff] at h
  obtain ⟨⟨k, e⟩, ht, sh, hsh, ⟨o, es, c⟩, hm, h⟩ := h
  obtain ⟨rfl, hx⟩ := mapO_some hm
  obtain ⟨b, S, es', rfl, hb, hh, hs, hr⟩ := mp_mem hI hx hu
  have tup : ∀ {C : Cx} {a : AV} {v : Value} {n : Int}, Rep C a v → Rep C (mkTup [a, .d (.int .i64 n)]) (.tuple #[v, .int .i64 n]) := fun {C a v n} ha => mkTup_rep ⟨rfl, fun j y hy => by
    match j, hy with
    | 0, hy => simp at hy; subst hy; simpa using ha
    | 1, hy => simp at hy; subst hy; exact .d _ _ (.int _ _)
    | j + 2, hy => simp at hy⟩
  split at h
  · rename_i x
    simp only [Option.bind_eq_some_iff] at h
    obtain ⟨z, hz, h⟩ := h
    split at h
    · rename_i hf
      obtain ⟨V, _, hV, _, _⟩ := key_val hsh hf
      obtain rfl := vOf_rep hV hi.dinv
      obtain ⟨zv, hzv, hzr⟩ := zeroAV_run hz C.w
      simp only [Instr.mapEntry, Sem.run_bind, und_run (tmap_und ht), Result.andThen_ok, MapKept.run_getObj_map hh, checkKey_ok hsh hf hV, findKey_ok hsh hf hV C.w (keysOk_of hs hr)]
      split at h
      · rename_i j v0 n hq
        cases h
        rw [hq]
        obtain ⟨k', hk', heq⟩ := found_key (es := es) hf hV hq
        simp only [Nat.sub_zero] at hk'
        obtain ⟨hf', e', he', hke, hre, hbn⟩ := hr _ _ _ _ hk'
        have hsame := eqD_same hf hf' heq hV hke
        simp only [found, Nat.sub_zero, Array.getElem?_toList, he', Option.map_some, Option.getD_some, ← hsame, Sem.run_bind, keyStays_ok hsh hf hV, Result.andThen_ok, hbn]
        obtain ⟨h1, h2⟩ := entry_set (C := C) (f := fun e => { e with key := i }) (x := k') (v := v0) (n := n) hs hr hf' (j := j) (fun e he => by rw [he'] at he; cases he; exact ⟨by rw [hke, hsame], hre, hbn⟩)
        have hes : es.set j (k', v0, n) = es := by
          apply List.ext_getElem?
          intro m
          rw [List.getElem?_set]
          split
          · rename_i e; subst e
            rw [hk', if_pos (List.getElem?_eq_some_iff.1 hk').1]
          · rfl
        rw [hes] at h1 h2
        obtain ⟨C', hw, hH, hI', he', hU⟩ := mp_write (P := P) (c' := c) hI hx hb hh h1 h2
        refine ⟨C', .tuple #[e'.val, .int .i64 n], ?_, tup (hre.ext hI he'), ?_, hI', he', hU⟩
        · rw [hw]; simp only [Result.andThen_ok, Sem.run_pure, goInt]
        · rw [hH]
          funext p
          simp only [upd]
          split
          · rename_i e; rw [e, hx]
          · rfl
      · rename_i hq
        cases h
        rw [hq]
        simp only [found, Sem.run_bind, hzv, Result.andThen_ok]
        obtain ⟨h1, h2⟩ := entry_push (C := C) (v := z) (n := c) (e0 := { key := i, val := zv, born := c }) hs hr hf hV (hzr C) rfl
        obtain ⟨C', hw, hH, hI', he', hU⟩ := mp_write (P := P) (c' := c + 1) hI hx hb hh h1 h2
        exact ⟨C', .tuple #[zv, .int .i64 c], by rw [hw]; simp only [Result.andThen_ok, Sem.run_pure, goInt], tup (hzr C'), hH, hI', he', hU⟩
    · cases h
  · cases h

theorem stampAt_spec {n : Int} : ∀ {es : List (D × AV × Nat)} {i j : Nat} {x : D}, stampAt n es i = some (j, x) → i ≤ j ∧ (∃ v m, es[j - i]? = some (x, v, m) ∧ (m : Int) = n) ∧ ∀ l, l < j - i → ∀ k v m, es[l]? = some (k, v, m) → (m : Int) ≠ n
  | (x, v, b) :: r, i, j, x', h => by
    simp only [stampAt] at h
    split at h
    · rename_i hq; cases h; exact ⟨Nat.le_refl _, ⟨v, b, by simp, hq⟩, fun l hl => by omega⟩
    · rename_i hq
      obtain ⟨h1, ⟨v', m, h2, h3⟩, h4⟩ := stampAt_spec h
      have e : j - i = (j - (i + 1)) + 1 := by omega
      refine ⟨by omega, ⟨v', m, by rw [e]; simpa using h2, h3⟩, fun l hl k v m hlk => ?_⟩
      cases l with
      | zero => simp at hlk; obtain ⟨_, _, rfl⟩ := hlk; exact hq
      | succ l => exact h4 l (by omega) k v m (by simpa using hlk)

theorem entryStore_sim {t : TypeId} {M S V : AV} {H' : Hp} {u s v : Value} (hI : Inv C) (h : entryStoreO P C.H t M S V = some H') (hu : Rep C M u) (hs' : Rep C S s) (hv : Rep C V v) :
    ∃ C', (Instr.entryStore t u s v).run P C.w = .ok () C'.w ∧ C'.H = H' ∧ Inv C' ∧ Ext C C' ∧ C'.U = C.U := by
  unfold entryStoreO at h
  simp only [Option.bind_eq_bind, Option.bind_eq_some_iff] at h
  obtain ⟨⟨k, e⟩, ht, sh, hsh, ⟨o, es, c⟩, hm, h⟩ := h
  obtain ⟨rfl, hx⟩ := mapO_some hm
  obtain ⟨b, S', es', rfl, hb, hh, hs, hr⟩ := mp_mem hI hx hu
  split at h
  · rename_i n
    simp only [Option.bind_eq_some_iff] at h
    obtain ⟨⟨j, x⟩, hst, h⟩ := h
    cases h
    cases hs'.dinv
    obtain ⟨_, ⟨v0, m, hj, hmn⟩, hbefore⟩ := stampAt_spec hst
    simp only [Nat.sub_zero] at hj hbefore
    obtain ⟨hf, e', he', hke, hre, hbn⟩ := hr _ _ _ _ hj
    have hfi : es'.findIdx? (fun e => (e.born : Int) == n) = some j := by
      rw [Array.findIdx?_eq_some_iff_getElem]
      have hjl : j < es'.size := (Array.getElem?_eq_some_iff.1 he').1
      refine ⟨hjl, ?_, fun l hl => ?_⟩
      · have : es'[j] = e' := by rw [Array.getElem?_eq_getElem hjl] at he'; exact Option.some.inj he'
        rw [this, hbn]; simpa using hmn
      · have hll : l < es.length := by have := (List.getElem?_eq_some_iff.1 hj).1; omega
        obtain ⟨_, e1, h1, _, _, h3⟩ := hr l es[l].1 es[l].2.1 es[l].2.2 (by rw [List.getElem?_eq_getElem hll])
        have := hbefore l hl es[l].1 es[l].2.1 es[l].2.2 (by rw [List.getElem?_eq_getElem hll])
        have hlt : l < es'.size := by omega
        rw [Array.getElem?_eq_getElem hlt] at h1
        rw [Option.some.inj h1, h3]
        simpa using this
    obtain ⟨h1, h2⟩ := entry_set (C := C) (f := fun e => { e with val := v }) (x := x) (v := V) (n := n.toNat) hs hr hf (j := j) (fun e he => by
      rw [he'] at he; cases he
      exact ⟨hke, hv, by rw [hbn]; omega⟩)
    obtain ⟨C', hw, hH, hI', he', hU⟩ := mp_write (P := P) (c' := c) hI hx hb hh h1 h2
    refine ⟨C', ?_, hH, hI', he', hU⟩
    simp only [Instr.entryStore, Sem.run_bind, MapKept.run_getObj_map hh, Result.andThen_ok, asInt, asIntOf, Sem.run_pure, hfi]
    exact hw
  · cases h

theorem delete_sim {t ty : TypeId} {ts : Array TypeId} {M I : AV} {H' : Hp} {u i : Value} (hI : Inv C) (h : deleteO P C.H t M I = some H') (hts : ts[0]? = some t) (hu : Rep C M u) (hi : Rep C I i) :
    ∃ C', (Builtin.delete_ ts ty #[u, i]).run P C.w = .ok (.tuple #[]) C'.w ∧ C'.H = H' ∧ Inv C' ∧ Ext C C' ∧ C'.U = C.U := by
  unfold deleteO at h
  simp only [Option.bind_eq_bind, Option.bind_eq_some_iff] at h
  obtain ⟨⟨k, e⟩, ht, sh, hsh, ⟨o, es, c⟩, hm, h⟩ := h
  obtain ⟨rfl, hx⟩ := mapO_some hm
  obtain ⟨b, S, es', rfl, hb, hh, hs, hr⟩ := mp_mem hI hx hu
  split at h
  · rename_i x
    split at h
    · rename_i hf
      obtain ⟨V, _, hV, _, _⟩ := key_val hsh hf
      obtain rfl := vOf_rep hV hi.dinv
      simp only [Builtin.delete_, hts, List.getElem?_toArray, List.getElem?_cons_zero, List.getElem?_cons_succ, Sem.run_bind, und_run (tmap_und ht), Result.andThen_ok, MapKept.run_getObj_map hh, checkKey_ok hsh hf hV, findKey_ok hsh hf hV C.w (keysOk_of hs hr)]
      split at h
      · rename_i j v0 n hq
        cases h
        rw [hq]
        obtain ⟨k', hk', _⟩ := found_key (es := es) hf hV hq
        simp only [Nat.sub_zero] at hk'
        obtain ⟨hf', e', he', _⟩ := hr _ _ _ _ hk'
        have hjl : j < es'.size := (Array.getElem?_eq_some_iff.1 he').1
        simp only [found, Nat.sub_zero, Array.getElem?_toList, he', Option.map_some]
        obtain ⟨C', hw, hH, hI', hE, hU⟩ := mp_write (P := P) (c' := c) (fs := es.eraseIdx j) (fs' := es'.eraseIdxIfInBounds j) hI hx hb hh (by
            rw [Array.eraseIdxIfInBounds, dif_pos hjl, Array.size_eraseIdx, List.length_eraseIdx_of_lt (by omega)]; omega) (fun i k v m hi => by
          rw [List.getElem?_eraseIdx] at hi
          rw [Array.eraseIdxIfInBounds, dif_pos hjl, Array.getElem?_eraseIdx]
          split at hi
          · rename_i hlt; rw [if_pos hlt]; exact hr _ _ _ _ hi
          · rename_i hlt; rw [if_neg hlt]; exact hr _ _ _ _ hi)
        exact ⟨C', by rw [Sem.run_bind, hw]; simp only [Result.andThen_ok, Sem.run_pure], hH, hI', hE, hU⟩
      · rename_i hq
        cases h
        rw [hq]
        simp only [found]
        obtain ⟨C', hw, hH, hI', hE, hU⟩ := mp_write (P := P) (c' := c) (fs := es) (fs' := es') hI hx hb hh hs hr
        refine ⟨C', by rw [Sem.run_bind, hw]; simp only [Result.andThen_ok, Sem.run_pure], ?_, hI', hE, hU⟩
        rw [hH]
        funext p
        simp only [upd]
        split
        · rename_i e; rw [e, hx]
        · rfl
    · cases h
  · cases h

theorem mapLen_sim {t ty : TypeId} {ts : Array TypeId} {M r : AV} {u : Value} (hI : Inv C) (h : mapLen P C.H t M = some r) (hts : ts[0]? = some t) (hu : Rep C M u) : ∃ z, (Builtin.len_ ts ty #[u]).run P C.w = .ok z C.w ∧ Rep C r z := by
  unfold mapLen at h
  split at h
  · rename_i o
    split at h
    · rename_i hk
      simp only [Option.bind_eq_some_iff] at h
      obtain ⟨x, hx, h⟩ := h
      split at h
      · rename_i sh es c
        cases h
        obtain ⟨b, S, es', rfl, hb, hh, hs, hr⟩ := mp_mem hI hx hu
        obtain ⟨k, e, hd⟩ : ∃ k e, P.underlying t = some (.map k e) := by unfold tkind at hk; split at hk <;> first | exact ⟨_, _, by assumption⟩ | cases hk
        refine ⟨.int .i64 es.length, ?_, .d _ _ (.int _ _)⟩
        simp only [Builtin.len_, List.getElem?_toArray, hts, List.getElem?_cons_zero, Sem.run_bind, und_run hd, Result.andThen_ok, MapKept.run_getObj_map hh, goInt, hs, Sem.run_pure]
      · cases h
    · cases h
  · cases h

/-! ### copy, clear -/
theorem hput_sim (hI : Inv C) {o : Oid} {ver off : Nat} {xs : List AV} {H' : Hp} (h : Hput C.H o ver off xs = some H') {A : Option Addr} {cap len sz : Nat} (hl : len ≤ cap) (hpos : 0 < len)
    (hs : ∀ x, C.H o = some x → x.cs.length = ver → SlAt (C.ρ o) off sz A cap) {vs : Array Value} (hv : CellsOk C xs vs) :
    ∃ C' b, A = some ⟨b, off, none⟩ ∧ (storeCells ⟨b, off, none⟩ vs.toList).run P C.w = .ok () C'.w ∧ C'.H = H' ∧ Inv C' ∧ Ext C C' ∧ C'.U = C.U := by
  unfold Hput at h
  simp only [Option.bind_eq_bind, Option.bind_eq_some_iff] at h
  obtain ⟨x, hx, h⟩ := h
  split at h
  · rename_i hq
    simp only [Bool.and_eq_true, decide_eq_true_eq, Bool.not_eq_true'] at hq
    obtain ⟨⟨⟨hrow, hz⟩, hver⟩, hfit⟩ := hq
    cases h
    have hsl := hs x hx hver
    unfold SlAt at hsl
    split at hsl
    · omega
    · rename_i b S hb
      obtain ⟨hS, hA, _⟩ := hsl
      obtain ⟨c, tt, hh, hcs, hlS, hm⟩ := row_mem hI hx hrow hb
      obtain ⟨hI2, he2⟩ := row_splice hI hx hrow hz hb hh hv (off := off) (by omega)
      refine ⟨_, b, hA (by omega), ?_, rfl, hI2, he2, rfl⟩
      have hone : ∀ v ∈ vs.toList, v.oneCell' = true := by
        intro v hv'
        obtain ⟨j, hj, rfl⟩ := List.getElem_of_mem hv'
        have := hv.2.1 j (by simpa using hj)
        rw [Array.getD_eq_getD_getElem?, Array.getElem?_eq_getElem (by simpa using hj)] at this
        simpa using this
      have hst := run_storeCells_at P b off tt vs.toList 0 c C.w hh (by have := hv.1; simp; omega) hone
      simpa only [Nat.add_zero, Array.length_toList] using hst
  · cases h

theorem take_cells {n k m : Nat} {cs : List AV} {us : List Value} (hu : us.length = cs.length) (h1 : ∀ v ∈ us, v.oneCell' = true) (hr : ∀ j x, cs[j]? = some x → Rep C x (us.getD j undef)) : CellsOk C (cs.take m) (us.take m).toArray := by
  refine ⟨by simp [hu], fun j hj => ?_, fun j x hx => ?_⟩
  · have hq : (us.take m).toArray.getD j undef ∈ us.take m := by
      have hj' : j < (us.take m).length := by simpa using hj
      rw [Array.getD_eq_getD_getElem?, List.getElem?_toArray, List.getElem?_eq_getElem hj']
      exact List.getElem_mem hj'
    exact h1 _ (List.mem_of_mem_take hq)
  · rw [List.getElem?_take] at hx
    split at hx
    · rename_i hj
      have := hr j x hx
      rw [Array.getD_eq_getD_getElem?, List.getElem?_toArray, List.getElem?_take, if_pos hj, ← List.getD_eq_getElem?_getD]
      exact this
    · cases hx

theorem copySrc_sim {n k : Nat} {Y : AV} {cs : List AV} {u : Value} (hI : Inv C) (h : copySrc P C.H n Y = some (cs, k)) (hu : Rep C Y u) :
    ∃ us : List Value, us.length = cs.length ∧ (∀ v ∈ us, v.oneCell' = true) ∧ (∀ j x, cs[j]? = some x → Rep C x (us.getD j undef)) ∧ cs.length = k * n ∧ (∀ w, (Builtin.lenOf u).run P w = .ok k w) ∧
      ∀ m, m ≤ k → (Builtin.firstCells n m u).run P C.w = .ok (us.take (m * n)).toArray C.w := by
  unfold copySrc at h
  split at h
  · rename_i o off len sz ver
    simp only [Option.bind_eq_bind, Option.bind_eq_some_iff] at h
    obtain ⟨x, hx, h⟩ := h
    split at h
    · rename_i hc
      simp only [Bool.and_eq_true, decide_eq_true_eq] at hc
      obtain ⟨⟨⟨hrow, hver⟩, hfit⟩, rfl⟩ := hc
      cases h
      have hcl : ((x.cs.drop off).take (k * sz)).length = k * sz := by simp; omega
      cases hu with
      | osl _ _ _ _ _ cap A hlc hU hv hs =>
        have hsl := hs x hx hver
        unfold SlAt at hsl
        split at hsl
        · have hc0 : cap = 0 := hsl.1
          have : k = 0 := by omega
          subst this
          refine ⟨[], by rw [hcl]; simp, fun v hv => by simp at hv, fun j x hj => by simp at hj, hcl, fun w => rfl, fun m hm => ?_⟩
          obtain rfl : m = 0 := by omega
          rw [hsl.2]
          simp [Builtin.firstCells]
        · rename_i b S hρ
          obtain ⟨hS, hA, hA2⟩ := hsl
          obtain ⟨c, tt, hh, hcsz, hle, hmem⟩ := row_mem hI hx hrow hρ
          have hmem2 := hmem.drop off
          rw [add_at, Nat.zero_add] at hmem2
          have hget : ∀ j, j < k * sz → ((List.range (k * sz)).map fun j => c.getD (off + j) undef).getD j undef = c.getD (off + j) undef := fun j hj => by simp [List.getD_eq_getElem?_getD, hj]
          refine ⟨(List.range (k * sz)).map fun j => c.getD (off + j) undef, by rw [hcl]; simp, fun v hv => ?_, fun j y hy => ?_, hcl, fun w => rfl, fun m hm => ?_⟩
          · obtain ⟨j, hj, rfl⟩ := List.mem_map.1 hv
            exact hmem2.one j (by simp at hj ⊢; omega)
          · have hj := (List.getElem?_eq_some_iff.1 hy).1
            rw [hcl] at hj
            rw [hget j hj]
            rw [List.getElem?_take, if_pos hj] at hy
            exact hmem2.rep j _ hy
          · have hmk : m * sz ≤ k * sz := Nat.mul_le_mul_right _ hm
            refine firstCells_run (C := C) (by rw [List.length_take, List.length_map, List.length_range]; omega) (fun hne => ?_) _ _ C.w (fun _ _ h => h)
            have hpos : 0 < m := by
              cases m with
              | zero => simp at hne
              | succ => omega
            refine ⟨⟨b, off, none⟩, hA (by omega), fun j hj => ?_⟩
            rw [List.length_take, List.length_map, List.length_range] at hj
            have e : (((List.range (k * sz)).map fun j => c.getD (off + j) undef).take (m * sz)).getD j undef = c.getD (off + j) undef := by
              rw [List.getD_eq_getElem?_getD, List.getElem?_take, if_pos (by omega), ← List.getD_eq_getElem?_getD]
              exact hget j (by omega)
            rw [e]
            exact hmem2.at_ j (by simp; omega)
    · cases h
  · rename_i cs0 len full nl
    split at h
    · rename_i hc
      cases h
      cases hu.dinv with
      | sl _ _ cap _ _ a vs hlc hf h1 hrr hcc hnl =>
        have hget : ∀ j, j < cs0.length → ((List.range cs0.length).map vs).getD j undef = vs j := fun j hj => by simp [List.getD_eq_getElem?_getD, hj]
        refine ⟨(List.range cs0.length).map vs, by simp, fun v hv => ?_, fun j y hy => ?_, by simpa using hc, fun w => rfl, fun m hm => ?_⟩
        · obtain ⟨j, hj, rfl⟩ := List.mem_map.1 hv
          exact h1 j (by simpa using hj)
        · simp only [List.getElem?_map, Option.map_eq_some_iff] at hy
          obtain ⟨z, hz, rfl⟩ := hy
          rw [hget j (List.getElem?_eq_some_iff.1 hz).1]
          exact .d _ _ (hrr j z hz)
        · have hmk : m * n ≤ k * n := Nat.mul_le_mul_right _ hm
          refine firstCells_run (C := C) (by rw [List.length_take, List.length_map, List.length_range]; omega) (fun hne => ?_) _ _ C.w (fun _ _ h => h)
          obtain ⟨ad, ha, _, hcell⟩ := hcc (by intro e; subst e; simp at hne)
          refine ⟨ad, ha, fun j hj => ?_⟩
          rw [List.length_take, List.length_map, List.length_range] at hj
          have e : (((List.range cs0.length).map vs).take (m * n)).getD j undef = vs j := by
            rw [List.getD_eq_getElem?_getD, List.getElem?_take, if_pos (by omega), ← List.getD_eq_getElem?_getD]
            exact hget j (by omega)
          rw [e]
          exact hcell j (by omega)
    · cases h
  · cases h

theorem copy_sim {t ty : TypeId} {ts : Array TypeId} {X Y r : AV} {H' : Hp} {u v : Value} (hI : Inv C) (h : copyO P C.H t X Y = some (r, H')) (hts : ts[0]? = some t) (hu : Rep C X u) (hv : Rep C Y v) :
    ∃ C' z, (Builtin.copy_ ts ty #[u, v]).run P C.w = .ok z C'.w ∧ Rep C' r z ∧ C'.H = H' ∧ Inv C' ∧ Ext C C' ∧ C'.U = C.U := by
  unfold copyO at h
  simp only [Option.bind_eq_bind, Option.bind_eq_some_iff] at h
  obtain ⟨e, he, n, hn, ⟨cs, k⟩, hsrc, h⟩ := h
  obtain ⟨us, hul, hu1, hur, hcl, hlen, hfirst⟩ := copySrc_sim hI hsrc hv
  split at h
  · rename_i o off len sz ver
    split at h
    · rename_i hsz
      subst hsz
      cases hu with
      | osl _ _ _ _ _ cap A hlc hU hvv hs =>
        have hf := hfirst (min k len) (Nat.min_le_left _ _)
        split at h
        · rename_i h0
          cases h
          rw [h0, Nat.zero_mul, List.take_zero] at hf
          refine ⟨C, .int .i64 0, ?_, .d _ _ (.int _ _), rfl, hI, .refl hI, rfl⟩
          simp only [Builtin.copy_, hts, List.getElem?_toArray, List.getElem?_cons_zero, List.getElem?_cons_succ, Sem.run_bind, und_run (elem_und he), Result.andThen_ok, hlen, size_run hn, h0, hf]
          cases A <;> simp [storeCells, goInt]
        · rename_i h0
          simp only [Option.map_eq_some_iff, Prod.mk.injEq] at h
          obtain ⟨H1, hput, rfl, rfl⟩ := h
          obtain ⟨C', b, rfl, hst, hH, hI', hE, hU'⟩ := hput_sim (P := P) hI hput hlc (by omega) hs (take_cells (n := 0) (k := 0) hul hu1 hur)
          refine ⟨C', .int .i64 (min k len : Nat), ?_, .d _ _ (.int _ _), hH, hI', hE, hU'⟩
          simp only [Builtin.copy_, hts, List.getElem?_toArray, List.getElem?_cons_zero, List.getElem?_cons_succ, Sem.run_bind, und_run (elem_und he), Result.andThen_ok, hlen, size_run hn, hf, hst, goInt, Sem.run_pure]
    · cases h
  · cases h

theorem clear_sim {t ty : TypeId} {ts : Array TypeId} {X : AV} {H' : Hp} {u : Value} (hI : Inv C) (h : clearO P C.H t X = some H') (hts : ts[0]? = some t) (hu : Rep C X u) :
    ∃ C', (Builtin.clear_ ts ty #[u]).run P C.w = .ok (.tuple #[]) C'.w ∧ C'.H = H' ∧ Inv C' ∧ Ext C C' ∧ C'.U = C.U := by
  unfold clearO at h
  split at h
  · rename_i o off len sz ver
    simp only [Option.bind_eq_bind, Option.bind_eq_some_iff] at h
    obtain ⟨e, he, n, hn, z, hz, h⟩ := h
    split at h
    · rename_i hc
      obtain ⟨rfl, hzl, hn0⟩ := hc
      cases hu with
      | osl _ _ _ _ _ cap A hlc hU hvv hs =>
        split at h
        · rename_i h0
          cases h
          subst h0
          refine ⟨C, ?_, rfl, hI, .refl hI, rfl⟩
          cases A <;> simp [Builtin.clear_, hts, und_run (elem_und he)]
        · rename_i h0
          obtain ⟨v, hv, hvs, hck⟩ := zeros_ok (C := C) hz hzl hn0 len
          obtain ⟨C', b, rfl, hst, hH, hI', hE, hU'⟩ := hput_sim (P := P) hI h hlc (by omega) hs hck
          refine ⟨C', ?_, hH, hI', hE, hU'⟩
          have e0 : Builtin.zeroCells v.cells len = (Array.range (len * sz)).map (v.cells[· % v.cells.size]!) := by rw [Builtin.zeroCells, hvs]
          obtain ⟨l, rfl⟩ : ∃ l, len = l + 1 := ⟨len - 1, by omega⟩
          simp only [Builtin.clear_, hts, List.getElem?_toArray, List.getElem?_cons_zero, Sem.run_bind, und_run (elem_und he), Result.andThen_ok, hv, e0, hst, Sem.run_pure]
    · cases h
  · rename_i cs full nl
    simp only [Option.map_eq_some_iff] at h
    obtain ⟨e, he, h⟩ := h
    cases h
    cases hu.dinv with
    | sl _ _ cap _ _ a vs hlc hf h1 hrr hcc hnl =>
      refine ⟨C, ?_, rfl, hI, .refl hI, rfl⟩
      cases a <;> simp [Builtin.clear_, hts, und_run (elem_und he)]
  · cases h
end
end Go.Proofs.Ytiafeijkifpfaaa.Am

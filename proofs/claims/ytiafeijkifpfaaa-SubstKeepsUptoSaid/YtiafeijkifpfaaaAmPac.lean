/-
  Joined texts: Am4. No condition.
-/
import Derived.Test.YtiafeijkifpfaaaAmPab
import Derived.Laws.Entries
import Derived.Laws.Cells
/-
 The abstract machine: its operations on values are the machine's. No condition.
-/
namespace Go.Proofs.Ytiafeijkifpfaaa.Am
open Go
theorem Rep.dinv {C : Cx} {x : D} {v : Value} (h : Rep C (.d x) v) : RepD C.F C.w x v := by cases h; assumption
theorem liftV0_rep (C : Cx) (v : Value) : Rep C (liftV0 v) v := by
 unfold liftV0
 split
 ·exact .d _ _ (.int _ _)
 ·exact .d _ _ (.bool _)
 ·exact .d _ _ (.str _)
 ·exact .d _ _ (.sl [] 0 0 true (some true) none (fun _ => undef) (Nat.le_refl _) (fun _ => rfl) (fun j h => by simp at h) (fun j x h => by simp at h) (fun h => absurd rfl h) (fun b h => by cases h; rfl))
 ·exact .d _ _ .nilptr
 ·exact .d _ _ .nilmap
 ·exact .d _ _ .nilfn
 ·exact .junk _
theorem liftV0_one {v : Value} {x : D} (h : liftV0 v = .d x) : v.oneCell' = true := by
 unfold liftV0 at h
 split at h <;> first | rfl | cases h
theorem aggV_rep (C : Cx) : ∀ (l : List Value) (ds : List D), aggV l = some ds → l.length = ds.length ∧ (∀ v ∈ l, v.oneCell' = true) ∧ ∀ j x, ds[j]? = some x → RepD C.F C.w x (l.getD j undef) := by
 intro l
 induction l with
 | nil => intro ds h; simp only [aggV, Option.some.injEq] at h; subst h; simp
 | cons v r ih =>
  intro ds h
  simp only [aggV] at h
  have hr := liftV0_rep C v
  cases hv : liftV0 v <;> rw [hv] at h hr <;> cases hq : aggV r <;> rw [hq] at h <;> try (cases h; done)
  rename_i x q
  simp only [consD, Option.some.injEq] at h
  subst h
  obtain ⟨h3, h4, h5⟩ := ih q hq
  refine ⟨by simp [h3], fun u hu => ?_, fun j y hy => ?_⟩
  ·rcases List.mem_cons.1 hu with rfl | hu
   ·exact liftV0_one hv
   ·exact h4 u hu
  ·cases j with
   | zero => simp at hy; subst hy; simpa using hr.dinv
   | succ j => simpa using h5 j y (by simpa using hy)
theorem liftV_rep (C : Cx) (v : Value) : Rep C (liftV v) v := by
 unfold liftV
 split
 ·rename_i cs
  cases hl : aggV cs.toList with
  | none => exact .junk _
  | some l =>
   obtain ⟨h1, h2, h3⟩ := aggV_rep C _ _ hl
   refine .d _ _ (.agg l cs (by simpa using h1) (fun j hj => ?_) (fun j x hx => ?_))
   ·rw [Array.getD_eq_getD_getElem?, Array.getElem?_eq_getElem hj, Option.getD_some]
    exact h2 _ (by simp)
   ·have := h3 j x hx
    rw [List.getD_eq_getElem?_getD] at this
    rw [Array.getD_eq_getD_getElem?]
    simpa using this
 ·exact liftV0_rep C v
structure TmOk (C : Cx) (tm : List AV) (a : Act) : Prop where
 size : a.tmps.size = tm.length
 rep : ∀ j x, tm[j]? = some x → Rep C x (a.tmps.getD j undef)
theorem TmOk.getD {C : Cx} {tm : List AV} {a : Act} (h : TmOk C tm a) (t : Nat) : Rep C (tm.getD t .junk) (a.tmps.getD t undef) := by
 cases hx : tm[t]? with
 | none => rw [List.getD_eq_getElem?_getD, hx]; exact .junk _
 | some x => rw [List.getD_eq_getElem?_getD, hx]; exact h.rep t x hx
theorem TmOk.ev {C : Cx} {tm : List AV} {a : Act} (h : TmOk C tm a) (x : Operand) : Rep C (ev tm x) (a.eval x) := by
 cases x with
 | tmp t => exact h.getD t
 | const v => exact liftV_rep C v
 | global g => exact .junk _
 | func f =>
  simp only [Am.ev]
  split
  ·rename_i hlt; exact .d _ _ (.fn f hlt [] #[] rfl (fun j x hx => by simp at hx))
  ·exact .junk _
theorem TmOk.put {C : Cx} {st : St} {a : Act} {dst : Option Tmp} {x : AV} {v : Value} (h : TmOk C st.tm a) (hx : Rep C x v) : TmOk C (put st dst x).tm (a.put dst v) := by
 cases dst with
 | none => exact h
 | some d =>
  refine ⟨by simp [Am.put, Act.put, h.size], fun j y hy => ?_⟩
  simp only [Am.put, Act.put] at hy ⊢
  rw [List.getElem?_set] at hy
  by_cases e : d = j
  ·subst e
   rw [if_pos rfl] at hy
   split at hy
   ·rename_i hl
    obtain rfl := Option.some.inj hy
    have hs : d < a.tmps.size := by rw [h.size]; exact hl
    simpa [Array.getElem?_setIfInBounds, hs] using hx
   ·cases hy
  ·rw [if_neg e] at hy
   have := h.rep j y hy
   have e2 : (a.tmps.setIfInBounds d v).getD j undef = a.tmps.getD j undef := by
    simp [e]
   rw [e2]; exact this
theorem TmOk.ext {C C' : Cx} {tm : List AV} {a : Act} (hI : Inv C) (he : Ext C C') (h : TmOk C tm a) : TmOk C' tm a :=
 ⟨h.size, fun j x hx => (h.rep j x hx).ext hI he⟩
theorem getD_cells {F : Nat → Prop} {w : World} {cs : List D} {arr : Array Value} (hn : arr.size = cs.length) (hr : ∀ j x, cs[j]? = some x → RepD F w x (arr.getD j undef)) (j : Nat) (x : D) (h : cs[j]? = some x) :
  ∃ v, arr[j]? = some v ∧ RepD F w x v := by
 have hl : j < arr.size := by rw [hn]; exact (List.getElem?_eq_some_iff.1 h).1
 have := hr j x h
 rw [Array.getD_eq_getD_getElem?, Array.getElem?_eq_getElem hl] at this
 exact ⟨arr[j], Array.getElem?_eq_getElem hl, this⟩
def CellsOk (C : Cx) (cs : List AV) (arr : Array Value) : Prop := arr.size = cs.length ∧ (∀ j, j < arr.size → (arr.getD j undef).oneCell' = true) ∧ ∀ j x, cs[j]? = some x → Rep C x (arr.getD j undef)
def isTup : AV → Bool
 | .tup _ | .d (.tup _) | .junk => true
 | _ => false
theorem cellsOf_ok {C : Cx} {x : AV} {v : Value} (h : Rep C x v) (ht : isTup x = false) : CellsOk C (cellsOf x) v.cells := by
 have one : ∀ (x : AV) (v : Value), v.oneCell' = true → Rep C x v → CellsOk C [x] #[v] := fun x v h1 h => by
  refine ⟨rfl, fun j hj => ?_, fun j y hy => ?_⟩
  ·obtain rfl : j = 0 := by simpa using hj
   exact h1
  ·cases j with
   | zero => simp at hy; subst hy; simpa using h
   | succ j => simp at hy
 cases h with
 | d x v h =>
  cases h with
  | agg cs arr hn h1 hr =>
   refine ⟨by simp [cellsOf, Value.cells, hn], h1, fun j y hy => ?_⟩
   simp only [cellsOf, List.getElem?_map, Option.map_eq_some_iff] at hy
   obtain ⟨z, hz, rfl⟩ := hy
   exact .d _ _ (hr j z hz)
  | tup => cases ht
  | int k n => exact one _ _ rfl (.d _ _ (.int k n))
  | bool b => exact one _ _ rfl (.d _ _ (.bool b))
  | str s => exact one _ _ rfl (.d _ _ (.str s))
  | sl cs len cap full nl a vs hl hf h1 hr hc hnl => exact one _ _ rfl (.d _ _ (.sl cs len cap full nl a vs hl hf h1 hr hc hnl))
  | dptr cs ad vs h1 hr hF hc => exact one _ _ rfl (.d _ _ (.dptr cs ad vs h1 hr hF hc))
  | nilptr => exact one _ _ rfl (.d _ _ .nilptr)
  | nilmap => exact one _ _ rfl (.d _ _ .nilmap)
  | nilfn => exact one _ _ rfl (.d _ _ .nilfn)
  | fn f hlt cs arr hn hr => exact one _ _ rfl (.d _ _ (.fn f hlt cs arr hn hr))
  | bnd g f hlt hg cs arr hn hr => exact one _ _ rfl (.d _ _ (.bnd g f hlt hg cs arr hn hr))
 | agg cs arr hn h1 hr => exact ⟨hn, h1, hr⟩
 | osl o off len sz ver cap A hl hU hv h => exact one _ _ rfl (.osl o off len sz ver cap A hl hU hv h)
 | vsl o off len sz ver cap A hl hU hv h => exact one _ _ rfl (.vsl o off len sz ver cap A hl hU hv h)
 | ptr o off ver a hU hv h => exact one _ _ rfl (.ptr o off ver a hU hv h)
 | fn f hlt cs arr hn hr => exact one _ _ rfl (.fn f hlt cs arr hn hr)
 | bnd g f hlt hg cs arr hn hr => exact one _ _ rfl (.bnd g f hlt hg cs arr hn hr)
 | map o b hU h => exact one _ _ rfl (.map o b hU h)
 | yld o b hU h => exact one _ _ rfl (.yld o b hU h)
 | tup => cases ht
 | junk => cases ht
theorem allD_some {cs : List AV} {ds : List D} (h : allD cs = some ds) : cs = ds.map .d := by
 induction cs generalizing ds with
 | nil => simp [allD] at h; subst h; rfl
 | cons v r ih =>
  cases v with
  | d x =>
   simp only [allD, Option.map_eq_some_iff] at h
   obtain ⟨es, he, rfl⟩ := h
   simp [ih he]
  | _ => cases h
theorem mkAgg_rep {C : Cx} {cs : List AV} {arr : Array Value} (h : CellsOk C cs arr) : Rep C (mkAgg cs) (.agg arr) := by
 unfold mkAgg
 split
 ·rename_i ds hd
  obtain rfl := allD_some hd
  refine .d _ _ (.agg ds arr (by simpa using h.1) h.2.1 fun j x hx => ?_)
  exact (h.2.2 j (.d x) (by simp [hx])).dinv
 ·exact .agg cs arr h.1 h.2.1 h.2.2
theorem mkTup_rep {C : Cx} {cs : List AV} {arr : Array Value} (h : arr.size = cs.length ∧ ∀ j x, cs[j]? = some x → Rep C x (arr.getD j undef)) : Rep C (mkTup cs) (.tuple arr) := by
 unfold mkTup
 split
 ·rename_i ds hd
  obtain rfl := allD_some hd
  refine .d _ _ (.tup ds arr (by simpa using h.1) fun j x hx => ?_)
  exact (h.2 j (.d x) (by simp [hx])).dinv
 ·exact .tup cs arr h.1 h.2
section
variable {P : Program}
theorem und_run {t : TypeId} {d : TypeDesc} (h : P.underlying t = some d) (w : World) : (underlying t).run P w = .ok d w := run_underlying h w
theorem size_run {t : TypeId} {n : Nat} (h : tsize P t = some n) (w : World) : (sizeOf t).run P w = .ok n w := by
 unfold tsize at h
 simp only [Option.map_eq_some_iff] at h
 obtain ⟨i, hi, rfl⟩ := h
 simp [sizeOf, typeInfo, hi]
theorem agg_run {t : TypeId} {b : Bool} (h : tagg P t = some b) (w : World) : (isAgg t).run P w = .ok b w := by
 cases hd : P.underlying t with
 | none => rw [tagg, hd] at h; cases h
 | some d =>
  simp only [isAgg, Sem.run_bind, und_run hd, Result.andThen_ok]
  rw [tagg, hd] at h
  cases d <;> (cases h; rfl)
end
end Go.Proofs.Ytiafeijkifpfaaa.Am


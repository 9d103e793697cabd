/-
  Joined texts: Am15. No condition.
-/
import Derived.Test.YtiafeijkifpfaaaAmPaf
import Derived.RangeFuncIn
import Derived.RangeFuncRecord
/-
 The abstract machine: operations on objects and calls are the machine's. No condition.
-/
namespace Go.Proofs.Ytiafeijkifpfaaa.Am
open Go
set_option linter.unusedVariables false
section
variable {P : Program} {C : Cx}
theorem repO {tm : List AV} {a : Act} (hT : TmOk C tm a) (x : Option Operand) : RepO C (x.map (ev tm)) (x.map a.eval) := by
 cases x with
 | none => exact trivial
 | some x => exact hT.ev x
theorem rep_tup0 (C : Cx) : Rep C (.d (.tup [])) (.tuple #[]) := .d _ _ (.tup [] #[] rfl (fun j x hx => by simp at hx))
theorem heap_sim {tm : List AV} {a : Act} {op : Op} {id : Nat} {r : AV} {H' : Hp} (hI : Inv C) (hid : ∀ j, ¬ C.U (id, j)) (hT : TmOk C tm a) (h : heapOp P (ev tm) C.H id op = some (r, H')) (o : Oper) (ho : o.op = op) :
  ∃ C' : Cx, Stepped C C' C'.w H' id ∧ ((∃ z, (execOp a.eval o).run P C.w = .ok (.value z) C'.w ∧ Rep C' r z) ∨ ((execOp a.eval o).run P C.w = .ok .skip C'.w ∧ r = .junk)) := by
 subst ho
 unfold heapOp at h
 unfold execOp
 split at h
 ·rename_i t x ho
  rw [ho]
  simp only [Option.map_eq_some_iff] at h
  obtain ⟨y, hy, h⟩ := h
  cases h
  obtain ⟨z, hz, hr⟩ := load_sim hI hy (hT.ev x)
  exact ⟨C, ⟨rfl, rfl, hI, .refl hI, fun o ho => .inl ho⟩, .inl ⟨z, by simp only [Sem.run_bind, hz, Result.andThen_ok, Sem.run_pure], hr⟩⟩
 ·rename_i t x lo hi mx ho
  rw [ho]
  simp only [Option.map_eq_some_iff] at h
  obtain ⟨y, hy, h⟩ := h
  cases h
  obtain ⟨z, hz, hr⟩ := sliceD_sim hI hy (hT.ev x) (repO hT lo) (repO hT hi) (repO hT mx)
  exact ⟨C, ⟨rfl, rfl, hI, .refl hI, fun o ho => .inl ho⟩, .inl ⟨z, by simp only [Sem.run_bind, hz, Result.andThen_ok, Sem.run_pure], hr⟩⟩
 ·rename_i t x i ho
  rw [ho]
  simp only [Option.map_eq_some_iff] at h
  obtain ⟨y, hy, h⟩ := h
  cases h
  obtain ⟨z, hz, hr⟩ := idxAddr_sim hI hy (hT.ev x) (hT.ev i)
  exact ⟨C, ⟨rfl, rfl, hI, .refl hI, fun o ho => .inl ho⟩, .inl ⟨z, by simp only [Sem.run_bind, hz, Result.andThen_ok, Sem.run_pure], hr⟩⟩
 ·rename_i t x v ho
  rw [ho]
  simp only [Option.map_eq_some_iff] at h
  obtain ⟨y, hy, h⟩ := h
  cases h
  obtain ⟨C', hr, hH, hI', he, hu⟩ := storeO_sim hI (fun j => hid (j + 1)) hy (hT.ev x) (hT.ev v)
  exact ⟨C', ⟨rfl, hH, hI', he, hu⟩, .inr ⟨by simp only [Sem.run_bind, hr, Result.andThen_ok, Sem.run_pure], rfl⟩⟩
 ·rename_i t ho
  rw [ho]
  simp only [Option.bind_eq_bind, Option.bind_eq_some_iff] at h
  obtain ⟨cs, hcs, h⟩ := h
  cases h
  obtain ⟨v, hv, rfl, h1⟩ := zero_run hcs C.w
  obtain ⟨C', z, hz, hr, hs⟩ := alloc_sim (P := P) (t := t) (v := v) hI hid (lift_ok (C := C) v.cells h1)
  refine ⟨C', hs, .inl ⟨z, ?_, hr⟩⟩
  simp only [Sem.run_bind, Sem.run_pure] at hz
  simp only [Instr.alloc, Sem.run_bind, hv, Result.andThen_ok, hz, Sem.run_pure]
 ·rename_i t x ho
  rw [ho]
  simp only [Option.bind_eq_bind, Option.bind_eq_some_iff] at h
  obtain ⟨n, hn, h⟩ := h
  split at h
  ·rename_i hc
   obtain ⟨hc1, hc2⟩ := hc
   cases h
   have ht : isTup (ev tm x) = false := by
    cases hq : ev tm x with
    | d y => cases y <;> first | rfl | (rw [hq] at hc1; simp [cellsOf] at hc1; omega)
    | _ => first | rfl | (rw [hq] at hc1; simp [cellsOf] at hc1; omega)
   obtain ⟨C', z, hz, hr, hs⟩ := alloc_sim (P := P) (t := t) hI hid (cellsOf_ok (hT.ev x) ht)
   refine ⟨C', hs, .inl ⟨z, ?_, hr⟩⟩
   simp only [Sem.run_bind, Sem.run_pure] at hz
   simp only [Instr.box, Sem.run_bind, hz, Result.andThen_ok, Sem.run_pure]
  ·cases h
 ·rename_i t len ps ho
  rw [ho]
  simp only [Option.bind_eq_bind, Option.bind_eq_some_iff] at h
  obtain ⟨e, he, n, hn, z, hz, h⟩ := h
  split at h
  ·rename_i hc0
   obtain ⟨_, rfl, hps⟩ := hc0
   cases h
   have hps : ps = #[] := by simpa using hps
   subst hps
   obtain ⟨C', v, hv, hr, hs⟩ := buildSlice0_sim (P := P) (t := t) hI hid he hn
   exact ⟨C', hs, .inl ⟨v, by simp only [List.map_toArray, List.map_nil, Sem.run_bind, hv, Result.andThen_ok, Sem.run_pure], hr⟩⟩
  split at h
  ·cases h
  rename_i hc
  simp only [Option.bind_eq_some_iff] at h
  obtain ⟨cs, hcs, h⟩ := h
  cases h
  obtain ⟨C', v, hv, hr, hs⟩ := buildSlice_sim (us := ps.map fun (i, x) => (i, a.eval x)) hI hid he hn hz hc hcs (by simp) (fun j p hj => by
   simp only [List.getElem?_map, Option.map_eq_some_iff] at hj
   obtain ⟨q, hq, rfl⟩ := hj
   refine ⟨a.eval q.2, ?_, hT.ev q.2⟩
   simp only [Array.getElem?_toList] at hq
   simp [hq])
  exact ⟨C', hs, .inl ⟨v, by simp only [Sem.run_bind, hv, Result.andThen_ok, Sem.run_pure], hr⟩⟩
 ·rename_i t l c ho
  rw [ho]
  simp only [Option.bind_eq_bind, Option.bind_eq_some_iff] at h
  obtain ⟨e, he, n, hn, z, hz, h⟩ := h
  split at h
  ·rename_i ia ib hla hlb
   split at h
   ·rename_i hc
    cases h
    have r1 := hT.ev l
    have r2 := hT.ev c
    rw [hla] at r1
    rw [hlb] at r2
    have d1 := r1.dinv
    have d2 := r2.dinv
    generalize hu1 : a.eval l = u1 at d1
    generalize hu2 : a.eval c = u2 at d2
    cases d1
    cases d2
    obtain ⟨C', v, hv, hr, hs⟩ := makeSlice_sim hI hid he hn hz hc.2 hc.1
    exact ⟨C', hs, .inl ⟨v, by simp only [hu1, hu2, Sem.run_bind, hv, Result.andThen_ok, Sem.run_pure], hr⟩⟩
   ·cases h
  ·cases h
 ·rename_i op t x y yt ho
  rw [ho]
  split at h
  ·rename_i hk
   obtain ⟨hy0, hk⟩ := hk
   obtain rfl : y = .const (.slice none 0 0) := by unfold isNilC at hy0; split at hy0 <;> first | rfl | cases hy0
   simp only [Option.map_eq_some_iff, Option.bind_eq_some_iff] at h
   obtain ⟨y, ⟨b, hb, hy⟩, h⟩ := h
   cases h
   obtain ⟨z, hz, hr⟩ := nilCmp_sim (x := x) (y := .const (.slice none 0 0)) hI hk hb hy (hT.ev x)
   exact ⟨C, ⟨rfl, rfl, hI, .refl hI, fun o ho => .inl ho⟩, .inl ⟨z, by simp only [show a.eval (.const (.slice none 0 0)) = .slice none 0 0 from rfl, Sem.run_bind, hz, Result.andThen_ok, Sem.run_pure], hr⟩⟩
  ·cases h
 ·rename_i args ats ho
  rw [ho]
  split at h
  ·rename_i s x t t2 hargs hts
   obtain ⟨us, ux, hu, r1, r2⟩ := args2 hT hargs
   have hats : ats = #[t, t2] := by rw [← Array.toArray_toList (xs := ats), hts]
   subst hats
   obtain ⟨C', z, hz, hr, hs⟩ := appendO_sim (ty := o.type) hI hid h r1 r2
   exact ⟨C', hs, .inl ⟨z, by simp only [resolve, Sem.run_bind, Sem.run_pure, Result.andThen_ok, invoke, builtin, hu, hz], hr⟩⟩
  ·cases h
 ·rename_i t ho
  rw [ho]
  simp only [Option.bind_eq_bind, Option.bind_eq_some_iff] at h
  obtain ⟨⟨k, e⟩, ht, sh, hsh, h⟩ := h
  cases h
  obtain ⟨C', z, hz, hr, hs⟩ := makeMap_sim (P := P) hI hid ht hsh
  exact ⟨C', hs, .inl ⟨z, by simp only [Option.map_none, Sem.run_bind, hz, Result.andThen_ok, Sem.run_pure], hr⟩⟩
 ·rename_i t m i ok ho
  rw [ho]
  simp only [Option.map_eq_some_iff] at h
  obtain ⟨y, hy, h⟩ := h
  cases h
  obtain ⟨z, hz, hr⟩ := lookup_sim hI hy (hT.ev m) (hT.ev i)
  exact ⟨C, ⟨rfl, rfl, hI, .refl hI, fun o ho => .inl ho⟩, .inl ⟨z, by simp only [Sem.run_bind, hz, Result.andThen_ok, Sem.run_pure], hr⟩⟩
 ·rename_i t m i v ho
  rw [ho]
  simp only [Option.map_eq_some_iff] at h
  obtain ⟨y, hy, h⟩ := h
  cases h
  obtain ⟨C', hr, hH, hI', he, hu⟩ := mapUpdate_sim hI hy (hT.ev m) (hT.ev i) (hT.ev v)
  exact ⟨C', ⟨rfl, hH, hI', he, fun o ho => .inl (by rw [← hu]; exact ho)⟩, .inr ⟨by simp only [Sem.run_bind, hr, Result.andThen_ok, Sem.run_pure], rfl⟩⟩
 ·rename_i t m i ho
  rw [ho]
  obtain ⟨C', z, hz, hr, hH, hI', he, hu⟩ := mapEntry_sim hI h (hT.ev m) (hT.ev i)
  exact ⟨C', ⟨rfl, hH, hI', he, fun o ho => .inl (by rw [← hu]; exact ho)⟩, .inl ⟨z, by simp only [Sem.run_bind, hz, Result.andThen_ok, Sem.run_pure], hr⟩⟩
 ·rename_i t m s v ho
  rw [ho]
  simp only [Option.map_eq_some_iff] at h
  obtain ⟨y, hy, h⟩ := h
  cases h
  obtain ⟨C', hr, hH, hI', he, hu⟩ := entryStore_sim (t := t) hI hy (hT.ev m) (hT.ev s) (hT.ev v)
  exact ⟨C', ⟨rfl, hH, hI', he, fun o ho => .inl (by rw [← hu]; exact ho)⟩, .inr ⟨by simp only [Sem.run_bind, hr, Result.andThen_ok, Sem.run_pure], rfl⟩⟩
 ·rename_i args ats ho
  rw [ho]
  split at h
  ·rename_i m k t rest hargs hts
   obtain ⟨us, ux, hu, r1, r2⟩ := args2 hT hargs
   have hats : ats[0]? = some t := by rw [← Array.getElem?_toList, hts]; rfl
   simp only [Option.map_eq_some_iff] at h
   obtain ⟨y, hy, h⟩ := h
   cases h
   obtain ⟨C', hr, hH, hI', he, hu'⟩ := delete_sim (ty := o.type) hI hy hats r1 r2
   exact ⟨C', ⟨rfl, hH, hI', he, fun o ho => .inl (by rw [← hu']; exact ho)⟩, .inl ⟨_, by simp only [resolve, Sem.run_bind, Sem.run_pure, Result.andThen_ok, invoke, builtin, hu, hr], rep_tup0 C'⟩⟩
  ·cases h
 ·rename_i args ats ho
  rw [ho]
  split at h
  ·rename_i x y t rest hargs hts
   obtain ⟨us, ux, hu, r1, r2⟩ := args2 hT hargs
   have hats : ats[0]? = some t := by rw [← Array.getElem?_toList, hts]; rfl
   obtain ⟨C', z, hz, hr, hH, hI', he, hu'⟩ := copy_sim (ty := o.type) hI h hats r1 r2
   exact ⟨C', ⟨rfl, hH, hI', he, fun o ho => .inl (by rw [← hu']; exact ho)⟩, .inl ⟨z, by simp only [resolve, Sem.run_bind, Sem.run_pure, Result.andThen_ok, invoke, builtin, hu, hz], hr⟩⟩
  ·cases h
 ·rename_i args ats ho
  rw [ho]
  split at h
  ·rename_i x t rest hargs hts
   obtain ⟨ux, hu, r1⟩ := args1 hT hargs
   have hats : ats[0]? = some t := by rw [← Array.getElem?_toList, hts]; rfl
   simp only [Option.map_eq_some_iff] at h
   obtain ⟨y, hy, h⟩ := h
   cases h
   obtain ⟨C', hr, hH, hI', he, hu'⟩ := clear_sim (ty := o.type) hI hy hats r1
   exact ⟨C', ⟨rfl, hH, hI', he, fun o ho => .inl (by rw [← hu']; exact ho)⟩, .inl ⟨_, by simp only [resolve, Sem.run_bind, Sem.run_pure, Result.andThen_ok, invoke, builtin, hu, hr], rep_tup0 C'⟩⟩
  ·cases h
 ·rename_i args ats ho
  rw [ho]
  split at h
  ·rename_i x t hargs hts
   obtain ⟨ux, hu, r1⟩ := args1 hT hargs
   split at h
   ·simp only [Option.map_eq_some_iff] at h
    obtain ⟨y, hy, h⟩ := h
    cases h
    obtain ⟨z, hz, hr⟩ := mapLen_sim (ty := o.type) hI hy hts r1
    exact ⟨C, ⟨rfl, rfl, hI, .refl hI, fun o ho => .inl ho⟩, .inl ⟨z, by simp only [resolve, Sem.run_bind, Sem.run_pure, Result.andThen_ok, invoke, builtin, hu, hz], hr⟩⟩
   ·simp only [Option.map_eq_some_iff] at h
    obtain ⟨y, hy, h⟩ := h
    cases h
    obtain ⟨z, hz, hr⟩ := lenD_sim (ty := o.type) hy hts r1
    exact ⟨C, ⟨rfl, rfl, hI, .refl hI, fun o ho => .inl ho⟩, .inl ⟨z, by simp only [resolve, Sem.run_bind, Sem.run_pure, Result.andThen_ok, invoke, builtin, hu, hz], hr⟩⟩
  ·cases h
 ·cases h
structure CallPost (C : Cx) (nx : Nat) (r : AV) (H' : Hp) (nx' : Nat) (v : Value) (C' : Cx) : Prop where
 H : C'.H = H'
 inv : Inv C'
 ext : Ext C C'
 rep : Rep C' r v
 le : nx ≤ nx'
 lt : ∀ o, C'.U o → o.1 < nx'
 use : ∀ o, C'.U o → C.U o ∨ nx ≤ o.1
def Enters (P : Program) (f : FuncId) : Prop := ∃ fn, P.funcs[f]? = some fn ∧ (fn.name == "runtime.NumGoroutine") = false ∧ fn.body.isNone = false
def SimF (P : Program) (f : FuncId) (g : CallF') : Prop := ∀ vs H nx r H' nx', g vs H nx = some (r, H', nx') → Enters P f ∧
 ∀ (C : Cx) (args : Array Value), Inv C → C.H = H → (∀ o, C.U o → o.1 < nx) → (args.size = vs.length ∧ ∀ j x, vs[j]? = some x → Rep C x (args.getD j undef)) →
  Calls P f args C.w fun e w' => ∃ v C', e = .returned v ∧ w' = C'.w ∧ CallPost C nx r H' nx' v C'
def frn (q : Option Nat) : Fence := { Fence.wide with round := q }
def SimY (P : Program) (cl : CallF) : Prop := ∀ (us : List AV) (o : Oid) (H : Hp) (nx : Nat) (r : AV) (H' : Hp) (nx' : Nat), cl yieldF (us ++ [.yld o]) H nx = some (r, H', nx') →
 ∀ (C : Cx) (args : Array Value) (l : Nat), Inv C → C.H = H → (∀ o, C.U o → o.1 < nx) → (∀ x, C.H o = some x → x.isRow = false ∧ ∃ S, C.ρ o = some (l, S)) → (args.size = us.length ∧ ∀ j x, us[j]? = some x → Rep C x (args.getD j undef)) →
  ∃ f tmps as body, (Instr.yield l args).run P C.w = .ok (.round l f tmps as body) C.w ∧ ∀ (q : Option Nat) (n : Nat), RoundIn (frn q) n P l f tmps as body C.w fun e w' => ∃ v C', e = .returned v ∧ w' = C'.w ∧ CallPost C nx r H' nx' v C'
structure SimC (P : Program) (cl : CallF) : Prop where
 fn : ∀ f, f ≠ yieldF → SimF P f (cl f)
 yl : SimY P cl
def ExtOk (P : Program) (pol : Pol) : Prop := ∀ f g, pol.ext f = some g → SimF P f g
theorem F_more (hI : Inv C) {F' : Nat → Prop} (h1 : ∀ b, C.F b → F' b) (h2 : ∀ b, F' b → C.F b ∨ (¬ Live C b ∧ b < C.w.heap.size)) : Inv ⟨C.ρ, F', C.H, C.U, C.w⟩ := by
 have hkeep : ∀ x v, Rep C x v → Rep ⟨C.ρ, F', C.H, C.U, C.w⟩ x v := by
  intro x v hr
  induction hr with
  | d x v h => exact .d x v (h.keep h1 (fun _ _ _ => rfl))
  | osl o off len sz ver cap A hl hU hv h => exact .osl o off len sz ver cap A hl hU hv h
  | vsl o off len sz ver cap A hl hU hv h => exact .vsl o off len sz ver cap A hl hU hv h
  | ptr o off ver a hU hv h => exact .ptr o off ver a hU hv h
  | fn f hlt cs arr hn _ ih => exact .fn f hlt cs arr hn ih
  | bnd g f hlt hg cs arr hn _ ih => exact .bnd g f hlt hg cs arr hn ih
  | map o b hU h => exact .map o b hU h
  | yld o b hU h => exact .yld o b hU h
  | agg cs arr hn h1 _ ih => exact .agg cs arr hn h1 ih
  | tup cs arr hn _ ih => exact .tup cs arr hn ih
  | junk v => exact .junk v
 refine ⟨hI.used, fun o x hx => ?_, fun o x b S hx hz hb hF => ?_, hI.inj, fun b hb => ?_⟩
 ·have := hI.obj o x hx
  cases x with
  | cells cs => obtain ⟨b, c, t, e, hh, hs, q1, hr⟩ := this; exact ⟨b, c, t, e, hh, hs, q1, fun j x hj => hkeep _ _ (hr j x hj)⟩
  | grow cs => obtain ⟨b, S, c, t, e, hh, hs, hl, q1, hr⟩ := this; exact ⟨b, S, c, t, e, hh, hs, hl, q1, fun j x hj => hkeep _ _ (hr j x hj)⟩
  | frz cs => obtain ⟨b, S, c, t, e, hF, hh, hs, hl, q1, hr⟩ := this; exact ⟨b, S, c, t, e, h1 _ hF, hh, hs, hl, q1, fun j x hj => hkeep _ _ (hr j x hj)⟩
  | vnil => exact this
  | mp sh es c =>
   obtain ⟨b, S, es', e, hh, hs, hr⟩ := this
   refine ⟨b, S, es', e, hh, hs, fun j k v n hj => ?_⟩
   obtain ⟨hf, x, h1, h2, h3, h4⟩ := hr j k v n hj
   exact ⟨hf, x, h1, h2, hkeep _ _ h3, h4⟩
  | rc ps as body tm j =>
   obtain ⟨b, S, r, w, e, hh, q1, q2, q3, q4, q5, q6⟩ := this
   exact ⟨b, S, r, w, e, hh, q1, q2, q3, q4, q5, fun k x hx => hkeep _ _ (q6 k x hx)⟩
 ·rcases h2 b hF with q | ⟨q, _⟩
  ·exact hI.notF o x b S hx hz hb q
  ·exact q ⟨o, x, S, hx, hz, hb⟩
 ·rcases h2 b hb with q | ⟨_, q⟩
  ·exact hI.Flt b q
  ·exact q
theorem reifyAll_sim (hI : Inv C) {n : Nat} {vs : List AV} {ds : List D} {is : List Oid} {args : Array Value} (h : reifyAll n C.H vs = some (ds, is)) (hv : args.size = vs.length ∧ ∀ j x, vs[j]? = some x → Rep C x (args.getD j undef)) :
  args.size = ds.length ∧ ∀ j d, ds[j]? = some d → RepD (FW C is) C.w d (args.getD j undef) := by
 obtain ⟨hl, hr⟩ := mapD_sim (C := C) (f := reify C.H n) (fun v x is u h1 h2 => reify_sim hI n h1 h2) h
 refine ⟨by rw [hv.1, hl], fun j d hd => ?_⟩
 obtain ⟨v, hv2, hq⟩ := hr j d hd
 exact hq _ (hv.2 j v hv2)
theorem FW_lt (hI : Inv C) {is : List Oid} {b : Nat} (h : FW C is b) : b < C.w.heap.size := by
 rcases h with h | ⟨o, _, x, S, hx, _, hr⟩
 ·exact hI.Flt b h
 ·exact (hI.obj o x hx).block_lt hr
theorem callA_sim {pol : Pol} {cl : CallF} (hcl : SimC P cl) {f : FuncId} (hf : f ≠ yieldF) {vs : List AV} {nx : Nat} {r : AV} {H' : Hp} {nx' : Nat} {args : Array Value} (h : callA pol cl C.H nx f vs = some (r, H', nx')) (hI : Inv C) (hlt : ∀ o, C.U o → o.1 < nx)
  (hv : args.size = vs.length ∧ ∀ j x, vs[j]? = some x → Rep C x (args.getD j undef)) : Enters P f ∧ Calls P f args C.w fun e w' => ∃ v C', e = .returned v ∧ w' = C'.w ∧ CallPost C nx r H' nx' v C' := by
 unfold callA at h
 split at h
 ·rename_i ds is hd
  have hd : reifyAll (pol.deep f) C.H vs = some (ds, is) := by split at hd <;> first | cases hd | exact hd
  obtain ⟨hds, hdr⟩ := reifyAll_sim hI hd hv
  rw [← wkIf_len (pol.weak f)] at hds
  have hdr := RepD.wkIf (b := pol.weak f) hdr
  simp only [Option.bind_eq_some_iff] at h
  obtain ⟨x, hx0, h⟩ := h
  obtain ⟨y, hx, rfl⟩ := Option.map_eq_some_iff.1 hx0
  clear hx0
  simp only [Option.some.injEq, Prod.mk.injEq] at h
  obtain ⟨rfl, rfl, rfl⟩ := h
  unfold pcl at hx
  simp only [Option.bind_eq_some_iff, Option.map_eq_some_iff] at hx
  obtain ⟨⟨r1, H1, nx1⟩, hc, ⟨x', is1⟩, hre, rfl⟩ := hx
  obtain ⟨hent, hsim⟩ := hcl.fn _ hf _ _ _ _ _ _ hc
  refine ⟨hent, ?_⟩
  have hI0 : Inv ⟨fun _ => none, FW C is, fun _ => none, fun _ => False, C.w⟩ :=
   ⟨fun o x h => (by cases h), fun o x h => (by cases h), fun o x b S h _ => (by cases h), fun o o' x x' b S S' h => (by cases h), fun b hb => FW_lt hI hb⟩
  refine (hsim ⟨fun _ => none, FW C is, fun _ => none, fun _ => False, C.w⟩ args hI0 rfl (fun o h => h.elim) ⟨by simp [hds], fun j y hy => ?_⟩).mono ?_
  ·simp only [List.getElem?_map, Option.map_eq_some_iff] at hy
   obtain ⟨d, hd2, rfl⟩ := hy
   exact .d _ _ (hdr j d hd2)
  ·rintro e w' ⟨v, C1, rfl, rfl, hp⟩
   have hnl : ∀ b, ¬ Live (⟨fun _ => none, FW C is, fun _ => none, fun _ => False, C.w⟩ : Cx) b := fun b ⟨o, x, S, h, _⟩ => (by cases h)
   have hH1 : C1.H = H1 := hp.H
   have hrx : RepD (FW C1 is1) C1.w (wk1 (pol.weak f) (unfull x')) v := RepD.wk1 (RepD.unfull (reify_sim hp.inv 6 (by rw [hH1]; exact hre) hp.rep))
   clear hre
   generalize wk1 (pol.weak f) (unfull x') = x' at hrx ⊢
   have hg : Grew C.w C1.w := ⟨hp.ext.os, hp.ext.tape, hp.ext.output, hp.ext.size, fun k hk => hp.ext.keep k hk (hnl k)⟩
   have hsub : ∀ b, FW C1 is1 b → FW C is b ∨ (C.w.heap.size ≤ b ∧ b < C1.w.heap.size) := by
    intro b hb
    have hlt := FW_lt hp.inv hb
    have hF : ∀ b, C1.F b → b < C1.w.heap.size → FW C is b ∨ (C.w.heap.size ≤ b ∧ b < C1.w.heap.size) := fun b hb hlt => by
     rcases hp.ext.F' b hb with q | q | q
     ·exact .inl q
     ·exact absurd q (hnl b)
     ·exact .inr ⟨q, hlt⟩
    rcases hb with hb | ⟨o, _, y, S, hy, _, hr⟩
    ·exact hF b hb hlt
    ·cases hz : y.isFrz with
     | false =>
      rcases hp.ext.blk b ⟨o, y, S, hy, hz, hr⟩ with q | q
      ·exact absurd q (hnl b)
      ·exact .inr ⟨q, hlt⟩
     | true =>
      cases y with
      | frz cs =>
       obtain ⟨b', S', c, t, e, hFb, _⟩ := hp.inv.obj o _ hy
       rw [hr] at e; cases e
       exact hF b hFb hlt
      | _ => cases hz
   have fin : ∀ C2 : Cx, C2.w = C.w → Inv C2 → Ext C C2 → C2.U = C.U → RepD (fun b => C2.F b ∨ (C.w.heap.size ≤ b ∧ b < C1.w.heap.size)) C1.w x' v →
     ∃ v' C', Ending.returned v = .returned v' ∧ C1.w = C'.w ∧ CallPost C nx (.d x') C2.H nx v' C' := by
    intro C2 hw2 hI2 hE2 hU2 hR
    have hg2 : Grew C2.w C1.w := by rw [hw2]; exact hg
    obtain ⟨hI3, hE3⟩ := grow_world hI2 hg2
    have hI4 := F_more (C := ⟨C2.ρ, C2.F, C2.H, C2.U, C1.w⟩) hI3 (F' := fun b => C2.F b ∨ (C.w.heap.size ≤ b ∧ b < C1.w.heap.size)) (fun b hb => .inl hb) (fun b hb => by
     rcases hb with hb | ⟨q1, q2⟩
     ·exact .inl hb
     ·refine .inr ⟨fun hl => ?_, q2⟩
      obtain ⟨o, y, S, hy, hz, hr⟩ := hl
      have := hI2.live_lt (b := b) ⟨o, y, S, hy, hz, hr⟩
      rw [hw2] at this
      omega)
    have hE4 : Ext C2 ⟨C2.ρ, fun b => C2.F b ∨ (C.w.heap.size ≤ b ∧ b < C1.w.heap.size), C2.H, C2.U, C1.w⟩ :=
     ⟨fun _ h => h, fun b h => .inl h, fun b h => h.imp (fun h => h) (fun h => .inr (by rw [hw2]; exact h.1)), hE3.os, hE3.tape, hE3.output, hE3.size, hE3.keep, hE3.live, hE3.blk⟩
    exact ⟨v, ⟨C2.ρ, fun b => C2.F b ∨ (C.w.heap.size ≤ b ∧ b < C1.w.heap.size), C2.H, C2.U, C1.w⟩, rfl, rfl,
     ⟨rfl, hI4, hE2.trans hE4, .d _ _ hR, Nat.le_refl _, fun o ho => hlt o (by rw [← hU2]; exact ho), fun o ho => .inl (by rw [← hU2]; exact ho)⟩⟩
   by_cases hfl : flatD x' = true
   ·have := fin C rfl hI (.refl hI) rfl (flatD_any hfl hrx)
    have hk : kill C.H [] = C.H := by funext p; simp [kill]
    simpa only [hfl, hk, if_true] using this
   ·obtain ⟨hIk, hEk⟩ := kill_ok hI is
    have := fin ⟨C.ρ, FW C is, kill C.H is, C.U, C.w⟩ rfl hIk hEk rfl (hrx.keep (fun b hb => hsub b hb) (fun _ _ _ => rfl))
    simpa only [hfl, Bool.false_eq_true, if_false] using this
 ·obtain ⟨hent, hsim⟩ := hcl.fn _ hf _ _ _ _ _ _ h
  exact ⟨hent, hsim C args hI rfl hlt hv⟩
end
end Go.Proofs.Ytiafeijkifpfaaa.Am


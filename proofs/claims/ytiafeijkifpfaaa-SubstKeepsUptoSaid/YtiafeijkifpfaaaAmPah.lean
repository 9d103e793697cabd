/-
  Joined texts: Am16. No condition.
-/
import Derived.Test.YtiafeijkifpfaaaAmPag
import Derived.LoopNIn
import Derived.TacticsIn
/-
 The abstract machine: regions, code, loops and calls are the machine's: what a call answers there, the program answers. No condition.
-/
namespace Go.Proofs.Ytiafeijkifpfaaa.Am
open Go
set_option linter.unusedVariables false
section
variable {P : Program} {B : Nat}
structure Marks (B : Nat) (C : Cx) (ds : List Deferred) : Prop where
 le : B ≤ C.w.heap.size
 nd : ds.Pairwise fun d d' => d.target ≠ d'.target
 all : ∀ d ∈ ds, ∃ D, d = { target := .collected D, args := #[] } ∧ B ≤ D ∧ C.w.heap[D]? = some (.deferred (some [])) ∧ ¬ Live C D ∧ ¬ C.F D
theorem Marks.ext {B : Nat} {C C' : Cx} {ds : List Deferred} (h : Marks B C ds) (he : Ext C C') : Marks B C' ds :=
 ⟨Nat.le_trans h.le he.size, h.nd, fun d hd => by
  obtain ⟨D, e, hB, hh, hl, hF⟩ := h.all d hd
  have hlt : D < C.w.heap.size := (Array.getElem?_eq_some_iff.1 hh).1
  refine ⟨D, e, hB, by rw [he.keep D hlt hl]; exact hh, fun q => ?_, fun q => ?_⟩
  ·rcases he.blk D q with q | q
   ·exact hl q
   ·omega
  ·rcases he.F' D q with q | q | q
   ·exact hF q
   ·exact hl q
   ·omega⟩
structure StOk (B : Nat) (C : Cx) (st : St) (a : Act) : Prop where
 H : C.H = st.hp
 inv : Inv C
 lt : ∀ o, C.U o → o.1 < st.nx
 tm : TmOk C st.tm a
 df : Marks B C a.defers
structure Post (B : Nat) (C : Cx) (st : St) (C' : Cx) (st' : St) (a' : Act) : Prop where
 ok : StOk B C' st' a'
 ext : Ext C C'
 nx : st.nx ≤ st'.nx
 use : ∀ o, C'.U o → C.U o ∨ st.nx ≤ o.1
theorem Post.trans {A D C : Cx} {s0 s1 s2 : St} {a1 a2 : Act} (h : Post B A s0 D s1 a1) (k : Post B D s1 C s2 a2) : Post B A s0 C s2 a2 :=
 ⟨k.ok, h.ext.trans k.ext, Nat.le_trans h.nx k.nx, fun o ho => by
  rcases k.use o ho with q | q
  ·exact h.use o q
  ·exact .inr (Nat.le_trans h.nx q)⟩
structure StR (B : Nat) (C : Cx) (st : St) (a : Act) (id len : Nat) : Prop where
 ok : StOk B C st a
 pend : ∀ o, C.U o → o.1 < id ∨ id + len ≤ o.1
 le : id + len ≤ st.nx
theorem put_defers (a : Act) (dst : Option Tmp) (v : Value) : (a.put dst v).defers = a.defers := by cases dst <;> rfl
theorem put_hp (st : St) (dst : Option Tmp) (v : AV) : (put st dst v).hp = st.hp ∧ (put st dst v).nx = st.nx := by cases dst <;> exact ⟨rfl, rfl⟩
theorem assign_run {o : Oper} {x : Operand} {a : Act} {w : World} (h : o.op = .assign x) : (execOp a.eval o).run P w = .ok (.value (a.eval x)) w := by
 unfold execOp; rw [h]; rfl
theorem drop_ok {C : Cx} (hI : Inv C) {H' : Hp} (h : ∀ o x, H' o = some x → C.H o = some x) : Inv ⟨C.ρ, C.F, H', C.U, C.w⟩ ∧ Ext C ⟨C.ρ, C.F, H', C.U, C.w⟩ := by
 have he : Ext C ⟨C.ρ, C.F, H', C.U, C.w⟩ := ⟨fun _ h => h, fun _ h => h, fun _ h => .inl h, rfl, rfl, rfl, Nat.le_refl _, fun _ _ _ => rfl, fun o x' hx _ => ⟨x', h o x' hx, rfl, Nat.le_refl _, fun _ => rfl⟩,
  fun b ⟨o, x, S, hx, hr⟩ => .inl ⟨o, x, S, h o x hx, hr⟩⟩
 exact ⟨⟨fun o x hx => hI.used o x (h o x hx), fun o x hx => (hI.obj o x (h o x hx)).keep hI he rfl (fun _ _ _ => rfl), fun o x b S hx => hI.notF o x b S (h o x hx), fun o o' x x' b S S' hx hx' => hI.inj o o' x x' b S S' (h o x hx) (h o' x' hx'), hI.Flt⟩, he⟩
theorem fillC_len {n : Nat} : ∀ (ps : List (Nat × AV)) (a b : List AV), fillC (fun i => some (i * n, n)) a ps = some b → b.length = a.length := by
 intro ps
 induction ps with
 | nil => intro a b h; cases h; rfl
 | cons p ps ih =>
  intro a b h
  obtain ⟨i, x⟩ := p
  simp only [fillC, Option.bind_eq_bind, Option.bind_some] at h
  split at h
  ·rename_i hq
   rw [ih _ _ h, splice_length _ _ _ (by omega)]
  ·cases h
theorem mapD_data (H : Hp) (n : Nat) : ∀ (l : List D), mapD (reify H n) (l.map .d) = some (l, [])
 | [] => rfl
 | x :: r => by
  have : reify H n (.d x) = some (x, []) := by cases n <;> rfl
  simp [mapD, this, mapD_data H n r]
theorem lit_sim {C : Cx} {tm : List AV} {a : Act} {id : Nat} {op : Op} {v : AV} (hI : Inv C) (hid : ∀ j, ¬ C.U (id, j)) (hT : TmOk C tm a) (h : litD P (ev tm) op = some v) (o : Oper) (ho : o.op = op) :
  ∃ (C' : Cx) (z : Value), (execOp a.eval o).run P C.w = .ok (.value z) C'.w ∧ Rep C' v z ∧ C'.H = C.H ∧ Inv C' ∧ Ext C C' ∧ ∀ p, C'.U p → C.U p ∨ p.1 = id := by
 unfold litD at h
 split at h
 ·rename_i t len ps
  simp only [Option.bind_eq_bind, Option.bind_eq_some_iff] at h
  obtain ⟨e, he, n, hn, z0, hz0, h⟩ := h
  split at h
  ·cases h
  rename_i hc
  simp only [Option.bind_eq_some_iff] at h
  obtain ⟨cs, hcs, ds, hds, h⟩ := h
  cases h
  have hlen : cs.length = len * n := by
   rw [fillC_len _ _ _ hcs, replicate_flatten_length]
   have : z0.length = n := by omega
   rw [this]
  have hv : heapOp P (ev tm) C.H id (.buildSlice t len ps) = some (.osl (id, 0) 0 len n cs.length, upd C.H (id, 0) (.cells cs)) := by
   simp only [heapOp, Option.bind_eq_bind, he, hn, hz0, Option.bind_some]
   rw [if_neg (by omega), if_neg hc, hcs]
   rfl
  obtain ⟨C1, hs1, hres⟩ := heap_sim hI hid hT hv o ho
  rcases hres with ⟨z, hz, hr⟩ | ⟨_, h⟩
  rotate_left
  ·cases h
  have hH1 : C1.H = upd C.H (id, 0) (.cells cs) := hs1.H
  have hat : C1.H (id, 0) = some (.cells cs) := by rw [hH1]; simp [upd]
  have hds' := allD_some hds
  obtain ⟨is, his, hre⟩ : ∃ is : List Oid, (∀ p ∈ is, p = (id, 0)) ∧ reify C1.H 1 (.osl (id, 0) 0 len n cs.length) = some (.sl ds len false (some false), is) := by
   refine ⟨if ds.isEmpty then [] else [(id, 0)], fun p hp => ?_, ?_⟩
   ·split at hp
    ·simp at hp
    ·simpa using hp
   ·simp only [reify, hat, Option.bind_eq_bind, Option.bind_some, Am.Obj.isRow, Am.Obj.cs, List.drop_zero, Nat.zero_add, hlen, Bool.true_and, decide_true, Nat.le_refl, if_true, nlOf]
    rw [List.take_of_length_le (by rw [hlen]; exact Nat.le_refl _), hds', mapD_data]
    rfl
  have hrd := reify_sim hs1.inv 1 hre hr
  have hsub : ∀ o x, C.H o = some x → C1.H o = some x := fun o x hx => by
   rw [hH1]
   simp only [upd]
   rw [if_neg (fun e => hid 0 (by rw [← e]; exact hI.used o x hx))]
   exact hx
  obtain ⟨hI2, _⟩ := drop_ok hs1.inv hsub
  have hI3 := F_more (C := ⟨C1.ρ, C1.F, C.H, C1.U, C1.w⟩) hI2 (F' := FW C1 is) (fun b hb => .inl hb) (fun b hb => by
   rcases hb with hb | ⟨o, ho, x, S, hx, hrow, hb⟩
   ·exact .inl hb
   ·refine .inr ⟨fun ⟨o', y, S', hy, _, hb'⟩ => ?_, (hs1.inv.obj o x hx).block_lt hb⟩
    have e1 := hs1.inv.inj o' o y x b S' S (hsub o' y hy) hx hb' hb
    have e2 := his o ho
    exact hid 0 (by rw [← e2, ← e1]; exact hI.used o' y hy))
  refine ⟨⟨C1.ρ, FW C1 is, C.H, C1.U, C1.w⟩, z, hz, .d _ _ hrd, rfl, hI3, hs1.ext.trans ⟨fun _ h => h, fun b h => .inl h, fun b h => ?_, rfl, rfl, rfl, Nat.le_refl _, fun _ _ _ => rfl, fun o x' hx _ => ⟨x', hsub o x' hx, rfl, Nat.le_refl _, fun _ => rfl⟩,
   fun b ⟨o, x, S, hx, hz, hr⟩ => .inl ⟨o, x, S, hsub o x hx, hz, hr⟩⟩, hs1.used⟩
  rcases h with h | ⟨o, ho, x, S, hx, hrow, hb⟩
  ·exact .inl h
  ·obtain rfl := his o ho
   rw [hat] at hx
   cases hx
   exact .inr (.inl ⟨(id, 0), _, S, hat, rfl, hb⟩)
 ·cases h
theorem stepOp_nodefer {pol : Pol} {cl : CallF} {id : Nat} {ao : AOp} {st st' : St} (h : stepOp P pol cl id ao st = some st') (c : Call) : ao.op ≠ .defer c := by
 intro e
 unfold stepOp isCall stepN at h
 rw [e] at h
 simp [isVal, isLit, isBuild, heapOp, e] at h
theorem reify_yld (H : Hp) (n : Nat) (p : Oid) : reify H n (.yld p) = none := by cases n <;> rfl
theorem mapD_yld (f : AV → Option (D × List Oid)) (p : Oid) (hf : f (.yld p) = none) : ∀ l : List AV, mapD f (l ++ [.yld p]) = none
 | [] => by simp [mapD, hf]
 | x :: r => by
  simp only [List.cons_append, mapD, mapD_yld f p hf r]
  cases f x <;> rfl
theorem isFnD_cases {X : AV} {g : FuncId} {cap : List AV} (h : isFnD X = some (g, cap)) : (g ≠ yieldF ∧ ((∃ c, X = .d (.fn g c) ∧ cap = c.map .d) ∨ X = .fn g cap)) ∨ ∃ p, X = .yld p ∧ g = yieldF ∧ cap = [.yld p] := by
 unfold isFnD at h
 split at h
 ·split at h
  ·cases h
  ·rename_i hne; cases h; exact .inl ⟨hne, .inl ⟨_, rfl, rfl⟩⟩
 ·split at h
  ·cases h
  ·rename_i hne; cases h; exact .inl ⟨hne, .inr rfl⟩
 ·cases h; exact .inr ⟨_, rfl, rfl, rfl⟩
 ·cases h
theorem mem_joinF {g : FuncId} {as cap : List AV} {x : AV} (h : x ∈ joinF g as cap) : x ∈ as ∨ x ∈ cap := by
 unfold joinF at h
 split at h
 ·exact List.mem_append.1 h
 ·exact (List.mem_append.1 h).symm
theorem rep_append {C : Cx} {as bs : List AV} {u v : Array Value} (h1 : u.size = as.length ∧ ∀ j x, as[j]? = some x → Rep C x (u.getD j undef)) (h2 : v.size = bs.length ∧ ∀ j x, bs[j]? = some x → Rep C x (v.getD j undef)) :
  (u ++ v).size = (as ++ bs).length ∧ ∀ j x, (as ++ bs)[j]? = some x → Rep C x ((u ++ v).getD j undef) := by
 refine ⟨by simp [h1.1, h2.1], fun j x hx => ?_⟩
 rw [List.getElem?_append] at hx
 rw [Array.getD_eq_getD_getElem?, Array.getElem?_append, h1.1]
 split at hx
 ·rename_i hj
  rw [if_pos hj, ← Array.getD_eq_getD_getElem?]
  exact h1.2 j x hx
 ·rename_i hj
  rw [if_neg hj, ← Array.getD_eq_getD_getElem?]
  exact h2.2 _ x hx
theorem isFnD_rep {C : Cx} {X : AV} {u : Value} {g : FuncId} {cap : List AV} (hX : (∃ c, X = .d (.fn g c) ∧ cap = c.map .d) ∨ X = .fn g cap) (h : Rep C X u) :
  ∃ fst arr : Array Value, u = .func (.func (numF g)) fst arr ∧ numF g ≠ yieldF ∧ ((g ≤ yieldF ∧ fst = #[] ∧ arr.size = cap.length ∧ ∀ j x, cap[j]? = some x → Rep C x (arr.getD j undef)) ∨
   (¬ g ≤ yieldF ∧ arr = #[] ∧ fst.size = cap.length ∧ ∀ j x, cap[j]? = some x → Rep C x (fst.getD j undef))) := by
 have n1 : ∀ f : Nat, f < yieldF → numF f = f ∧ numF f ≠ yieldF := fun f hf => by
  have : numF f = f := if_pos (Nat.le_of_lt hf)
  rw [this]; exact ⟨rfl, Nat.ne_of_lt hf⟩
 have n2 : ∀ g f : Nat, f < yieldF → g = f + (yieldF + 1) → numF g = f ∧ numF g ≠ yieldF ∧ ¬ g ≤ yieldF := fun g f hf hg => by
  have hle : ¬ g ≤ yieldF := by omega
  have : numF g = f := by unfold numF; rw [if_neg hle]; show g - (yieldF + 1) = f; omega
  rw [this]; exact ⟨rfl, Nat.ne_of_lt hf, hle⟩
 rcases hX with ⟨c, rfl, rfl⟩ | rfl
 ·cases h.dinv with
  | fn _ hlt _ arr hn hr =>
   have := n1 g hlt
   refine ⟨#[], arr, by rw [this.1], this.2, .inl ⟨Nat.le_of_lt hlt, rfl, by simpa using hn, fun j x hx => ?_⟩⟩
   simp only [List.getElem?_map, Option.map_eq_some_iff] at hx
   obtain ⟨z, hz, rfl⟩ := hx
   exact .d _ _ (hr j z hz)
  | bnd _ f hlt hg _ arr hn hr =>
   have := n2 g f hlt hg
   refine ⟨arr, #[], by rw [this.1], this.2.1, .inr ⟨this.2.2, rfl, by simpa using hn, fun j x hx => ?_⟩⟩
   simp only [List.getElem?_map, Option.map_eq_some_iff] at hx
   obtain ⟨z, hz, rfl⟩ := hx
   exact .d _ _ (hr j z hz)
 ·cases h with
  | fn _ hlt _ arr hn hr => exact ⟨#[], arr, by rw [(n1 g hlt).1], (n1 g hlt).2, .inl ⟨Nat.le_of_lt hlt, rfl, hn, hr⟩⟩
  | bnd _ f hlt hg _ arr hn hr => exact ⟨arr, #[], by rw [(n2 g f hlt hg).1], (n2 g f hlt hg).2.1, .inr ⟨(n2 g f hlt hg).2.2, rfl, hn, hr⟩⟩
theorem callA_yld {pol : Pol} {cl : CallF} {H : Hp} {nx : Nat} {l : List AV} {p : Oid} : callA pol cl H nx yieldF (l ++ [.yld p]) = cl yieldF (l ++ [.yld p]) H nx := by
 unfold callA
 have : reifyAll (pol.deep yieldF) H (l ++ [.yld p]) = none := mapD_yld _ p (reify_yld H _ p) l
 rw [this]
 split
 ·rename_i h; split at h <;> cases h
 ·rfl
theorem stepOp_sim {q : Option Nat} {n : Nat} {pol : Pol} {cl : CallF} (hcl : SimC P cl) {C : Cx} {st st' : St} {a : Act} {id : Nat} {o : Oper} {ao : AOp} (hd : ao.dst = o.dst) (hop : ao.op = o.op) (hs : StOk B C st a) (hid : ∀ j, ¬ C.U (id, j)) (hidn : id < st.nx) (h : stepOp P pol cl id ao st = some st')
  {next : Act → World → Prop} {Q : Exit → Act → World → Prop} (hn : ∀ C' a', StOk B C' st' a' → Ext C C' → st.nx ≤ st'.nx → (∀ p, C'.U p → C.U p ∨ p.1 = id ∨ st.nx ≤ p.1) → next a' C'.w) : o.wpIn (frn q) n P a C.w next Q := by
 obtain ⟨hH, hI, hlt, hT, hdf⟩ := hs
 have fin : ∀ (C' : Cx) (H' : Hp) (v : AV) (z : Value), C'.H = H' → Inv C' → Ext C C' → (∀ p, C'.U p → C.U p ∨ p.1 = id) → Rep C' v z → st' = put ⟨st.tm, H', st.nx⟩ ao.dst v → next (a.put o.dst z) C'.w := by
  intro C' H' v z h1 h2 h3 h4 h5 h6
  subst h6
  have hp := put_hp ⟨st.tm, H', st.nx⟩ ao.dst v
  refine hn C' _ ⟨by rw [hp.1]; exact h1, h2, fun p hp' => ?_, ?_, by rw [put_defers]; exact hdf.ext h3⟩ h3 (by rw [hp.2]; exact Nat.le_refl _) (fun p hp' => (h4 p hp').imp (fun q => q) .inl)
  ·rw [hp.2]
   rcases h4 p hp' with q | q
   ·exact hlt p q
   ·show p.1 < st.nx; omega
  ·rw [← hd]
   exact TmOk.put (st := ⟨st.tm, H', st.nx⟩) (hT.ext hI h3) h5
 have hnd : ∀ c, o.op ≠ .defer c := fun c => by rw [← hop]; exact stepOp_nodefer h c
 refine ⟨fun _ _ => trivial, ?_⟩
 rw [Oper.semAt_eq _ _ _ hnd]
 unfold stepOp at h
 split at h
 ·rename_i f as hcall
  unfold isCall at hcall
  split at hcall
  ·rename_i f' args ats hq
   cases hcall
   simp only [Option.bind_eq_bind, Option.bind_eq_some_iff] at h
   obtain ⟨⟨g, cap⟩, hg, ⟨v, H', nx'⟩, hc, h⟩ := h
   cases h
   have hf := hT.ev f
   have hargs := args_ok hT args.toList
   have hB : ∀ C' : Cx, Ext C C' → Marks B C' a.defers := fun C' he => hdf.ext he
   have hdep : ∀ m : Nat, (frn q).depth.isSome = true → 1 ≤ m := fun m h => by simp [frn, Fence.wide] at h
   rcases isFnD_cases hg with ⟨hne, hX⟩ | ⟨p, hX, rfl, rfl⟩
   ·obtain ⟨fst, arr, hfv, hnf, harr⟩ := isFnD_rep hX hf
    have hvals : (fst ++ args.map a.eval ++ arr).size = (joinF g (args.toList.map (ev st.tm)) cap).length ∧ ∀ j x, (joinF g (args.toList.map (ev st.tm)) cap)[j]? = some x → Rep C x ((fst ++ args.map a.eval ++ arr).getD j undef) := by
     have h0 : (args.map a.eval).size = (args.toList.map (ev st.tm)).length ∧ ∀ j x, (args.toList.map (ev st.tm))[j]? = some x → Rep C x ((args.map a.eval).getD j undef) := by
      refine ⟨by simp, fun j x hx => ?_⟩
      have h1 := hargs.2 j x hx
      simpa using h1
     unfold joinF
     rcases harr with ⟨hle, rfl, ha⟩ | ⟨hle, rfl, ha⟩
     ·rw [if_pos hle, Array.empty_append]; exact rep_append h0 ha
     ·rw [if_neg hle, Array.append_empty]; exact rep_append ha h0
    rw [← hH] at hc
    obtain ⟨⟨fn, hfn, hnm, hbd⟩, hcalls⟩ := callA_sim hcl hnf hc hI hlt hvals
    replace hfn : P.funcs[numF g]? = some fn := hfn
    have hrun : (execOp a.eval o).run P C.w = .ok (.enter (numF g) (fst ++ args.map a.eval ++ arr)) C.w := by
     unfold execOp
     rw [← hop, hq]
     simp only [resolve, Sem.run_bind, Deferred.ofValue, hfv, Sem.run_pure, Result.andThen_ok, invoke, callFunc, run_program, hfn, hnm, hbd, Bool.false_eq_true, if_false]
    rw [hrun, Oper.uponIn_enter]
    refine ⟨hdep n, (callsIn_wide (n := n - 1)).2 (hcalls.mono ?_)⟩
    rintro e w' ⟨z, C', rfl, rfl, hp⟩
    have hp2 := put_hp ⟨st.tm, H', nx'⟩ ao.dst v
    have hnx : st.nx ≤ nx' := hp.le
    refine hn C' _ ⟨by rw [hp2.1]; exact hp.H, hp.inv, fun p hu => by rw [hp2.2]; exact hp.lt p hu, ?_, by rw [put_defers]; exact hB C' hp.ext⟩ hp.ext (by rw [hp2.2]; exact hnx) (fun p hu => (hp.use p hu).imp (fun q => q) .inr)
    rw [← hd]
    exact TmOk.put (st := ⟨st.tm, H', nx'⟩) (hT.ext hI hp.ext) hp.rep
   ·-- a loop's yield
    rw [hX] at hf
    obtain ⟨l, hfv, hl⟩ : ∃ l, a.eval f = .func (.yield l) #[] #[] ∧ ∀ x, C.H p = some x → x.isRow = false ∧ ∃ S, C.ρ p = some (l, S) := by
     generalize a.eval f = u at hf
     cases hf with
     | yld _ l hU h => exact ⟨l, rfl, h⟩
    have hc2 : cl yieldF (args.toList.map (ev st.tm) ++ [.yld p]) C.H st.nx = some (v, H', nx') := by have h := hc; rw [show numF yieldF = yieldF from if_pos (Nat.le_refl _), show joinF yieldF (args.toList.map (ev st.tm)) [.yld p] = args.toList.map (ev st.tm) ++ [.yld p] from if_pos (Nat.le_refl _), callA_yld] at h; rw [hH]; exact h
    have hvals : (args.map a.eval).size = (args.toList.map (ev st.tm)).length ∧ ∀ j x, (args.toList.map (ev st.tm))[j]? = some x → Rep C x ((args.map a.eval).getD j undef) := by
     refine ⟨by simp, fun j x hx => ?_⟩
     have h1 := hargs.2 j x hx
     simpa using h1
    obtain ⟨f2, tmps2, as2, body2, hy, hround⟩ := hcl.yl _ _ _ _ _ _ _ hc2 C (args.map a.eval) l hI rfl hlt hl hvals
    have hrun : (execOp a.eval o).run P C.w = .ok (.round l f2 tmps2 as2 body2) C.w := by
     unfold execOp
     rw [← hop, hq]
     simp only [resolve, Sem.run_bind, Deferred.ofValue, hfv, Sem.run_pure, Result.andThen_ok, invoke, Array.empty_append]
     exact hy
    rw [hrun, Oper.uponIn_round]
    refine ⟨hdep n, (hround q (n - 1)).mono ?_⟩
    rintro e w' ⟨z, C', rfl, rfl, hp⟩
    have hp2 := put_hp ⟨st.tm, H', nx'⟩ ao.dst v
    have hnx : st.nx ≤ nx' := hp.le
    refine hn C' _ ⟨by rw [hp2.1]; exact hp.H, hp.inv, fun p hu => by rw [hp2.2]; exact hp.lt p hu, ?_, by rw [put_defers]; exact hB C' hp.ext⟩ hp.ext (by rw [hp2.2]; exact hnx) (fun p hu => (hp.use p hu).imp (fun q => q) .inr)
    rw [← hd]
    exact TmOk.put (st := ⟨st.tm, H', nx'⟩) (hT.ext hI hp.ext) hp.rep
  ·cases hcall
 ·unfold stepN at h
  split at h
  ·simp only [Option.bind_eq_bind, Option.bind_eq_some_iff] at h
   obtain ⟨v, hv, h⟩ := h
   obtain ⟨z, hz, hr⟩ := val_sim hT hv o hop.symm
   rw [hz, Oper.uponIn_value]
   split at h
   ·rename_i hl
    cases h
    simp only [Bool.and_eq_true] at hl
    obtain rfl := isNil_eq hl.2
    have hc1 : CellsOk C [.d (.sl [] 0 true (some true))] #[z] := by
     refine ⟨rfl, fun j hj => ?_, fun j y hy => ?_⟩
     ·obtain rfl : j = 0 := by simpa using hj
      have := hr.dinv
      cases this
      rfl
     ·cases j with
      | zero => simp at hy; subst hy; simpa using hr
      | succ j => simp at hy
    obtain ⟨C', hw', hH', _, _, hU', hI', he', hc'⟩ := lift_sim hI (id := id) (fun j => hid (j + 1)) hc1
    have hr' := hc'.2.2 0 (.osl (id, 1) 0 0 1 0) rfl
    have := fin C' (upd st.hp (id, 1) .vnil) (.osl (id, 1) 0 0 1 0) z (by rw [hH', hH]; rfl) hI' he' (fun p hp => ((hU' p).1 hp).imp (fun q => q) (fun q => q.1)) (by simpa using hr') rfl
    rw [hw'] at this
    exact this
   ·cases h
    exact fin C st.hp v z hH hI (.refl hI) (fun p hp => .inl hp) hr rfl
  split at h
  ·obtain ⟨v, hv, h⟩ := Option.map_eq_some_iff.1 h
   cases h
   obtain ⟨C', z, hz, hr, hH', hI', he', hu'⟩ := lit_sim hI hid hT hv o hop.symm
   rw [hz, Oper.uponIn_value]
   exact fin C' st.hp v z (by rw [hH', hH]) hI' he' hu' hr rfl
  ·simp only [Option.bind_eq_bind, Option.bind_eq_some_iff] at h
   obtain ⟨⟨v, H'⟩, hv, h⟩ := h
   cases h
   rw [← hH] at hv
   obtain ⟨C', hs', hres⟩ := heap_sim hI hid hT hv o hop.symm
   rcases hres with ⟨z, hz, hr⟩ | ⟨hz, rfl⟩
   ·rw [hz, Oper.uponIn_value]
    exact fin C' H' v z hs'.H hs'.inv hs'.ext hs'.used hr rfl
   ·rw [hz, Oper.uponIn_skip]
    exact fin C' H' .junk undef hs'.H hs'.inv hs'.ext hs'.used (.junk _) rfl
theorem guard_yields {C : Cx} {st : St} {a : Act} {ops : Array Oper} {j t : Nat} {p : Oper} {b : Bool} (hT : TmOk C st.tm a) (hp : ops[j]? = some p) (ht : p.dst = some t) (h : st.tm.getD t .junk = .d (.bool b)) : yielded ops a.tmps j = some b := by
 have hl : t < st.tm.length := by
  rcases Nat.lt_or_ge t st.tm.length with q | q
  ·exact q
  ·rw [List.getD_eq_getElem?_getD, List.getElem?_eq_none q] at h; cases h
 have hr := hT.getD t
 rw [h] at hr
 have hd := hr.dinv
 have hs : t < a.tmps.size := by rw [hT.size]; exact hl
 rw [Array.getD_eq_getD_getElem?, Array.getElem?_eq_getElem hs] at hd
 simp only [Option.getD_some] at hd
 unfold yielded
 rw [hp]
 simp only [Option.bind_some, ht, Array.getElem?_eq_getElem hs]
 generalize a.tmps[t] = u at hd
 cases hd
 rfl
theorem guard_skipped {C : Cx} {st : St} {a : Act} {ops : Array Oper} {j t : Nat} {p : Oper} (hT : TmOk C st.tm a) (hp : ops[j]? = some p) (ht : p.dst = some t) (h : st.tm.getD t .junk = .d (.tup [])) : yielded ops a.tmps j = none := by
 have hl : t < st.tm.length := by
  rcases Nat.lt_or_ge t st.tm.length with q | q
  ·exact q
  ·rw [List.getD_eq_getElem?_getD, List.getElem?_eq_none q] at h; cases h
 have hr := hT.getD t
 rw [h] at hr
 have hd := hr.dinv
 have hs : t < a.tmps.size := by rw [hT.size]; exact hl
 rw [Array.getD_eq_getD_getElem?, Array.getElem?_eq_getElem hs] at hd
 simp only [Option.getD_some] at hd
 unfold yielded
 rw [hp]
 simp only [Option.bind_some, ht, Array.getElem?_eq_getElem hs]
 generalize a.tmps[t] = u at hd
 cases hd
 rfl
theorem rep_undef (C : Cx) : Rep C (.d (.tup [])) undef := .d _ _ (.tup [] #[] rfl (fun j x hx => by simp at hx))
theorem runOps_sim {q : Option Nat} {n : Nat} {pol : Pol} {cl : CallF} (hcl : SimC P cl) {ops : Array Oper} {Q : Exit → Act → World → Prop} : ∀ (l : List Oper) (al : List AOp) (bs : List Bool), compOps ops bs l = some al → ∀ (C : Cx) (st st' : St) (a : Act) (id : Nat), StR B C st a id al.length → runOps P pol cl id al st = some st' →
  (∀ C' a', StOk B C' st' a' → Ext C C' → st.nx ≤ st'.nx → (∀ p, C'.U p → C.U p ∨ (id ≤ p.1 ∧ p.1 < id + al.length) ∨ st.nx ≤ p.1) → Q .normal a' C'.w) → wpListIn (frn q) n P ops Q l a C.w := by
 intro l
 induction l with
 | nil =>
  intro al bs hal C st st' a id hs h hq
  cases hal
  cases h
  exact hq C a hs.ok (.refl hs.ok.inv) (Nat.le_refl _) (fun p hp => .inl hp)
 | cons o l ih =>
  intro al bs hal C st st' a id hs h hq
  simp only [compOps, Option.bind_eq_bind, Option.bind_eq_some_iff] at hal
  obtain ⟨ao, hao, al', hal', hal⟩ := hal
  cases hal
  simp only [runOps, Option.bind_eq_some_iff] at h
  obtain ⟨st1, h1, h2⟩ := h
  simp only [List.length_cons] at hs hq
  have hdo : ao.dst = o.dst ∧ ao.op = o.op := by
   unfold compOp at hao
   split at hao
   ·cases hao; exact ⟨rfl, rfl⟩
   ·simp only [Option.bind_eq_bind, Option.bind_eq_some_iff] at hao
    obtain ⟨_, _, _, _, hao⟩ := hao
    cases hao; exact ⟨rfl, rfl⟩
  have step : stepOp P pol cl id ao st = some st1 → Region.wanted o (yielded ops a.tmps) = true → wpListIn (frn q) n P ops Q (o :: l) a C.w := by
   intro hst hw
   unfold wpListIn
   rw [if_pos hw]
   refine stepOp_sim hcl hdo.1 hdo.2 hs.ok (fun j hu => by have := hs.pend _ hu; simp at this; omega) (by have := hs.le; omega) hst fun C1 a1 hs1 he1 hn1 hu1 => ?_
   refine ih al' bs.tail hal' C1 st1 st' a1 (id + 1) ⟨hs1, fun p hp => by
    rcases hu1 p hp with q | q | q
    ·have := hs.pend p q; omega
    ·omega
    ·have := hs.le; omega, by have := hs.le; omega⟩ h2 fun C' a' hok he hn hu => hq C' a' hok (he1.trans he) (Nat.le_trans hn1 hn) fun p hp => ?_
   rcases hu p hp with q | q | q
   ·rcases hu1 p q with q | q | q
    ·exact .inl q
    ·exact .inr (.inl (by omega))
    ·exact .inr (.inr q)
   ·exact .inr (.inl (by omega))
   ·exact .inr (.inr (Nat.le_trans hn1 q))
  unfold stepG guarded at h1
  unfold compOp at hao
  split at hao
  ·rename_i hg
   cases hao
   exact step h1 (by simp [Region.wanted, hg])
  ·rename_i j w hg
   simp only [Option.bind_eq_bind, Option.bind_eq_some_iff] at hao
   obtain ⟨p, hp, t, ht, hao⟩ := hao
   cases hao
   simp only at h1
   split at h1
   ·rename_i b hb
    have hy := guard_yields hs.ok.tm hp ht hb
    split at h1
    ·rename_i hbw
     exact step h1 (by simp [Region.wanted, hg, hy, hbw])
    ·rename_i hbw
     cases h1
     unfold wpListIn
     rw [if_neg (by simp [Region.wanted, hg, hy, hbw])]
     have hp2 := put_hp st o.dst (.d (.tup []))
     refine ⟨fun _ _ => trivial, ?_⟩
     refine ih al' bs.tail hal' C _ st' _ (id + 1) ⟨⟨by rw [hp2.1]; exact hs.ok.H, hs.ok.inv, fun p hu => by rw [hp2.2]; exact hs.ok.lt p hu, hs.ok.tm.put (rep_undef C), by rw [put_defers]; exact hs.ok.df⟩, fun p hu => ?_, by rw [hp2.2]; have := hs.le; omega⟩ h2 fun C' a' hok he hn hu => hq C' a' hok he (by rw [hp2.2] at hn; exact hn) fun p hp => ?_
     ·have := hs.pend p hu; omega
     ·rw [hp2.2] at hu
      rcases hu p hp with q | q | q
      ·exact .inl q
      ·exact .inr (.inl (by omega))
      ·exact .inr (.inr q)
   ·rename_i hb
    have hy := guard_skipped hs.ok.tm hp ht hb
    cases h1
    unfold wpListIn
    rw [if_neg (by simp [Region.wanted, hg, hy])]
    have hp2 := put_hp st o.dst (.d (.tup []))
    refine ⟨fun _ _ => trivial, ?_⟩
    refine ih al' bs.tail hal' C _ st' _ (id + 1) ⟨⟨by rw [hp2.1]; exact hs.ok.H, hs.ok.inv, fun p hu => by rw [hp2.2]; exact hs.ok.lt p hu, hs.ok.tm.put (rep_undef C), by rw [put_defers]; exact hs.ok.df⟩, fun p hu => ?_, by rw [hp2.2]; have := hs.le; omega⟩ h2 fun C' a' hok he hn hu => hq C' a' hok he (by rw [hp2.2] at hn; exact hn) fun p hp => ?_
    ·have := hs.pend p hu; omega
    ·rw [hp2.2] at hu
     rcases hu p hp with q | q | q
     ·exact .inl q
     ·exact .inr (.inl (by omega))
     ·exact .inr (.inr q)
   ·cases h1
theorem compOps_length {ops : Array Oper} : ∀ {l : List Oper} {al : List AOp} {bs : List Bool}, compOps ops bs l = some al → al.length = l.length := by
 intro l
 induction l with
 | nil => intro al bs h; cases h; rfl
 | cons o l ih =>
  intro al bs h
  simp only [compOps, Option.bind_eq_bind, Option.bind_eq_some_iff] at h
  obtain ⟨ao, _, al', hal', h⟩ := h
  cases h
  simp [ih hal']
theorem region_sim {q : Option Nat} {n : Nat} {pol : Pol} {cl : CallF} (hcl : SimC P cl) {ops : Array Oper} {al : List AOp} {Q : Exit → Act → World → Prop} {C : Cx} {st st' : St} {a : Act} {rid : Nat} (hal : compOps ops [] ops.toList = some al) (hs : StOk B C st a) (h : runRegion P pol cl al st = some st')
  (hq : ∀ C' a', Post B C st C' st' a' → Q .normal a' C'.w) : (Code.region rid ops false).wpIn (frn q) n P Q a C.w := by
 refine wpIn_region_list (runOps_sim hcl ops.toList al [] hal C ⟨st.tm, st.hp, st.nx + al.length⟩ st' a st.nx ⟨⟨hs.H, hs.inv, fun o ho => Nat.lt_of_lt_of_le (hs.lt o ho) (Nat.le_add_right _ _), hs.tm, hs.df⟩, fun o ho => .inl (hs.lt o ho), Nat.le_refl _⟩ h fun C' a' hok he hn hu => ?_)
 refine hq C' a' ⟨hok, he, Nat.le_trans (Nat.le_add_right _ _) hn, fun p hp => ?_⟩
 rcases hu p hp with q | q | q
 ·exact .inl q
 ·exact .inr q.1
 ·exact .inr (Nat.le_trans (Nat.le_add_right _ _) q)
def exOf : Ex → Exit
 | .normal => .normal
 | .exit id => .exit id
 | .ret => .ret
end
end Go.Proofs.Ytiafeijkifpfaaa.Am


/-
  Joined texts: Am18. No condition.
-/
import Derived.Test.YtiafeijkifpfaaaAmPai
import Derived.LoopNIn
import Derived.Scope
import Derived.RangeFuncLeaves
/-
 The abstract machine: code, loops and calls are the machine's: what a call answers there, the program answers. No condition.
-/
namespace Go.Proofs.Ytiafeijkifpfaaa.Am
open Go
set_option linter.unusedVariables false
section
variable {P : Program} {B : Nat}
def SimL (P : Program) (lp : LoopF) (n : Nat) : Prop := ∀ (w : Bool) (c : Code) (ac : ACode) (m : Mask) (st : St) (e : Ex) (st' : St), compile w c = some (strip ac) → lp ac m st = some (e, st') →
 ∀ (B k : Nat) (q : Option Nat), (q = none ∨ noR ac = true) → ∀ (C : Cx) (a : Act) (Q : Exit → Act → World → Prop), StOk B C st a → (∀ C' a', Post B C st C' st' a' → Q (exOf e) a' C'.w) → Code.roundsIn (frn q) k P c Q n a C.w
theorem strip_fix (n : Nat) (keep : Bool) : ∀ c aft, strip (fixL n keep aft c) = strip c := by
 intro c
 induction c with
 | seq a b iha ihb => intro aft; simp only [fixL, strip, iha, ihb]
 | cond c a b iha ihb => intro aft; simp only [fixL, strip, iha, ihb]
 | block id a ih => intro aft; simp only [fixL, strip, ih]
 | loop ks k a ih => intro aft; simp only [fixL, strip, ih]
 | rfun g ps a b iha ihb => intro aft; simp only [fixL, strip, iha, ihb]
 | _ => intro aft; rfl
theorem strip_compile {w : Bool} : ∀ {c : Code} {ac : ACode}, compile w c = some ac → strip ac = ac := by
 intro c
 induction c with
 | seq x y ihx ihy =>
  intro ac h
  simp only [compile] at h
  split at h
  ·cases h; rfl
  simp only [Option.bind_eq_bind, Option.bind_eq_some_iff] at h
  obtain ⟨a, ha, b, hb, h⟩ := h
  cases h
  simp only [strip, ihx ha, ihy hb]
 | cond x y z ihy ihz =>
  intro ac h
  simp only [compile, Option.bind_eq_bind, Option.bind_eq_some_iff] at h
  obtain ⟨a, ha, b, hb, h⟩ := h
  cases h
  simp only [strip, ihy ha, ihz hb]
 | block id x ih =>
  intro ac h
  simp only [compile, Option.bind_eq_bind, Option.bind_eq_some_iff] at h
  obtain ⟨a, ha, h⟩ := h
  cases h
  simp only [strip, ih ha]
 | loop x ih =>
  intro ac h
  simp only [compile, Option.bind_eq_bind, Option.bind_eq_some_iff] at h
  obtain ⟨a, ha, h⟩ := h
  cases h
  simp only [strip, ih ha]
 | scope x ih => intro ac h; exact ih h
 | region id ops dr =>
  intro ac h
  simp only [compile, Option.bind_eq_some_iff] at h
  obtain ⟨al, hal, h⟩ := h
  cases dr with
  | true =>
   simp only [if_true, Option.bind_eq_some_iff] at h
   obtain ⟨al, hal, h⟩ := h
   split at h
   ·cases h; rfl
   ·simp only [Option.map_eq_some_iff] at h
    obtain ⟨prs, _, rfl⟩ := h
    rfl
  | false => simp only [Bool.false_eq_true, if_false, Option.some.injEq] at h; subst h; rfl
 | rangeFunc g ps x y ihx ihy =>
  intro ac h
  simp only [compile, Option.bind_eq_bind, Option.bind_eq_some_iff] at h
  obtain ⟨a, ha, b, hb, h⟩ := h
  cases h
  simp only [strip, ihx ha, ihy hb]
 | _ => intro ac h; first | (cases h; rfl) | cases h
theorem maskT_get : ∀ (bs : List Bool) (vs : List AV) (j : Nat) (x : AV), (maskT bs vs)[j]? = some x → x = .junk ∨ vs[j]? = some x := by
 intro bs
 induction bs with
 | nil => intro vs j x h; exact .inr h
 | cons b bs ih =>
  intro vs j x h
  cases vs with
  | nil => simp [maskT] at h
  | cons v vs =>
   cases j with
   | zero =>
    simp only [maskT, List.getElem?_cons_zero, Option.some.injEq] at h
    split at h
    ·exact .inr (by simpa using h)
    ·exact .inl h.symm
   | succ j =>
    simp only [maskT, List.getElem?_cons_succ] at h
    exact (ih vs j x h).imp (fun h => h) (fun h => by simpa using h)
theorem maskT_len : ∀ (bs : List Bool) (vs : List AV), (maskT bs vs).length = vs.length := by
 intro bs
 induction bs with
 | nil => intro vs; rfl
 | cons b bs ih => intro vs; cases vs with
  | nil => rfl
  | cons v vs => simp [maskT, ih vs]
theorem clean_ok {C : Cx} {st : St} {a : Act} (ks : List Bool) (hs : StOk B C st a) : StOk B C ⟨maskT ks st.tm, st.hp, st.nx⟩ a :=
 ⟨hs.H, hs.inv, hs.lt, ⟨by
  show a.tmps.size = (maskT ks st.tm).length
  rw [maskT_len]; exact hs.tm.size, fun j x hx => by
  rcases maskT_get _ _ j x hx with rfl | q
  ·exact .junk _
  ·exact hs.tm.rep j x q⟩, hs.df⟩
theorem wpIn_scope {F : Fence} {n : Nat} {Q : Exit → Act → World → Prop} {a : Act} {w : World} {c : Code} (h : c.wpIn F n P (Exit.noGoto Q) a w) : (Code.scope c).wpIn F n P Q a w := by
 intro b k cs hro hb hr
 have h0 : (lone (b.atR a (.code (.scope c) :: k)) cs w).fenced P F := fenced_calm hb hr rfl
 obtain ⟨e, a₁, w₁, hq, harr⟩ := h b (.inScope c :: k) cs hro hb hr
 have hx : ∀ id, exitTo id (.inScope c :: k) = exitTo id k := fun id => by simp [exitTo]
 have s0 : step P (lone (b.atR a (.code (.scope c) :: k)) cs w) = .next (lone (b.atR a (.code c :: .inScope c :: k)) cs w) := step_lone_go (by simp [Go.stepG, Go.stepG.exec, Frame.atR])
 have s1 : step P (lone (b.atR a₁ (.inScope c :: k)) cs w₁) = .next (lone (b.atR a₁ k) cs w₁) := step_lone_go (by simp [Go.stepG, Go.stepG.exec, Frame.atR])
 cases e with
 | normal => exact ⟨.normal, a₁, w₁, hq, .head h0 s0 (StepsIn.trans harr (.one (fenced_calm hb hr rfl) s1))⟩
 | exit id => exact ⟨.exit id, a₁, w₁, hq, fun k' hk => .head h0 s0 (harr.1 k' (by rw [hx]; exact hk)), fun hr' hk => let ⟨k₁, h1, h2⟩ := harr.2 hr' (by rw [hx]; exact hk); ⟨k₁, h1, .head h0 s0 h2⟩⟩
 | goto l => exact hq.elim
 | ret => exact ⟨_, a₁, w₁, hq, .of_steps (.one h0 s0) harr⟩
 | panic ch => exact ⟨_, a₁, w₁, hq, .of_steps (.one h0 s0) harr⟩
 | outgrown => exact ⟨_, a₁, w₁, hq, .of_steps (.one h0 s0) harr⟩
theorem put_size (w : World) (r : Nat) (o : Go.Obj) : (w.putObj r o).heap.size = w.heap.size := by simp [World.putObj]
theorem Rep.move {C : Cx} {H' : Hp} {w' : World} (hk : ∀ b, C.F b → b < C.w.heap.size → w'.heap[b]? = C.w.heap[b]?) (hH : ∀ o x', H' o = some x' → ∃ x, C.H o = some x ∧ x.isRow = x'.isRow ∧ x.cs.length = x'.cs.length) {x : AV} {v : Value} (h : Rep C x v) : Rep ⟨C.ρ, C.F, H', C.U, w'⟩ x v := by
 induction h with
 | d x v h => exact .d x v (h.keep (fun _ h => h) hk)
 | osl o off len sz ver cap A hl hU hv h =>
  refine .osl o off len sz ver cap A hl hU (fun x' hx' => ?_) (fun x' hx' e => ?_)
  ·obtain ⟨x, hx, _, e⟩ := hH o x' hx'; have := hv x hx; omega
  ·obtain ⟨x, hx, _, e2⟩ := hH o x' hx'; exact h x hx (by omega)
 | vsl o off len sz ver cap A hl hU hv h =>
  refine .vsl o off len sz ver cap A hl hU (fun x' hx' => ?_) (fun x' hx' e => ?_)
  ·obtain ⟨x, hx, _, e⟩ := hH o x' hx'; have := hv x hx; omega
  ·obtain ⟨x, hx, _, e2⟩ := hH o x' hx'; exact h x hx (by omega)
 | ptr o off ver a hU hv h =>
  refine .ptr o off ver a hU (fun x' hx' => ?_) (fun x' hx' e => ?_)
  ·obtain ⟨x, hx, _, e⟩ := hH o x' hx'; have := hv x hx; omega
  ·obtain ⟨x, hx, _, e2⟩ := hH o x' hx'; exact h x hx (by omega)
 | fn f hlt cs arr hn _ ih => exact .fn f hlt cs arr hn ih
 | bnd g f hlt hg cs arr hn _ ih => exact .bnd g f hlt hg cs arr hn ih
 | map o b hU h => exact .map o b hU fun x' hx' => by obtain ⟨x, hx, e1, _⟩ := hH o x' hx'; obtain ⟨q1, q2⟩ := h x hx; exact ⟨by rw [← e1]; exact q1, q2⟩
 | agg cs arr hn h1 _ ih => exact .agg cs arr hn h1 ih
 | tup cs arr hn _ ih => exact .tup cs arr hn ih
 | yld o b hU h => exact .yld o b hU fun x' hx' => by obtain ⟨x, hx, e1, _⟩ := hH o x' hx'; obtain ⟨q1, q2⟩ := h x hx; exact ⟨by rw [← e1]; exact q1, q2⟩
 | junk v => exact .junk v
theorem ObjOk.move {C : Cx} {H' : Hp} {w' : World} (hk : ∀ b, C.F b → b < C.w.heap.size → w'.heap[b]? = C.w.heap[b]?) (hH : ∀ o x', H' o = some x' → ∃ x, C.H o = some x ∧ x.isRow = x'.isRow ∧ x.cs.length = x'.cs.length) {o : Oid} {x : Am.Obj} (hb : ∀ b S, C.ρ o = some (b, S) → w'.heap[b]? = C.w.heap[b]?) (h : ObjOk C o x) : ObjOk ⟨C.ρ, C.F, H', C.U, w'⟩ o x := by
 cases x with
 | cells cs => obtain ⟨b, c, t, e, hh, hs, q1, hr⟩ := h; exact ⟨b, c, t, e, by rw [hb b _ e]; exact hh, hs, q1, fun j x hj => (hr j x hj).move hk hH⟩
 | grow cs => obtain ⟨b, S, c, t, e, hh, hs, hl, q1, hr⟩ := h; exact ⟨b, S, c, t, e, by rw [hb b _ e]; exact hh, hs, hl, q1, fun j x hj => (hr j x hj).move hk hH⟩
 | frz cs => obtain ⟨b, S, c, t, e, hF, hh, hs, hl, q1, hr⟩ := h; exact ⟨b, S, c, t, e, hF, by rw [hb b _ e]; exact hh, hs, hl, q1, fun j x hj => (hr j x hj).move hk hH⟩
 | vnil => exact h
 | mp sh es c =>
  obtain ⟨b, S, es', e, hh, hs, hr⟩ := h
  refine ⟨b, S, es', e, by rw [hb b _ e]; exact hh, hs, fun j k v n hj => ?_⟩
  obtain ⟨hf, x, h1, h2, h3, h4⟩ := hr j k v n hj
  exact ⟨hf, x, h1, h2, h3.move hk hH, h4⟩
 | rc ps as body tm j =>
  obtain ⟨b, S, r, w, e, hh, q1, q2, q3, q4, q5, q6⟩ := h
  exact ⟨b, S, r, w, e, by rw [hb b _ e]; exact hh, q1, q2, q3, q4, q5, fun k x hx => (q6 k x hx).move hk hH⟩
theorem rc_live {C : Cx} {o : Oid} {ps : List Tmp} {as bd : ACode} {tm : List AV} {j : RSt} (ho : C.H o = some (.rc ps as bd tm j)) {l S : Nat} (hρ : C.ρ o = some (l, S)) : Live C l := ⟨o, _, S, ho, rfl, hρ⟩
theorem rc_step {C : Cx} (hI : Inv C) {o : Oid} {ps : List Tmp} {as bd : ACode} {tm : List AV} {j j' : RSt} (ho : C.H o = some (.rc ps as bd tm j)) {l S : Nat} {r r' : Loop} (hρ : C.ρ o = some (l, S)) (hr : C.w.heap[l]? = some (.loop r))
  (h1 : r'.params = r.params) (h2 : r'.assign = r.assign) (h3 : r'.body = r.body) (h4 : r'.tmps = r.tmps) (hst : StateOk j' r') :
  Inv ⟨C.ρ, C.F, upd C.H o (.rc ps as bd tm j'), C.U, C.w.putObj l (.loop r')⟩ ∧ Ext C ⟨C.ρ, C.F, upd C.H o (.rc ps as bd tm j'), C.U, C.w.putObj l (.loop r')⟩ := by
 have hll : l < C.w.heap.size := (Array.getElem?_eq_some_iff.1 hr).1
 have hF : ¬ C.F l := hI.notF o _ l S ho rfl hρ
 have hother : ∀ b, b ≠ l → (C.w.putObj l (.loop r')).heap[b]? = C.w.heap[b]? := fun b hb => World.putObj_heap_other hb
 have hk : ∀ b, C.F b → b < C.w.heap.size → (C.w.putObj l (.loop r')).heap[b]? = C.w.heap[b]? := fun b hb _ => hother b fun e => hF (e ▸ hb)
 have hH : ∀ p x', upd C.H o (.rc ps as bd tm j') p = some x' → ∃ x, C.H p = some x ∧ x.isRow = x'.isRow ∧ x.cs.length = x'.cs.length := fun p x' hx => by
  simp only [upd] at hx
  split at hx
  ·rename_i e; cases hx; exact ⟨.rc ps as bd tm j, by rw [e]; exact ho, rfl, rfl⟩
  ·exact ⟨x', hx, rfl, rfl⟩
 have hz : ∀ p x', upd C.H o (.rc ps as bd tm j') p = some x' → ∃ x, C.H p = some x ∧ x.isFrz = x'.isFrz := fun p x' hx => by
  simp only [upd] at hx
  split at hx
  ·rename_i e; cases hx; exact ⟨.rc ps as bd tm j, by rw [e]; exact ho, rfl⟩
  ·exact ⟨x', hx, rfl⟩
 refine ⟨⟨fun p x hx => ?_, fun p x hx => ?_, fun p x b S' hx hfz hb => ?_, fun p p' x x' b S' S'' hx hx' hb hb' => ?_, fun b hb => by rw [put_size]; exact hI.Flt b hb⟩, ⟨fun _ h => h, fun _ h => h, fun _ h => .inl h, rfl, rfl, rfl, by rw [put_size]; exact Nat.le_refl _, fun b _ hl => hother b fun e => hl (e ▸ rc_live ho hρ), fun p x' hx _ => ?_, fun b ⟨p, x, S', hx, hfz, hb⟩ => ?_⟩⟩
 ·obtain ⟨y, hy, _⟩ := hH p x hx; exact hI.used p y hy
 ·by_cases e : p = o
  ·subst e
   simp only [upd, if_true] at hx
   cases hx
   obtain ⟨l', S', r0, w, e, hh, q1, q2, q3, q4, q5, q6⟩ := hI.obj p _ ho
   rw [hρ] at e; cases e
   rw [hr] at hh; cases hh
   refine ⟨l, S, r', w, hρ, World.putObj_heap_same hll, by rw [h1]; exact q1, by rw [h2]; exact q2, by rw [h3]; exact q3, hst, by rw [h4]; exact q5, fun k x hx => ?_⟩
   rw [h4]
   exact (q6 k x hx).move hk hH
  ·simp only [upd, if_neg e] at hx
   refine (hI.obj p x hx).move hk hH fun b S' hb => hother b fun e2 => ?_
   subst e2
   exact e (hI.inj p o x _ b S' S hx ho hb hρ)
 ·obtain ⟨y, hy, e⟩ := hz p x hx; exact hI.notF p y b S' hy (by rw [e]; exact hfz) hb
 ·obtain ⟨y, hy, _⟩ := hH p x hx; obtain ⟨y', hy', _⟩ := hH p' x' hx'; exact hI.inj p p' y y' b S' S'' hy hy' hb hb'
 ·obtain ⟨y, hy, e1, e2⟩ := hH p x' hx; exact ⟨y, hy, e1, by omega, fun _ => rfl⟩
 ·obtain ⟨y, hy, e⟩ := hz p x hx; exact .inl ⟨p, y, S', hy, by rw [e]; exact hfz, hb⟩
theorem rc_drop {C : Cx} (hI : Inv C) {o : Oid} {ps : List Tmp} {as bd : ACode} {tm : List AV} {j : RSt} (ho : C.H o = some (.rc ps as bd tm j)) {l S : Nat} (hρ : C.ρ o = some (l, S)) (z : Go.Obj) :
  Inv ⟨C.ρ, C.F, dropO C.H o, C.U, C.w.putObj l z⟩ ∧ Ext C ⟨C.ρ, C.F, dropO C.H o, C.U, C.w.putObj l z⟩ := by
 have hF : ¬ C.F l := hI.notF o _ l S ho rfl hρ
 have hother : ∀ b, b ≠ l → (C.w.putObj l z).heap[b]? = C.w.heap[b]? := fun b hb => World.putObj_heap_other hb
 have hk : ∀ b, C.F b → b < C.w.heap.size → (C.w.putObj l z).heap[b]? = C.w.heap[b]? := fun b hb _ => hother b fun e => hF (e ▸ hb)
 have hd : ∀ p x', dropO C.H o p = some x' → p ≠ o ∧ C.H p = some x' := fun p x' hx => by
  simp only [dropO] at hx
  split at hx
  ·cases hx
  ·rename_i e; exact ⟨e, hx⟩
 have hH : ∀ p x', dropO C.H o p = some x' → ∃ x, C.H p = some x ∧ x.isRow = x'.isRow ∧ x.cs.length = x'.cs.length := fun p x' hx => ⟨x', (hd p x' hx).2, rfl, rfl⟩
 refine ⟨⟨fun p x hx => hI.used p x (hd p x hx).2, fun p x hx => ?_, fun p x b S' hx hfz hb => hI.notF p x b S' (hd p x hx).2 hfz hb, fun p p' x x' b S' S'' hx hx' hb hb' => hI.inj p p' x x' b S' S'' (hd p x hx).2 (hd p' x' hx').2 hb hb', fun b hb => by rw [put_size]; exact hI.Flt b hb⟩, ⟨fun _ h => h, fun _ h => h, fun _ h => .inl h, rfl, rfl, rfl, by rw [put_size]; exact Nat.le_refl _, fun b _ hl => hother b fun e => hl (e ▸ rc_live ho hρ), fun p x' hx _ => ⟨x', (hd p x' hx).2, rfl, Nat.le_refl _, fun _ => rfl⟩, fun b ⟨p, x, S', hx, hfz, hb⟩ => .inl ⟨p, x, S', (hd p x hx).2, hfz, hb⟩⟩⟩
 obtain ⟨hne, hx2⟩ := hd p x hx
 refine (hI.obj p x hx2).move hk hH fun b S' hb => hother b fun e2 => ?_
 subst e2
 exact hne (hI.inj p o x _ b S' S hx2 ho hb hρ)
theorem shut_ok {A C : Cx} (hI : Inv C) (hE : Ext A C) {D : Nat} {z : Option (List Deferred)} (hA : A.w.heap.size ≤ D) (hD : C.w.heap[D]? = some (.deferred z)) (hl : ¬ Live C D) (hF : ¬ C.F D) (z' : Go.Obj) :
  Inv ⟨C.ρ, C.F, C.H, C.U, C.w.putObj D z'⟩ ∧ Ext A ⟨C.ρ, C.F, C.H, C.U, C.w.putObj D z'⟩ ∧ ∀ x v, Rep C x v → Rep ⟨C.ρ, C.F, C.H, C.U, C.w.putObj D z'⟩ x v := by
 have hother : ∀ b, b ≠ D → (C.w.putObj D z').heap[b]? = C.w.heap[b]? := fun b hb => World.putObj_heap_other hb
 have hk : ∀ b, C.F b → b < C.w.heap.size → (C.w.putObj D z').heap[b]? = C.w.heap[b]? := fun b hb _ => hother b fun e => hF (e ▸ hb)
 have hH : ∀ p x', C.H p = some x' → ∃ x, C.H p = some x ∧ x.isRow = x'.isRow ∧ x.cs.length = x'.cs.length := fun p x' hx => ⟨x', hx, rfl, rfl⟩
 have hblk : ∀ p x, C.H p = some x → ∀ b S, C.ρ p = some (b, S) → b ≠ D := fun p x hx b S hb e => by
  subst e
  have := hI.obj p x hx
  cases x with
  | cells cs => obtain ⟨b', c, t, e, hh, _⟩ := this; rw [hb] at e; cases e; rw [hD] at hh; cases hh
  | grow cs => obtain ⟨b', S', c, t, e, hh, _⟩ := this; rw [hb] at e; cases e; rw [hD] at hh; cases hh
  | frz cs => obtain ⟨b', S', c, t, e, _, hh, _⟩ := this; rw [hb] at e; cases e; rw [hD] at hh; cases hh
  | vnil => rw [show C.ρ p = none from this] at hb; cases hb
  | mp sh es c => obtain ⟨b', S', es', e, hh, _⟩ := this; rw [hb] at e; cases e; rw [hD] at hh; cases hh
  | rc ps as bd tm j => obtain ⟨b', S', r, w, e, hh, _⟩ := this; rw [hb] at e; cases e; rw [hD] at hh; cases hh
 refine ⟨⟨hI.used, fun p x hx => (hI.obj p x hx).move hk hH fun b S hb => hother b (hblk p x hx b S hb), hI.notF, hI.inj, fun b hb => by rw [put_size]; exact hI.Flt b hb⟩, ⟨hE.U, hE.F, hE.F', hE.os, hE.tape, hE.output, by rw [put_size]; exact hE.size, fun b hb hn => ?_, hE.live, hE.blk⟩, fun x v h => h.move hk hH⟩
 rw [hother b (by omega)]
 exact hE.keep b hb hn
def HoleOk (P : Program) (pol : Pol) : Prop := ∀ c g, pol.hole c = some g → ∀ st e st', g st = some (e, st') →
 ∀ (B : Nat) (C : Cx) (a : Act) (Q : Exit → Act → World → Prop), StOk B C st a → (∀ C' a', Post B C st C' st' a' → Q (exOf e) a' C'.w) → c.wp P Q a C.w
theorem upd_at (H : Hp) (o : Oid) (x : Am.Obj) : upd H o x o = some x := by simp [upd]
theorem rfun_sim {pol : Pol} {cl : CallF} {lp : LoopF} (hcl : SimC P cl) {w : Bool} {k : Nat} {g : Operand} {ps : Array Tmp} {x y : Code} {ax ay : ACode} {st : St} {e : Ex} {st' : St} (hax : compile w x = some (strip ax)) (hay : compile w y = some (strip ay))
  (h : exec P pol cl lp (.rfun g ps.toList ax ay) st = some (e, st')) (C : Cx) (a : Act) (Q : Exit → Act → World → Prop) (hs : StOk B C st a) (hq : ∀ C' a', Post B C st C' st' a' → Q (exOf e) a' C'.w) :
  (Code.rangeFunc g ps x y).wpIn (frn none) k P Q a C.w := by
 simp only [exec, Option.bind_eq_some_iff] at h
 obtain ⟨⟨f, cap⟩, hg, h⟩ := h
 simp only at h
 split at h
 ·cases h
 rename_i hge
 have hne : f ≠ yieldF := fun e => hge (by rw [e]; exact Nat.le_refl _)
 simp only [Option.bind_eq_some_iff] at h
 obtain ⟨⟨v, H', nx'⟩, hc, h⟩ := h
 obtain ⟨hH, hI, hlt, hT, hdf⟩ := hs
 have hgv := hT.ev g
 obtain ⟨arr, hfv, harr⟩ : ∃ arr : Array Value, a.eval g = .func (.func f) #[] arr ∧ (arr.size = cap.length ∧ ∀ j x, cap[j]? = some x → Rep C x (arr.getD j undef)) := by
  rcases isFnD_cases hg with ⟨_, hX⟩ | ⟨p, _, rfl, _⟩
  ·obtain ⟨fst, arr, hfv, hnf, ⟨hle, rfl, ha⟩ | ⟨hle, _⟩⟩ := isFnD_rep hX hgv
   ·exact ⟨arr, by rw [hfv, show numF f = f from if_pos hle], ha⟩
   ·exact absurd (Nat.le_of_lt (Nat.lt_of_not_le hge)) hle
  ·exact absurd (Nat.le_refl _) hge
 refine wpIn_rangeFunc (F := frn none) fun fn _ => ?_
 obtain ⟨N, hN⟩ : ∃ N, N = C.w.heap.size := ⟨_, rfl⟩
 obtain ⟨r, hr⟩ : ∃ r : Loop, r = { state := .ready, pending := none, fn := fn, tmps := a.tmps, params := ps, assign := x, body := y, defers := N } := ⟨_, rfl⟩
 obtain ⟨w1, hw1⟩ : ∃ w1, w1 = (C.w.alloc (.deferred (some []))).alloc (.loop r) := ⟨_, rfl⟩
 have he := run_enterLoop_outer (P := P) (w := C.w) fn a.tmps ps x y
 rw [← hN, ← hr, ← hw1] at he
 have hg1 : Grew C.w w1 := by rw [hw1]; exact (Grew.alloc _ _).trans (Grew.alloc _ _)
 have hs0 : (C.w.alloc (.deferred (some []))).heap.size = N + 1 := by rw [World.size_alloc, hN]
 have hs1 : w1.heap.size = N + 2 := by rw [hw1, World.size_alloc, hs0]
 have hl1 : w1.heap[N + 1]? = some (.loop r) := by rw [hw1, ← hs0]; exact World.alloc_heap_new _ _
 have hd1 : w1.heap[N]? = some (.deferred (some [])) := by
  have q : (C.w.alloc (.deferred (some []))).heap[N]? = some (.deferred (some [])) := by rw [hN]; exact World.alloc_heap_new _ _
  rw [hw1, (Grew.alloc (C.w.alloc (.deferred (some []))) (.loop r)).block N (by omega)]
  exact q
 obtain ⟨o, ho⟩ : ∃ o : Oid, o = (st.nx, 0) := ⟨_, rfl⟩
 have hoU : ¬ C.U o := fun hu => by have := hlt o hu; rw [ho] at this; simp at this
 obtain ⟨ρ1, hρ1⟩ : ∃ ρ1 : Oid → Option (Nat × Nat), ρ1 = fun p => if p = o then some (N + 1, 0) else C.ρ p := ⟨_, rfl⟩
 obtain ⟨H1, hH1⟩ : ∃ H1 : Hp, H1 = upd st.hp o (.rc ps.toList ax ay st.tm .ready) := ⟨_, rfl⟩
 have ρo : ρ1 o = some (N + 1, 0) := by rw [hρ1]; simp
 have ρp : ∀ p, p ≠ o → ρ1 p = C.ρ p := fun p hp => by rw [hρ1]; simp [hp]
 have Ho : H1 o = some (.rc ps.toList ax ay st.tm .ready) := by rw [hH1]; exact upd_at _ _ _
 have Hp' : ∀ p, p ≠ o → H1 p = C.H p := fun p hp => by rw [hH1, hH]; simp [upd, hp]
 have hE1 : Ext C ⟨ρ1, C.F, H1, fun p => C.U p ∨ p = o, w1⟩ := ext_fresh hI hg1 (fun _ h => .inl h) (fun p hp => ⟨Hp' p fun e => hoU (e ▸ hp), ρp p fun e => hoU (e ▸ hp)⟩) fun p x hx hnu b S hb => by
  by_cases hpo : p = o
  ·subst hpo; rw [ρo] at hb; cases hb; omega
  ·rw [Hp' p hpo] at hx; exact absurd (hI.used p x hx) hnu
 have hblt : ∀ p z b S, p ≠ o → H1 p = some z → ρ1 p = some (b, S) → b < N := fun p z b S hp hz hb => by
  rw [Hp' p hp] at hz; rw [ρp p hp] at hb; rw [hN]; exact (hI.obj p z hz).block_lt hb
 have hI1 : Inv ⟨ρ1, C.F, H1, fun p => C.U p ∨ p = o, w1⟩ := by
  refine ⟨fun p z hz => ?_, fun p z hz => ?_, fun p z b S hz hfz hb => ?_, fun p p' z z' b S S' hz hz' hb hb' => ?_, fun b hb => Nat.lt_of_lt_of_le (hI.Flt b hb) hg1.size⟩
  ·by_cases hpo : p = o
   ·exact .inr hpo
   ·exact .inl (hI.used p z (by rw [← Hp' p hpo]; exact hz))
  ·by_cases hpo : p = o
   ·subst hpo
    have hz : H1 p = some z := hz
    rw [Ho] at hz; cases hz
    exact ⟨N + 1, 0, r, w, ρo, hl1, by rw [hr], by rw [hr]; exact hax, by rw [hr]; exact hay, ⟨by rw [hr], by rw [hr]⟩, by rw [hr]; exact hT.size, fun k x hx => by rw [hr]; exact (hT.rep k x hx).ext hI hE1⟩
   ·have hz2 := (Hp' p hpo).symm.trans hz
    exact (hI.obj p z hz2).keep hI hE1 (ρp p hpo) fun b S hb => hg1.block b ((hI.obj p z hz2).block_lt hb)
  ·by_cases hpo : p = o
   ·subst hpo
    have hb : ρ1 p = some (b, S) := hb
    rw [ρo] at hb; cases hb
    exact fun hF => by have := hI.Flt _ hF; omega
   ·exact hI.notF p z b S (by rw [← Hp' p hpo]; exact hz) hfz (by rw [← ρp p hpo]; exact hb)
  ·by_cases hpo : p = o <;> by_cases hpo' : p' = o
   ·rw [hpo, hpo']
   ·subst hpo
    have hb : ρ1 p = some (b, S) := hb
    rw [ρo] at hb; cases hb
    have := hblt p' z' _ S' hpo' hz' hb'; omega
   ·subst hpo'
    have hb' : ρ1 p' = some (b, S') := hb'
    rw [ρo] at hb'; cases hb'
    have := hblt p z _ S hpo hz hb; omega
   ·exact hI.inj p p' z z' b S S' (by rw [← Hp' p hpo]; exact hz) (by rw [← Hp' p' hpo']; exact hz') (by rw [← ρp p hpo]; exact hb) (by rw [← ρp p' hpo']; exact hb')
 have hDl : ¬ Live ⟨ρ1, C.F, H1, fun p => C.U p ∨ p = o, w1⟩ N := fun ⟨p, z, S, hz, _, hb⟩ => by
  by_cases hpo : p = o
  ·subst hpo
   have hb : ρ1 p = some (N, S) := hb
   rw [ρo] at hb; cases hb
  ·have := hblt p z N S hpo hz hb; omega
 have hDF : ¬ C.F N := fun hF => by have := hI.Flt _ hF; omega
 have hdf1 : Marks B ⟨ρ1, C.F, H1, fun p => C.U p ∨ p = o, w1⟩ ([{ target := .collected N, args := #[] }] ++ a.defers) := by
  have h0 := hdf.ext hE1
  refine ⟨h0.le, List.pairwise_cons.2 ⟨fun d hd => ?_, h0.nd⟩, fun d hd => ?_⟩
  ·obtain ⟨D, e, _, hh, _⟩ := hdf.all d hd
   have hlt : D < C.w.heap.size := (Array.getElem?_eq_some_iff.1 hh).1
   rw [e]
   simp only [ne_eq, Target.collected.injEq]
   omega
  ·rcases List.mem_cons.1 hd with rfl | hd
   ·exact ⟨N, rfl, by rw [hN]; exact hdf.le, hd1, hDl, hDF⟩
   ·exact h0.all d hd
 have hres : (resolve a.eval (rangeCall g (N + 1)) 0).run P w1 = .ok { target := .fn (.func f) arr, args := #[.func (.yield (N + 1)) #[] #[]] } w1 := by
  simp only [resolve, Deferred.ofValue, hfv, Sem.run_pure]
  simp [Act.eval]
 have hvals : (#[Value.func (.yield (N + 1)) #[] #[]] ++ arr).size = ([AV.yld o] ++ cap).length ∧ ∀ j x, ([AV.yld o] ++ cap)[j]? = some x → Rep ⟨ρ1, C.F, H1, fun p => C.U p ∨ p = o, w1⟩ x ((#[Value.func (.yield (N + 1)) #[] #[]] ++ arr).getD j undef) := by
  refine ⟨by simp [harr.1]; omega, fun j x hx => ?_⟩
  cases j with
  | zero =>
   simp at hx
   subst hx
   have : (#[Value.func (.yield (N + 1)) #[] #[]] ++ arr).getD 0 undef = Value.func (.yield (N + 1)) #[] #[] := by
    rw [Array.getD_eq_getD_getElem?, Array.getElem?_append]; simp
   rw [this]
   exact .yld o (N + 1) (.inr rfl) fun x hx => by
    have hx : H1 o = some x := hx
    rw [Ho] at hx; cases hx; exact ⟨rfl, 0, ρo⟩
  | succ j =>
   have hx : cap[j]? = some x := by simpa using hx
   have : (#[Value.func (.yield (N + 1)) #[] #[]] ++ arr).getD (j + 1) undef = arr.getD j undef := by
    rw [Array.getD_eq_getD_getElem?, Array.getD_eq_getD_getElem?, Array.getElem?_append]
    simp
   rw [this]
   exact (harr.2 j x hx).ext hI hE1
 have hc' : cl f ([AV.yld o] ++ cap) H1 (st.nx + 1) = some (v, H', nx') := by rw [hH1, ho]; exact hc
 obtain ⟨⟨fn2, hfn2, hnm, hbd⟩, hsim⟩ := hcl.fn f hne _ _ _ _ _ _ hc'
 have hcalls := hsim ⟨ρ1, C.F, H1, fun p => C.U p ∨ p = o, w1⟩ (#[Value.func (.yield (N + 1)) #[] #[]] ++ arr) hI1 rfl (fun p hp => by
  rcases hp with hp | rfl
  ·have := hlt p hp; omega
  ·rw [ho]; simp) hvals
 have hinv : (invoke (.fn (.func f) arr) #[.func (.yield (N + 1)) #[] #[]]).run P w1 = .ok (.enter f (#[.func (.yield (N + 1)) #[] #[]] ++ arr)) w1 := by
  simp only [invoke, callFunc, Sem.run_bind, run_program, hfn2, Result.andThen_ok, hnm, hbd, Bool.false_eq_true, if_false, Sem.run_pure]
 refine ⟨N + 1, [{ target := .collected N, args := #[] }], w1, _, w1, f, _, w1, he, hres, fun _ _ => trivial, hinv, fun h => by simp [frn, Fence.wide] at h, (callsIn_wide (n := k - 1)).2 (hcalls.mono ?_)⟩
 rintro en w' ⟨z, C2, rfl, rfl, hp⟩
 obtain ⟨ps2, as2, bd2, tm2, j, hHo, hj⟩ : ∃ ps2 as2 bd2 tm2 j, H' o = some (.rc ps2 as2 bd2 tm2 j) ∧ ((j = .ready ∧ e = .normal ∨ j = .left e) ∧ st' = ⟨st.tm, dropO H' o, nx'⟩) := by
  rw [ho]
  split at h
  ·rename_i hh; cases h; exact ⟨_, _, _, _, _, hh, .inl ⟨rfl, rfl⟩, rfl⟩
  ·rename_i hh; cases h; exact ⟨_, _, _, _, _, hh, .inr rfl, rfl⟩
  ·cases h
 obtain ⟨hj, rfl⟩ := hj
 have hC2 : C2.H o = some (.rc ps2 as2 bd2 tm2 j) := by rw [hp.H]; exact hHo
 have hρ2 : C2.ρ o = some (N + 1, 0) := by
  obtain ⟨x0, hx0, e1, e2, e3⟩ := hp.ext.live o _ hC2 (.inr rfl)
  have hx0 : H1 o = some x0 := hx0
  rw [Ho] at hx0; cases hx0
  exact (e3 rfl).trans ρo
 obtain ⟨l', S', r2, w2, e1, hh2, _, _, _, hst2, _⟩ := hp.inv.obj o _ hC2
 rw [hρ2] at e1; cases e1
 have hnb : r2.state ≠ .busy := by
  rcases hj with ⟨rfl, _⟩ | rfl
  ·obtain ⟨q, _⟩ := hst2; rw [q]; simp
  ·obtain ⟨q, _⟩ := hst2; rw [q]; simp
 have hpend : r2.pending = codeOf e := by
  rcases hj with ⟨rfl, rfl⟩ | rfl
  ·exact hst2.2
  ·exact hst2.2
 obtain ⟨hI3, hE3⟩ := rc_drop hp.inv hC2 hρ2 (.loop { r2 with state := .exhausted })
 have hdf3 := (hdf1.ext hp.ext).ext hE3
 have hpost : Post B C st ⟨C2.ρ, C2.F, dropO C2.H o, C2.U, C2.w.putObj (N + 1) (.loop { r2 with state := .exhausted })⟩ ⟨st.tm, dropO H' o, nx'⟩ { a with defers := [{ target := .collected N, args := #[] }] ++ a.defers } :=
  ⟨⟨by rw [hp.H], hI3, hp.lt, ⟨hT.size, fun k x hx => (((hT.rep k x hx).ext hI hE1).ext hI1 hp.ext).ext hp.inv hE3⟩, hdf3⟩, (hE1.trans hp.ext).trans hE3, Nat.le_trans (Nat.le_succ _) hp.le, fun p hu => by
   rcases hp.use p hu with q | q
   ·rcases q with q | q
    ·exact .inl q
    ·rw [q, ho]; exact .inr (Nat.le_refl _)
   ·exact .inr (by have : st.nx + 1 ≤ p.1 := q; show st.nx ≤ p.1; omega)⟩
 have hQ := hq _ _ hpost
 refine ⟨_, _, run_endLoop hh2 hnb, ?_⟩
 split
 ·rename_i hp0
  rw [hp0] at hpend
  cases e with
  | normal => exact hQ
  | exit id => cases hpend
  | ret => cases hpend
 ·rename_i c hp0
  rw [hp0] at hpend
  cases e with
  | normal => cases hpend
  | exit id => cases hpend; exact wpIn_exit hQ
  | ret => cases hpend; exact wpIn_ret hQ
theorem exec_sim (hm : P.follows .mixedOrders = true) {pol : Pol} (hh : HoleOk P pol) {cl : CallF} {lp : LoopF} {n : Nat} (hcl : SimC P cl) (hlp : SimL P lp n) {w : Bool} {q : Option Nat} {k : Nat} : ∀ (c : Code) (ac : ACode) (st : St) (e : Ex) (st' : St), compile w c = some (strip ac) → exec P pol cl lp ac st = some (e, st') → (q = none ∨ noR ac = true) →
  ∀ (C : Cx) (a : Act) (Q : Exit → Act → World → Prop), StOk B C st a → (∀ C' a', Post B C st C' st' a' → Q (exOf e) a' C'.w) → c.wpIn (frn q) k P Q a C.w := by
 intro c
 induction c with
 | skip =>
  intro ac st e st' hc h hnr C a Q hs hq
  cases ac <;> simp only [compile, strip, Option.some.injEq, reduceCtorEq] at hc
  try subst hc
  cases h
  exact wpIn_skip (hq C a ⟨hs, .refl hs.inv, Nat.le_refl _, fun _ h => .inl h⟩)
 | region id ops dr =>
  intro ac st e st' hc h hnr C a Q hs hq
  simp only [compile, Option.bind_eq_some_iff] at hc
  obtain ⟨al, hal, hc⟩ := hc
  cases dr with
  | true =>
   simp only [if_true, Option.bind_eq_some_iff] at hc
   obtain ⟨al, hal, hc⟩ := hc
   split at hc
   ·rename_i hok
    cases ac <;> simp only [strip, Option.some.injEq, reduceCtorEq, ACode.dregion.injEq] at hc
    subst hc
    simp only [exec, Option.bind_eq_some_iff] at h
    obtain ⟨s1, h1, h⟩ := h
    cases h
    exact dregion_sim hm hcl hal hok hs h1 hq
   ·simp only [Option.map_eq_some_iff] at hc
    obtain ⟨prs, hok, hc⟩ := hc
    cases ac <;> simp only [strip, reduceCtorEq, ACode.tregion.injEq] at hc
    obtain ⟨rfl, rfl⟩ := hc
    simp only [exec, Option.bind_eq_some_iff] at h
    obtain ⟨⟨s1, lg⟩, h1, h⟩ := h
    split at h
    ·rename_i hlg
     cases h
     exact tregion_sim hm hcl hal hok hlg hs h1 hq
    ·cases h
  | false =>
   simp only [Bool.false_eq_true, if_false, Option.some.injEq] at hc
   cases ac <;> simp only [strip, reduceCtorEq, ACode.region.injEq] at hc
   subst hc
   simp only [exec, Option.bind_eq_some_iff] at h
   obtain ⟨s1, h1, h⟩ := h
   cases h
   exact region_sim hcl hal hs h1 hq
 | scope x ih =>
  intro ac st e st' hc h hnr C a Q hs hq
  refine wpIn_scope (ih ac st e st' hc h hnr C a _ hs fun C' a' hp => ?_)
  have := hq C' a' hp
  cases e <;> exact this
 | seq x y ihx ihy =>
  intro ac st e st' hc h hnr C a Q hs hq
  simp only [compile] at hc
  split at hc
  ·cases ac <;> simp only [strip, Option.some.injEq, reduceCtorEq, ACode.hole.injEq] at hc
   subst hc
   simp only [exec, Option.bind_eq_some_iff] at h
   obtain ⟨g, hg, h⟩ := h
   obtain rfl : q = none := hnr.resolve_right (by simp [noR])
   exact wpIn_wide.2 (hh _ g hg st e st' h B C a Q hs hq)
  simp only [Option.bind_eq_bind, Option.bind_eq_some_iff] at hc
  obtain ⟨ax, hax, ay, hay, hc⟩ := hc
  cases ac <;> simp only [strip, Option.some.injEq, reduceCtorEq, ACode.seq.injEq] at hc
  obtain ⟨rfl, rfl⟩ := hc
  simp only [exec, Option.bind_eq_some_iff] at h
  obtain ⟨⟨e1, s1⟩, h1, h⟩ := h
  have hn1 : q = none ∨ noR _ = true := hnr.imp (fun h => h) (fun h => (by simp only [noR, Bool.and_eq_true] at h; exact h.1))
  have hn2 : q = none ∨ noR _ = true := hnr.imp (fun h => h) (fun h => (by simp only [noR, Bool.and_eq_true] at h; exact h.2))
  refine wpIn_seq (ihx _ st e1 s1 hax h1 hn1 C a _ hs fun C1 a1 hp1 => ?_)
  cases e1 with
  | normal => exact ihy _ s1 e st' hay h hn2 C1 a1 Q hp1.ok fun C' a' hp => hq C' a' (hp1.trans hp)
  | exit j => cases h; exact hq C1 a1 hp1
  | ret => cases h; exact hq C1 a1 hp1
 | cond x y z ihy ihz =>
  intro ac st e st' hc h hnr C a Q hs hq
  simp only [compile, Option.bind_eq_bind, Option.bind_eq_some_iff] at hc
  obtain ⟨ay, hay, az, haz, hc⟩ := hc
  cases ac <;> simp only [strip, Option.some.injEq, reduceCtorEq, ACode.cond.injEq] at hc
  obtain ⟨rfl, rfl, rfl⟩ := hc
  simp only [exec] at h
  split at h
  ·rename_i t ht
   have hx := hs.tm.ev x
   rw [ht] at hx
   have hd := hx.dinv
   generalize hu : a.eval x = u at hd
   cases hd
   have hn1 : q = none ∨ noR _ = true := hnr.imp (fun h => h) (fun h => (by simp only [noR, Bool.and_eq_true] at h; exact h.1))
   have hn2 : q = none ∨ noR _ = true := hnr.imp (fun h => h) (fun h => (by simp only [noR, Bool.and_eq_true] at h; exact h.2))
   refine wpIn_cond hu ?_
   cases t with
   | true => exact ihy _ st e st' hay (by simpa using h) hn1 C a Q hs hq
   | false => exact ihz _ st e st' haz (by simpa using h) hn2 C a Q hs hq
  ·cases h
 | block id x ih =>
  intro ac st e st' hc h hnr C a Q hs hq
  simp only [compile, Option.bind_eq_bind, Option.bind_eq_some_iff] at hc
  obtain ⟨ax, hax, hc⟩ := hc
  cases ac <;> simp only [strip, Option.some.injEq, reduceCtorEq, ACode.block.injEq] at hc
  obtain ⟨rfl, rfl⟩ := hc
  simp only [exec, Option.bind_eq_some_iff] at h
  obtain ⟨⟨e1, s1⟩, h1, h⟩ := h
  refine wpIn_block (ih _ st e1 s1 hax h1 hnr C a _ hs fun C1 a1 hp1 => ?_)
  cases e1 with
  | normal => cases h; exact hq C1 a1 hp1
  | exit j =>
   simp only [Option.some.injEq] at h
   simp only [exOf, Exit.inBlock]
   by_cases hj : j = id
   ·rw [if_pos hj] at h ⊢
    cases h
    exact hq C1 a1 hp1
   ·rw [if_neg hj] at h ⊢
    cases h
    exact hq C1 a1 hp1
  | ret => cases h; exact hq C1 a1 hp1
 | loop x ih =>
  intro ac st e st' hc h hnr C a Q hs hq
  simp only [compile, Option.bind_eq_bind, Option.bind_eq_some_iff] at hc
  obtain ⟨ax, hax, hc⟩ := hc
  cases ac <;> simp only [strip, Option.some.injEq, reduceCtorEq, ACode.loop.injEq, true_and] at hc
  subst hc
  simp only [exec] at h
  exact wpIn_loop_rounds n (hlp w x _ _ _ e st' hax h B k q hnr C a Q (clean_ok _ hs) fun C' a' hp => hq C' a' ⟨hp.ok, hp.ext, hp.nx, hp.use⟩)
 | exit id =>
  intro ac st e st' hc h hnr C a Q hs hq
  cases ac <;> simp only [compile, strip, Option.some.injEq, reduceCtorEq, ACode.exit.injEq] at hc
  subst hc
  cases h
  exact wpIn_exit (hq C a ⟨hs, .refl hs.inv, Nat.le_refl _, fun _ h => .inl h⟩)
 | label l =>
  intro ac st e st' hc h hnr C a Q hs hq
  cases ac <;> simp only [compile, strip, Option.some.injEq, reduceCtorEq] at hc
  try subst hc
  cases h
  exact wpIn_label (hq C a ⟨hs, .refl hs.inv, Nat.le_refl _, fun _ h => .inl h⟩)
 | ret =>
  intro ac st e st' hc h hnr C a Q hs hq
  cases ac <;> simp only [compile, strip, Option.some.injEq, reduceCtorEq] at hc
  try subst hc
  cases h
  exact wpIn_ret (hq C a ⟨hs, .refl hs.inv, Nat.le_refl _, fun _ h => .inl h⟩)
 | rangeFunc g ps x y ihx ihy =>
  intro ac st e st' hc h hnr C a Q hs hq
  simp only [compile, Option.bind_eq_bind, Option.bind_eq_some_iff] at hc
  obtain ⟨ax, hax, ay, hay, hc⟩ := hc
  cases ac <;> simp only [strip, Option.some.injEq, reduceCtorEq, ACode.rfun.injEq] at hc
  obtain ⟨rfl, rfl, rfl, rfl⟩ := hc
  obtain rfl : q = none := hnr.resolve_right (by simp [noR])
  exact rfun_sim hcl hax hay h C a Q hs hq
 | goto => intro ac st e st' hc; cases hc
 | refuse => intro ac st e st' hc; cases hc
def PolOk (P : Program) (pol : Pol) : Prop := ExtOk P pol ∧ HoleOk P pol
theorem back_ok {C : Cx} {st : St} {a : Act} (m : Mask) (hs : StOk B C st a) : ∃ C', C'.w = C.w ∧ StOk B C' (back m st) a ∧ Ext C C' ∧ C'.U = C.U := by
 have hsub : ∀ o x, forgetH m.nx st.hp o = some x → C.H o = some x := fun o x h => by
  rw [hs.H]
  cases hm : m.nx with
  | none => rw [hm] at h; exact h
  | some k => rw [hm] at h; simp only [forgetH] at h; split at h <;> first | exact h | cases h
 obtain ⟨hI, hE⟩ := drop_ok hs.inv hsub
 refine ⟨⟨C.ρ, C.F, forgetH m.nx st.hp, C.U, C.w⟩, rfl, ⟨rfl, hI, hs.lt, ⟨?_, fun j x hx => ?_⟩, hs.df.ext hE⟩, hE, rfl⟩
 ·show a.tmps.size = (maskT m.ks st.tm).length
  rw [maskT_len]; exact hs.tm.size
 ·rcases maskT_get m.ks st.tm j x hx with rfl | q
  ·exact .junk _
  ·exact (hs.tm.rep j x q).ext hs.inv hE
theorem loop_sim (hm : P.follows .mixedOrders = true) {pol : Pol} (hh : HoleOk P pol) {cl : CallF} {lp : LoopF} {n : Nat} (hcl : SimC P cl) (hlp : SimL P lp n) : SimL P (loopF P pol cl lp) (n + 1) := by
 intro w c ac m st e st' hc h B k q hnr C a Q hs hq
 simp only [loopF, Option.bind_eq_some_iff] at h
 obtain ⟨⟨e1, s1⟩, h1, h⟩ := h
 rw [roundsIn_succ]
 refine exec_sim hm hh hcl hlp c ac st e1 s1 hc h1 hnr C a _ hs fun C1 a1 hp1 => ?_
 cases e1 with
 | normal =>
  simp only at h
  obtain ⟨C2, hw2, hs2, he2, hU2⟩ := back_ok m hp1.ok
  have := hlp w c ac m (back m s1) e st' hc h B k q hnr C2 a1 Q hs2 fun C' a' hp => hq C' a' (hp1.trans ⟨hp.ok, he2.trans hp.ext, hp.nx, fun o ho => by rw [← hU2]; exact hp.use o ho⟩)
  rw [hw2] at this
  exact this
 | exit j =>
  cases h
  obtain ⟨C2, hw2, hs2, he2, hU2⟩ := back_ok m hp1.ok
  have := hq C2 a1 (hp1.trans ⟨hs2, he2, Nat.le_refl _, fun o ho => .inl (by rw [← hU2]; exact ho)⟩)
  rw [hw2] at this
  exact this
 | ret =>
  cases h
  obtain ⟨C2, hw2, hs2, he2, hU2⟩ := back_ok m hp1.ok
  have := hq C2 a1 (hp1.trans ⟨hs2, he2, Nat.le_refl _, fun o ho => .inl (by rw [← hU2]; exact ho)⟩)
  rw [hw2] at this
  exact this
def resRun (tmps : Array Value) : ResultVar → Sem Value
 | .tmp t => pure (tmps.getD t undef)
 | .cell a t => do loadVar t (← asAddr (tmps.getD a undef))
theorem results_eq (fn : Func) (tmps : Array Value) : Go.results fn tmps = (do let vs ← fn.results.mapM (resRun tmps); pure (if h : vs.size = 1 then vs[0] else .tuple vs)) := by
 unfold Go.results
 congr 2
theorem resultOf_sim {C : Cx} {st : St} {a : Act} (hs : StOk B C st a) {rv : ResultVar} {x : AV} (h : resultOf P st rv = some x) : ∃ z, (resRun a.tmps rv).run P C.w = .ok z C.w ∧ Rep C x z := by
 cases rv with
 | tmp t => cases h; exact ⟨_, rfl, hs.tm.getD t⟩
 | cell b t =>
  simp only [resultOf] at h
  rw [← hs.H] at h
  have hb := hs.tm.getD b
  obtain ⟨z, hz, hr⟩ := load_sim hs.inv h hb
  refine ⟨z, ?_, hr⟩
  simp only [resRun]
  generalize hu : a.tmps.getD b undef = u at hz ⊢
  simp only [Instr.loadAt, Sem.run_bind] at hz ⊢
  cases u with
  | pointer p =>
   cases p with
   | some ad => simpa [Instr.sureAddr, asAddr] using hz
   | none => simp [Instr.sureAddr] at hz
  | _ => simp [Instr.sureAddr] at hz
theorem mapM_results {C : Cx} {st : St} {a : Act} (hs : StOk B C st a) : ∀ {rs : List ResultVar} {xs : List AV}, rs.mapM (resultOf P st) = some xs →
  ∃ zs : List Value, (rs.mapM (resRun a.tmps)).run P C.w = .ok zs C.w ∧ zs.length = xs.length ∧ ∀ (j : Nat) (x : AV), xs[j]? = some x → ∃ z, zs[j]? = some z ∧ Rep C x z := by
 intro rs
 induction rs with
 | nil => intro xs h; simp at h; subst h; exact ⟨[], rfl, rfl, fun j x h => by simp at h⟩
 | cons r rs ih =>
  intro xs h
  simp only [List.mapM_cons, Option.bind_eq_bind, Option.bind_eq_some_iff] at h
  obtain ⟨x, hx, l, hl, h⟩ := h
  cases h
  obtain ⟨z, hz, hr⟩ := resultOf_sim (P := P) hs hx
  obtain ⟨zs, hzs, hlen, hall⟩ := ih hl
  refine ⟨z :: zs, ?_, by simp [hlen], fun j y hy => ?_⟩
  ·simp only [List.mapM_cons, Sem.run_bind, Sem.run_pure, hz, Result.andThen_ok, hzs]
  ·cases j with
   | zero => simp at hy; subst hy; exact ⟨z, rfl, hr⟩
   | succ j => simpa using hall j y (by simpa using hy)
theorem results_sim {C : Cx} {st : St} {a : Act} (hs : StOk B C st a) {fn : Func} {x : AV} (h : results P st fn.results.toList = some x) : ∃ z, (Go.results fn a.tmps).run P C.w = .ok z C.w ∧ Rep C x z := by
 unfold results at h
 simp only [Option.bind_eq_bind, Option.bind_eq_some_iff] at h
 obtain ⟨xs, hxs, h⟩ := h
 obtain ⟨zs, hzs, hlen, hall⟩ := mapM_results hs hxs
 have hrun : (Go.results fn a.tmps).run P C.w = .ok (if h : zs.toArray.size = 1 then zs.toArray[0] else .tuple zs.toArray) C.w := by
  rw [results_eq, Array.mapM_eq_mapM_toList]
  simp only [Sem.run_bind, Sem.run_map, hzs, Result.andThen_ok, Sem.run_pure]
 match xs, hxs, hlen, hall, h with
 | [], _, hlen, hall, h =>
  cases h
  refine ⟨.tuple zs.toArray, by rw [hrun, dif_neg (by simp [hlen])], mkTup_rep ⟨by simp [hlen], fun j y hy => by simp at hy⟩⟩
 | [v], _, hlen, hall, h =>
  cases h
  obtain ⟨z, hz, hr⟩ := hall 0 x rfl
  refine ⟨z, ?_, hr⟩
  have h1 : zs.toArray.size = 1 := by simpa using hlen
  rw [hrun, dif_pos h1]
  congr 1
  match zs, hz with
  | q :: r, hz => simpa using hz
 | v :: u :: r, _, hlen, hall, h =>
  cases h
  refine ⟨.tuple zs.toArray, by rw [hrun, dif_neg (by simp [hlen])], mkTup_rep ⟨by simp [hlen], fun j y hy => ?_⟩⟩
  obtain ⟨z, hz, hr⟩ := hall j y hy
  rw [getD_toArray, List.getD_eq_getElem?_getD, hz]
  exact hr
theorem setPs_ok {C : Cx} (rest : List AV) : ∀ (ps : List Tmp) (us tm : List AV) (as : List Value) (arr : Array Value), us.length = ps.length → as.length = us.length → arr.size = tm.length → (∀ k x, tm[k]? = some x → Rep C x (arr.getD k undef)) → (∀ j x, us[j]? = some x → Rep C x (as.getD j undef)) →
  ((ps.zip as).foldl (fun t (p : Tmp × Value) => t.setIfInBounds p.1 p.2) arr).size = (setPs ps (us ++ rest) tm).length ∧ ∀ k x, (setPs ps (us ++ rest) tm)[k]? = some x → Rep C x (((ps.zip as).foldl (fun t (p : Tmp × Value) => t.setIfInBounds p.1 p.2) arr).getD k undef) := by
 intro ps
 induction ps with
 | nil =>
  intro us tm as arr h1 h2 h3 h4 h5
  have : setPs [] (us ++ rest) tm = tm := by simp [setPs]
  rw [this]
  exact ⟨h3, h4⟩
 | cons p ps ih =>
  intro us tm as arr h1 h2 h3 h4 h5
  match us, as, h1, h2 with
  | u :: us, v :: as, h1, h2 =>
   simp only [List.cons_append, setPs, List.zip_cons_cons, List.foldl_cons]
   refine ih us (tm.set p u) as (arr.setIfInBounds p v) (by simpa using h1) (by simpa using h2) (by simpa using h3) (fun k x hx => ?_) (fun j x hx => by simpa using h5 (j + 1) x (by simpa using hx))
   by_cases hk : p = k
   ·subst hk
    by_cases hlt : p < tm.length
    ·rw [List.getElem?_set_self hlt] at hx
     cases hx
     have : (arr.setIfInBounds p v).getD p undef = v := by
      rw [Array.getD_eq_getD_getElem?, Array.getElem?_setIfInBounds_self_of_lt (Nat.lt_of_lt_of_eq hlt h3.symm)]; rfl
     rw [this]
     simpa using h5 0 u rfl
    ·rw [List.getElem?_eq_none (Nat.le_of_not_lt (by rw [List.length_set]; exact hlt))] at hx; cases hx
   ·rw [List.getElem?_set_ne hk] at hx
    have : (arr.setIfInBounds p v).getD k undef = arr.getD k undef := by
     rw [Array.getD_eq_getD_getElem?, Array.getD_eq_getD_getElem?, Array.getElem?_setIfInBounds_ne hk]
    rw [this]
    exact h4 k x hx
theorem round_sim (hm : P.follows .mixedOrders = true) {pol : Pol} (hh : HoleOk P pol) {cl : CallF} {lp : LoopF} {n : Nat} (hcl : SimC P cl) (hlp : SimL P lp n) {us : List AV} {o : Oid} {H : Hp} {nx : Nat} {r : AV} {H' : Hp} {nx' : Nat} (h : roundF P pol cl lp (us ++ [.yld o]) H nx = some (r, H', nx'))
  (C : Cx) (args : Array Value) (l : Nat) (hI : Inv C) (hH : C.H = H) (hlt : ∀ o, C.U o → o.1 < nx) (hl : ∀ x, C.H o = some x → x.isRow = false ∧ ∃ S, C.ρ o = some (l, S)) (hv : args.size = us.length ∧ ∀ j x, us[j]? = some x → Rep C x (args.getD j undef)) :
  ∃ f tmps as body, (Instr.yield l args).run P C.w = .ok (.round l f tmps as body) C.w ∧ ∀ (q : Option Nat) (n : Nat), RoundIn (frn q) n P l f tmps as body C.w fun e w' => ∃ v C', e = .returned v ∧ w' = C'.w ∧ CallPost C nx r H' nx' v C' := by
 have hlast : (us ++ [AV.yld o]).getLast? = some (.yld o) := by simp
 unfold roundF at h
 rw [hlast] at h
 simp only at h
 split at h
 case h_2 => cases h
 rename_i ps as bd tm hHo
 split at h
 case isFalse => cases h
 rename_i hcond
 obtain ⟨hlen0, hna, hnb⟩ := hcond
 have hlen : us.length = ps.length := by simpa using hlen0
 simp only [Option.bind_eq_some_iff] at h
 obtain ⟨⟨e1, s1⟩, h1, h⟩ := h
 split at h
 case h_2 => cases h
 rename_i s1' heq
 cases heq
 split at h
 case h_2 => cases h
 rename_i ps1 as1 bd1 tm1 hHo1
 simp only [Option.bind_eq_some_iff] at h
 obtain ⟨⟨e, s2⟩, h2, h⟩ := h
 simp only at h
 split at h
 case h_2 => cases h
 rename_i ps2 as2 bd2 tm2 hHo2
 have hCo : C.H o = some (.rc ps as bd tm .ready) := by rw [hH]; exact hHo
 obtain ⟨l', S, r0, w, eρ, hr0, q1, q2, q3, q4, q5, q6⟩ := hI.obj o _ hCo
 obtain ⟨_, S2, eρ2⟩ := hl _ hCo
 rw [eρ] at eρ2
 cases eρ2
 have hsz : args.size = r0.params.size := by rw [hv.1, hlen, ← q1]; simp
 refine ⟨_, _, _, _, run_yield hr0 hsz, fun q k => ?_⟩
 refine roundIn_of_wpIn (F := frn q) trivial ?_
 have harr : (r0.params.zip args).foldl (fun tmps (t, a) => tmps.setIfInBounds t a) r0.tmps = (ps.zip args.toList).foldl (fun t (p : Tmp × Value) => t.setIfInBounds p.1 p.2) r0.tmps := by
  rw [← Array.foldl_toList, Array.toList_zip, q1]
 rw [harr]
 have htm := setPs_ok (C := C) [AV.yld o] ps us tm args.toList r0.tmps hlen (by simpa using hv.1) q5 q6 (fun j x hx => by
  have := hv.2 j x hx
  rwa [Array.getD_eq_getD_getElem?, ← Array.getElem?_toList, ← List.getD_eq_getElem?_getD] at this)
 refine exec_sim (B := C.w.heap.size) hm hh hcl hlp (q := some l) (k := k) r0.assign as ⟨setPs ps (us ++ [.yld o]) tm, H, nx⟩ .normal s1 q2 h1 (.inr hna) C _ _ ⟨hH, hI, hlt, ⟨htm.1, htm.2⟩, ⟨Nat.le_refl _, List.Pairwise.nil, fun d hd => by simp at hd⟩⟩ fun C1 a1 hp1 => ?_
 show ∃ w₂, (Instr.beginRound l).run P C1.w = .ok () w₂ ∧ _
 have hρof : ∀ (C' : Cx), Ext C C' → ∀ {ps as bd tm j}, C'.H o = some (.rc ps as bd tm j) → C'.ρ o = some (l, S) := fun C' hE ps as bd tm j ho => by
  obtain ⟨x0, hx0, _, _, e3⟩ := hE.live o _ ho (hI.used o _ hCo)
  rw [hCo] at hx0; cases hx0
  exact (e3 rfl).trans eρ
 have hC1o : C1.H o = some (.rc ps1 as1 bd1 tm1 .ready) := by rw [hp1.ok.H]; exact hHo1
 have hρ1 := hρof C1 hp1.ext hC1o
 obtain ⟨l1, S1, r1, w1, e1, hr1, _, _, _, hst1, _⟩ := hp1.ok.inv.obj o _ hC1o
 rw [hρ1] at e1; cases e1
 obtain ⟨hIb, hEb⟩ := rc_step (j' := .busy) hp1.ok.inv hC1o hρ1 hr1 (r' := { r1 with state := .busy }) rfl rfl rfl rfl rfl
 refine ⟨_, run_beginRound hr1 hst1.1, ?_⟩
 refine exec_sim (B := C.w.heap.size) hm hh hcl hlp (q := some l) (k := k) r0.body bd ⟨s1.tm, upd s1.hp o (.rc ps1 as1 bd1 tm1 .busy), s1.nx⟩ e s2 q3 h2 (.inr hnb) ⟨C1.ρ, C1.F, upd C1.H o (.rc ps1 as1 bd1 tm1 .busy), C1.U, C1.w.putObj l (.loop { r1 with state := .busy })⟩ a1 _
  ⟨by rw [hp1.ok.H], hIb, hp1.ok.lt, hp1.ok.tm.ext hp1.ok.inv hEb, hp1.ok.df.ext hEb⟩ fun C2 a2 hp2 => ?_
 have hE2 := (hp1.ext.trans hEb).trans hp2.ext
 have hC2o : C2.H o = some (.rc ps2 as2 bd2 tm2 .busy) := by rw [hp2.ok.H]; exact hHo2
 have hρ2 := hρof C2 hE2 hC2o
 obtain ⟨l2, S2, r2, w2, e2, hr2, _, _, _, hst2, _⟩ := hp2.ok.inv.obj o _ hC2o
 rw [hρ2] at e2; cases e2
 have hle : nx ≤ s2.nx := Nat.le_trans hp1.nx hp2.nx
 have huse : ∀ p, C2.U p → C.U p ∨ nx ≤ p.1 := fun p hu => by
  rcases hp2.use p hu with q | q
  ·exact hp1.use p q
  ·exact .inr (Nat.le_trans hp1.nx q)
 have fin : ∀ (j' : RSt) (r' : Loop) (b : Bool), r'.params = r2.params → r'.assign = r2.assign → r'.body = r2.body → r'.tmps = r2.tmps → StateOk j' r' → r = .d (.bool b) → H' = upd s2.hp o (.rc ps2 as2 bd2 tm2 j') → nx' = s2.nx →
   ∃ v C', Ending.returned (.bool b) = .returned v ∧ C2.w.putObj l (.loop r') = C'.w ∧ CallPost C nx r H' nx' v C' := fun j' r' b g1 g2 g3 g4 g5 g6 g7 g8 => by
  obtain ⟨hIc, hEc⟩ := rc_step (j' := j') hp2.ok.inv hC2o hρ2 hr2 (r' := r') g1 g2 g3 g4 g5
  refine ⟨_, _, rfl, rfl, ⟨?_, hIc, hE2.trans hEc, ?_, by rw [g8]; exact hle, by rw [g8]; exact hp2.ok.lt, huse⟩⟩
  ·rw [g7, hp2.ok.H]
  ·rw [g6]; exact .d _ _ (.bool b)
 cases e with
 | normal =>
  cases h
  exact ⟨_, _, run_endRound none hr2, fin .ready _ true rfl rfl rfl rfl ⟨rfl, rfl⟩ rfl rfl rfl⟩
 | exit id =>
  cases h
  exact ⟨_, _, run_endRound (some (.exit id)) hr2, fin (.left (.exit id)) _ false rfl rfl rfl rfl ⟨rfl, rfl⟩ rfl rfl rfl⟩
 | ret =>
  cases h
  exact ⟨_, _, run_endRound (some .ret) hr2, fin (.left .ret) _ false rfl rfl rfl rfl ⟨rfl, rfl⟩ rfl rfl rfl⟩
theorem leave_ok {A : Cx} {fn : Func} {tmps : Array Value} {R : Ending → World → Prop} {n : Nat} : ∀ (ds : List Deferred) (C : Cx), Inv C → Ext A C → Marks A.w.heap.size C ds →
  (∀ C', Inv C' → Ext A C' → C'.H = C.H → C'.U = C.U → (∀ x v, Rep C x v → Rep C' x v) → ∃ v, (Go.results fn tmps).run P C'.w = .ok v C'.w ∧ R (.returned v) C'.w) → LeavesInM (frn none) n P fn tmps R ds .returning C.w := by
 intro ds
 induction ds with
 | nil => intro C hI hE _ fin; exact fin C hI hE rfl rfl fun _ _ h => h
 | cons d ds ih =>
  intro C hI hE hM fin
  obtain ⟨D, e, hB, hh, hl, hF⟩ := hM.all d (by simp)
  obtain ⟨hI1, hE1, hR1⟩ := shut_ok hI hE hB hh hl hF (.deferred none)
  refine ⟨by simp, .inl ⟨D, C.w.putObj D (.deferred none), by rw [e], run_takeDeferred hh, ?_⟩⟩
  refine ih ⟨C.ρ, C.F, C.H, C.U, C.w.putObj D (.deferred none)⟩ hI1 hE1 ⟨hE1.size, (List.pairwise_cons.1 hM.nd).2, fun d' hd' => ?_⟩ fun C' h1 h2 h3 h4 h5 => fin C' h1 h2 h3 h4 fun x v h => h5 x v (hR1 x v h)
  obtain ⟨D', e', hB', hh', hl', hF'⟩ := hM.all d' (by simp [hd'])
  have hne : D' ≠ D := fun q => by
   have := (List.pairwise_cons.1 hM.nd).1 d' hd'
   rw [e, e', q] at this
   exact this rfl
  exact ⟨D', e', hB', by rw [World.putObj_heap_other hne]; exact hh', hl', hF'⟩
theorem call_sim (hm : P.follows .mixedOrders = true) {pol : Pol} (hx : PolOk P pol) {cl : CallF} {lp : LoopF} {n : Nat} (hcl : SimC P cl) (hlp : SimL P lp n) : SimC P (callF P pol cl lp) := by
 refine ⟨fun f hne => ?_, fun us o H nx r H' nx' h => round_sim hm hx.2 hcl hlp (by simpa [callF] using h)⟩
 intro vs H nx r H' nx' h
 simp only [callF, if_neg hne] at h
 split at h
 ·rename_i g hg
  exact hx.1 f g hg vs H nx r H' nx' h
 simp only [Option.bind_eq_some_iff] at h
 obtain ⟨⟨ac, k, rs⟩, hb, ⟨e, s1⟩, h1, h⟩ := h
 unfold bodyOf at hb
 rw [if_neg hne] at hb
 simp only [Option.bind_eq_bind, Option.bind_eq_some_iff] at hb
 obtain ⟨fn, hfn, c, hc, ac', hac, hb⟩ := hb
 split at hb
 ·cases hb
 rename_i hnm
 cases hb
 refine ⟨⟨fn, hfn, by simpa using hnm, by rw [hc]; rfl⟩, fun C args hI hH hlt hv => ?_⟩
 refine (callsIn_wide (n := 0)).1 (callsIn_of_wp_marks (F := frn none) (n := 0) hfn hc trivial (exec_sim (B := C.w.heap.size) hm hx.2 hcl hlp (q := none) (k := 0) c _ _ e s1 (by rw [strip_fix, strip_compile hac]; exact hac) h1 (.inl rfl) C _ _ ⟨hH, hI, hlt, ⟨?_, fun j x hx => ?_⟩, ⟨Nat.le_refl _, List.Pairwise.nil, fun d hd => by simp at hd⟩⟩ fun C' a' hp => ?_))
 ·simp [hv.1]
 ·rw [List.getElem?_append] at hx
  rw [Array.getD_eq_getD_getElem?, Array.getElem?_append]
  split at hx
  ·rename_i hj
   rw [if_pos (by rw [hv.1]; exact hj), ← Array.getD_eq_getD_getElem?]
   exact hv.2 j x hx
  ·have : x = .junk := by
    rw [List.getElem?_replicate] at hx
    split at hx <;> first | (cases hx; rfl) | cases hx
   subst this
   exact .junk _
 ·have fin : (results P s1 fn.results.toList).bind (fun v => some (v, s1.hp, s1.nx)) = some (r, H', nx') → LeavesInM (frn none) 0 P fn a'.tmps (fun e w' => ∃ v C'', e = .returned v ∧ w' = C''.w ∧ CallPost C nx r H' nx' v C'') a'.defers .returning C'.w := by
   intro h
   simp only [Option.bind_eq_some_iff] at h
   obtain ⟨v, hv, h⟩ := h
   cases h
   refine leave_ok a'.defers C' hp.ok.inv hp.ext hp.ok.df fun C2 hI2 hE2 hH2 hU2 hR2 => ?_
   have hs2 : StOk 0 C2 s1 { a' with defers := [] } := ⟨by rw [hH2]; exact hp.ok.H, hI2, by rw [hU2]; exact hp.ok.lt, ⟨hp.ok.tm.size, fun k x hx => hR2 _ _ (hp.ok.tm.rep k x hx)⟩, ⟨Nat.zero_le _, List.Pairwise.nil, fun d hd => by simp at hd⟩⟩
   obtain ⟨z, hz, hr⟩ := results_sim hs2 hv
   exact ⟨z, hz, z, C2, rfl, rfl, ⟨by rw [hH2]; exact hp.ok.H, hI2, hE2, hr, hp.nx, by rw [hU2]; exact hp.ok.lt, by rw [hU2]; exact hp.use⟩⟩
  cases e with
  | normal => exact fin h
  | ret => exact fin h
  | exit j => cases h
theorem oracles_sim (hm : P.follows .mixedOrders = true) {pol : Pol} (hx : PolOk P pol) : ∀ n, SimC P (oracles P pol n).1 ∧ SimL P (oracles P pol n).2 n := by
 intro n
 induction n with
 | zero =>
  refine ⟨?_, ?_⟩
  ·exact ⟨fun f _ vs H nx r H' nx' h => by simp [oracles] at h, fun us o H nx r H' nx' h => by simp [oracles] at h⟩
  ·intro w c ac m st e st' _ h; simp [oracles] at h
 | succ n ih => exact ⟨call_sim hm hx ih.1 ih.2, loop_sim hm hx.2 ih.1 ih.2⟩
theorem acall_sim (hm : P.follows .mixedOrders = true) {pol : Pol} (hx : PolOk P pol) : SimC P (acall P pol) := by
 refine ⟨fun f hne vs H nx r H' nx' h => ?_, fun us o H nx r H' nx' h => ?_⟩
 ·obtain ⟨n, hn⟩ := (acall_some P pol).1 h
  exact (oracles_sim hm hx n).1.fn f hne vs H nx r H' nx' hn
 ·obtain ⟨n, hn⟩ := (acall_some P pol).1 h
  exact (oracles_sim hm hx n).1.yl us o H nx r H' nx' hn
theorem pcl_calls (hm : P.follows .mixedOrders = true) {pol : Pol} (hx : PolOk P pol) {f : FuncId} {ds : List D} {x : D} (h : pcl (acall P pol) f ds = some x) {w : World} {args : Array Value} (hv : args.size = ds.length ∧ ∀ (j : Nat) (d : D), ds[j]? = some d → RepD (· < w.heap.size) w d (args.getD j undef)) :
  Calls P f args w fun e w' => ∃ v, e = .returned v ∧ Go.RowKit.Below w.heap.size w w' ∧ RepD (· < w'.heap.size) w' x v := by
 unfold pcl at h
 simp only [Option.bind_eq_some_iff, Option.map_eq_some_iff] at h
 obtain ⟨⟨r1, H1, nx1⟩, hc, ⟨x', is1⟩, hre, rfl⟩ := h
 have hne : f ≠ yieldF := by
  rintro rfl
  obtain ⟨n, hn⟩ := (acall_some P pol).1 hc
  cases n with
  | zero => simp [oracles] at hn
  | succ n =>
   simp only [oracles, callF, if_true, roundF, List.getLast?_map] at hn
   cases hl : ds.getLast? with
   | none => rw [hl] at hn; simp at hn
   | some d => rw [hl] at hn; simp at hn
 obtain ⟨_, hsim⟩ := (acall_sim hm hx).fn f hne _ _ _ _ _ _ hc
 have hI0 : Inv ⟨fun _ => none, (· < w.heap.size), fun _ => none, fun _ => False, w⟩ :=
  ⟨fun o x h => (by cases h), fun o x h => (by cases h), fun o x b S h => (by cases h), fun o o' x x' b S S' h => (by cases h), fun b hb => hb⟩
 refine (hsim ⟨fun _ => none, (· < w.heap.size), fun _ => none, fun _ => False, w⟩ args hI0 rfl (fun o h => h.elim) ⟨by simp [hv.1], fun j y hy => ?_⟩).mono ?_
 ·simp only [List.getElem?_map, Option.map_eq_some_iff] at hy
  obtain ⟨d, hd2, rfl⟩ := hy
  exact .d _ _ (hv.2 j d hd2)
 ·rintro e w' ⟨v, C1, rfl, rfl, hp⟩
  have hrx : RepD (FW C1 is1) C1.w (unfull x') v := RepD.unfull ( reify_sim hp.inv 6 (by rw [hp.H]; exact hre) hp.rep)
  exact ⟨v, rfl, ⟨hp.ext.os, hp.ext.tape, hp.ext.output, hp.ext.size, fun k hk => hp.ext.keep k hk (fun ⟨o, x, S, h, _⟩ => by cases h)⟩, hrx.keep (fun b hb => FW_lt hp.inv hb) (fun _ _ _ => rfl)⟩
end
end Go.Proofs.Ytiafeijkifpfaaa.Am


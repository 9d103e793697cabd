/-
  Joined texts: Am17. No condition.
-/
import Derived.Test.YtiafeijkifpfaaaAmPah
import Derived.OrdersIn
/-
 The abstract machine: a region whose order is open: every order that its edges allow comes to the same. No condition.
-/
namespace Go.Proofs.Ytiafeijkifpfaaa.Am
open Go
set_option linter.unusedVariables false
set_option linter.unusedSimpArgs false
section
variable {P : Program} {B : Nat}
def Agree (C : Cx) (H : Hp) : Prop := ∀ o, C.U o → (H o).map Am.Obj.freeze = (C.H o).map Am.Obj.freeze
theorem freeze_same {x y : Am.Obj} (h : x.freeze = y.freeze) : x.isRow = y.isRow ∧ x.cs = y.cs ∧ nlOf x = nlOf y := by
 cases x <;> cases y <;> simp_all [Am.Obj.freeze, Am.Obj.isRow, Am.Obj.cs, nlOf]
theorem get_same {a b : Option Am.Obj} (h : a.map Am.Obj.freeze = b.map Am.Obj.freeze) {y : Am.Obj} (hb : b = some y) : ∃ x, a = some x ∧ x.isRow = y.isRow ∧ x.cs = y.cs ∧ nlOf x = nlOf y := by
 subst hb
 cases a with
 | none => cases h
 | some x => exact ⟨x, rfl, freeze_same (by simpa using h)⟩
theorem reify_agree {C : Cx} (hI : Inv C) {H : Hp} (hA : Agree C H) : ∀ (n : Nat) {X : AV} {u : Value}, Rep C X u → reify H n X = reify C.H n X := by
 intro n
 induction n with
 | zero => intro X u _; cases X <;> simp [reify]
 | succ n ih =>
  have hm : ∀ (cs : List AV), (∀ (j : Nat) (x : AV), cs[j]? = some x → ∃ u, Rep C x u) → mapD (reify H n) cs = mapD (reify C.H n) cs := by
   intro cs
   induction cs with
   | nil => intro _; rfl
   | cons v r ihr =>
    intro h
    obtain ⟨u, hu⟩ := h 0 v rfl
    simp only [mapD, ih hu, ihr (fun j x hx => h (j + 1) x (by simpa using hx))]
  intro X u hu
  cases hu with
  | d x v h => simp [reify]
  | osl o off len sz ver cap A hl hU hv hs =>
   simp only [reify]
   cases hx : C.H o with
   | none =>
    have := hA o hU
    rw [hx] at this
    cases hq : H o with
    | none => rfl
    | some q => rw [hq] at this; cases this
   | some x =>
    obtain ⟨x', hx', e1, e2, e3⟩ := get_same (hA o hU) hx
    simp only [hx', Option.bind_eq_bind, Option.bind_some, e1, e2, e3]
    split
    ·rw [hm]
     intro j y hy
     have hy2 : x.cs[off + j]? = some y := by
      rw [List.getElem?_take] at hy
      split at hy
      ·rwa [List.getElem?_drop] at hy
      ·cases hy
     cases x with
     | cells cs => obtain ⟨b, c, t, _, _, _, _, hr⟩ := hI.obj o _ hx; exact ⟨_, hr _ y hy2⟩
     | grow cs => obtain ⟨b, S, c, t, _, _, _, _, _, hr⟩ := hI.obj o _ hx; exact ⟨_, hr _ y hy2⟩
     | frz cs => obtain ⟨b, S, c, t, _, _, _, _, _, _, hr⟩ := hI.obj o _ hx; exact ⟨_, hr _ y hy2⟩
     | vnil => simp [Am.Obj.cs] at hy2
     | mp => simp [Am.Obj.cs] at hy2
     | rc => simp [Am.Obj.cs] at hy2
    ·rfl
  | vsl o off len sz ver cap A hl hU hv hs =>
   simp only [reify]
   cases hx : C.H o with
   | none =>
    have := hA o hU
    rw [hx] at this
    cases hq : H o with
    | none => rfl
    | some q => rw [hq] at this; cases this
   | some x =>
    obtain ⟨x', hx', e1, e2, e3⟩ := get_same (hA o hU) hx
    simp only [hx', Option.bind_eq_bind, Option.bind_some, e1, e2]
    split
    ·rw [hm]
     intro j y hy
     have hy2 : x.cs[off + j]? = some y := by
      rw [List.getElem?_take] at hy
      split at hy
      ·rwa [List.getElem?_drop] at hy
      ·cases hy
     cases x with
     | cells cs => obtain ⟨b, c, t, _, _, _, _, hr⟩ := hI.obj o _ hx; exact ⟨_, hr _ y hy2⟩
     | grow cs => obtain ⟨b, S, c, t, _, _, _, _, _, hr⟩ := hI.obj o _ hx; exact ⟨_, hr _ y hy2⟩
     | frz cs => obtain ⟨b, S, c, t, _, _, _, _, _, _, hr⟩ := hI.obj o _ hx; exact ⟨_, hr _ y hy2⟩
     | vnil => simp [Am.Obj.cs] at hy2
     | mp => simp [Am.Obj.cs] at hy2
     | rc => simp [Am.Obj.cs] at hy2
    ·rfl
  | ptr o off ver a hU hv hs =>
   simp only [reify]
   cases hx : C.H o with
   | none =>
    have := hA o hU
    rw [hx] at this
    cases hq : H o with
    | none => rfl
    | some q => rw [hq] at this; cases this
   | some x =>
    obtain ⟨x', hx', e1, e2, e3⟩ := get_same (hA o hU) hx
    simp only [hx', Option.bind_eq_bind, Option.bind_some, e1, e2]
    split
    ·rw [hm]
     intro j y hy
     have hy2 : x.cs[off + j]? = some y := by rwa [List.getElem?_drop] at hy
     cases x with
     | cells cs => obtain ⟨b, c, t, _, _, _, _, hr⟩ := hI.obj o _ hx; exact ⟨_, hr _ y hy2⟩
     | grow cs => obtain ⟨b, S, c, t, _, _, _, _, _, hr⟩ := hI.obj o _ hx; exact ⟨_, hr _ y hy2⟩
     | frz cs => obtain ⟨b, S, c, t, _, _, _, _, _, _, hr⟩ := hI.obj o _ hx; exact ⟨_, hr _ y hy2⟩
     | vnil => simp [Am.Obj.cs] at hy2
     | mp => simp [Am.Obj.cs] at hy2
     | rc => simp [Am.Obj.cs] at hy2
    ·rfl
  | fn f hlt cs arr hn hr => simp only [reify, hm cs (fun j x hx => ⟨_, hr j x hx⟩)]
  | bnd g f hlt hg cs arr hn hr => simp only [reify, hm cs (fun j x hx => ⟨_, hr j x hx⟩)]
  | map => simp [reify]
  | yld => simp [reify]
  | agg cs arr hn h1 hr => simp only [reify, hm cs (fun j x hx => ⟨_, hr j x hx⟩)]
  | tup cs arr hn hr => simp only [reify, hm cs (fun j x hx => ⟨_, hr j x hx⟩)]
  | junk => simp [reify]
theorem reifyAll_agree {C : Cx} (hI : Inv C) {H : Hp} (hA : Agree C H) {n : Nat} : ∀ {vs : List AV}, (∀ x ∈ vs, ∃ u, Rep C x u) → reifyAll n H vs = reifyAll n C.H vs := by
 intro vs
 unfold reifyAll
 induction vs with
 | nil => intro _; rfl
 | cons v r ih =>
  intro h
  obtain ⟨u, hu⟩ := h v (by simp)
  simp only [mapD, reify_agree hI hA n hu, ih (fun x hx => h x (by simp [hx]))]
theorem mapD_used {C : Cx} {f : AV → Option (D × List Oid)} : ∀ {vs : List AV} {ds : List D} {is : List Oid}, (∀ v ∈ vs, ∀ x i, f v = some (x, i) → ∀ p ∈ i, C.U p) → mapD f vs = some (ds, is) → ∀ p ∈ is, C.U p := by
 intro vs
 induction vs with
 | nil => intro ds is _ h; cases h; intro p hp; cases hp
 | cons v r ih =>
  intro ds is hf h
  simp only [mapD, Option.bind_eq_bind, Option.bind_eq_some_iff] at h
  obtain ⟨⟨x, i⟩, h1, ⟨xs, is'⟩, h2, h⟩ := h
  cases h
  intro p hp
  rcases List.mem_append.1 hp with q | q
  ·exact hf v (by simp) x i h1 p q
  ·exact ih (fun w hw => hf w (by simp [hw])) h2 p q
theorem reify_used {C : Cx} (hI : Inv C) : ∀ (n : Nat) {X : AV} {d : D} {is : List Oid}, reify C.H n X = some (d, is) → ∀ p ∈ is, C.U p := by
 intro n
 induction n with
 | zero => intro X d is h; cases X <;> simp [reify] at h; obtain ⟨_, rfl⟩ := h; intro p hp; cases hp
 | succ n ih =>
  intro X d is h
  cases X with
  | d x => simp only [reify, Option.some.injEq, Prod.mk.injEq] at h; obtain ⟨_, rfl⟩ := h; intro p hp; cases hp
  | osl o off len sz ver =>
   simp only [reify, Option.bind_eq_bind, Option.bind_eq_some_iff] at h
   obtain ⟨x, hx, h⟩ := h
   split at h
   ·simp only [Option.bind_eq_some_iff] at h
    obtain ⟨⟨ds, is'⟩, hm, h⟩ := h
    cases h
    have := mapD_used (C := C) (fun v _ x i hv => ih hv) hm
    intro p hp
    split at hp
    ·exact this p hp
    ·rcases List.mem_cons.1 hp with rfl | q
     ·exact hI.used p x hx
     ·exact this p q
   ·cases h
  | vsl o off len sz ver =>
   simp only [reify, Option.bind_eq_bind, Option.bind_eq_some_iff] at h
   obtain ⟨x, hx, h⟩ := h
   split at h
   ·simp only [Option.bind_eq_some_iff] at h
    obtain ⟨⟨ds, is'⟩, hm, h⟩ := h
    cases h
    have := mapD_used (C := C) (fun v _ x i hv => ih hv) hm
    intro p hp
    split at hp
    ·exact this p hp
    ·rcases List.mem_cons.1 hp with rfl | q
     ·exact hI.used p x hx
     ·exact this p q
   ·cases h
  | ptr o off ver =>
   simp only [reify, Option.bind_eq_bind, Option.bind_eq_some_iff] at h
   obtain ⟨x, hx, h⟩ := h
   split at h
   ·simp only [Option.bind_eq_some_iff] at h
    obtain ⟨⟨ds, is'⟩, hm, h⟩ := h
    cases h
    have := mapD_used (C := C) (fun v _ x i hv => ih hv) hm
    intro p hp
    rcases List.mem_cons.1 hp with rfl | q
    ·exact hI.used p x hx
    ·exact this p q
   ·cases h
  | fn f cs =>
   simp only [reify, Option.bind_eq_bind, Option.bind_eq_some_iff] at h
   obtain ⟨⟨ds, is'⟩, hm, h⟩ := h
   cases h
   exact mapD_used (C := C) (fun v _ x i hv => ih hv) hm
  | agg cs =>
   simp only [reify, Option.bind_eq_bind, Option.bind_eq_some_iff] at h
   obtain ⟨⟨ds, is'⟩, hm, h⟩ := h
   cases h
   exact mapD_used (C := C) (fun v _ x i hv => ih hv) hm
  | tup cs =>
   simp only [reify, Option.bind_eq_bind, Option.bind_eq_some_iff] at h
   obtain ⟨⟨ds, is'⟩, hm, h⟩ := h
   cases h
   exact mapD_used (C := C) (fun v _ x i hv => ih hv) hm
  | _ => simp [reify] at h
theorem reifyAll_used {C : Cx} (hI : Inv C) {n : Nat} {vs : List AV} {ds : List D} {is : List Oid} (h : reifyAll n C.H vs = some (ds, is)) : ∀ p ∈ is, C.U p :=
 mapD_used (C := C) (fun v _ x i hv => reify_used hI n hv) h
def over (g H : Hp) : Hp := fun o => match g o with | some x => some x | none => H o
theorem over_comm {g g' H : Hp} {i j : Nat} (hij : i ≠ j) (hg : ∀ o x, g o = some x → o.1 = i) (hg' : ∀ o x, g' o = some x → o.1 = j) : over g (over g' H) = over g' (over g H) := by
 funext o
 unfold over
 cases h1 : g o with
 | none => cases h2 : g' o <;> simp
 | some x =>
  cases h2 : g' o with
  | none => simp
  | some y => exact absurd ((hg o x h1).symm.trans (hg' o y h2)) hij
theorem over_agree {C : Cx} {g H : Hp} {id : Nat} (hid : ∀ j, ¬ C.U (id, j)) (hg : ∀ o x, g o = some x → o.1 = id) (hA : Agree C H) : Agree C (over g H) := by
 intro o ho
 unfold over
 cases h1 : g o with
 | none => exact hA o ho
 | some x => exact absurd (show C.U (id, o.2) by have := hg o x h1; rw [← this]; exact ho) (hid o.2)
theorem kill_agree {C : Cx} {H : Hp} {is : List Oid} (hA : Agree C H) : Agree C (kill H is) := by
 intro o ho
 rw [← hA o ho]
 unfold kill
 split
 ·cases H o with
  | none => rfl
  | some x => cases x <;> rfl
 ·rfl
theorem over_kill_comm {C : Cx} {g g' H : Hp} {is is' : List Oid} {i j : Nat} (hij : i ≠ j) (hi : ∀ k, ¬ C.U (i, k)) (hj : ∀ k, ¬ C.U (j, k)) (hu : ∀ o ∈ is, C.U o) (hu' : ∀ o ∈ is', C.U o) (hg : ∀ o x, g o = some x → o.1 = i) (hg' : ∀ o x, g' o = some x → o.1 = j) :
  over g (kill (over g' (kill H is')) is) = over g' (kill (over g (kill H is)) is') := by
 funext o
 have ni : o.1 = i → o ∉ is' := fun e hm => hi o.2 (by rw [← e]; exact hu' o hm)
 have nj : o.1 = j → o ∉ is := fun e hm => hj o.2 (by rw [← e]; exact hu o hm)
 cases h1 : g o with
 | some x =>
  have e := hg o x h1
  have h2 : g' o = none := by
   cases h2 : g' o with
   | none => rfl
   | some y => exact absurd (e.symm.trans (hg' o y h2)) hij
  simp only [over, kill, h1, h2, if_neg (ni e)]
 | none =>
  cases h2 : g' o with
  | some y =>
   have e := hg' o y h2
   simp only [over, kill, h1, h2, if_neg (nj e)]
  | none =>
   simp only [over, kill, h1, h2]
   have ff : ∀ x : Am.Obj, x.freeze.freeze = x.freeze := fun x => by cases x <;> rfl
   by_cases m1 : o ∈ is <;> by_cases m2 : o ∈ is' <;> simp only [m1, m2, if_true, if_false]
theorem kill_nil (H : Hp) : kill H [] = H := by funext p; simp [kill]
theorem over_none (H : Hp) : over (fun _ => none) H = H := rfl
theorem upd_over (H : Hp) (o : Oid) (x : Am.Obj) : upd H o x = over (upd (fun _ => none) o x) H := by
 funext p
 unfold over upd
 split <;> rfl
theorem upd_over2 (g H : Hp) (o : Oid) (x : Am.Obj) : upd (over g H) o x = over (upd g o x) H := by
 funext p
 unfold over upd
 split <;> rfl
theorem liftH_over (id : Nat) : ∀ (cs : List AV) (j : Nat) (g H : Hp), liftH id j cs (over g H) = over (liftH id j cs g) H := by
 intro cs
 induction cs with
 | nil => intro j g H; rfl
 | cons v r ih =>
  intro j g H
  simp only [liftH]
  split
  ·rw [upd_over2, ih]
  ·rw [ih]
theorem liftH_supp (id : Nat) (cs : List AV) (j : Nat) (o : Oid) (x : Am.Obj) (h : liftH id j cs (fun _ => none) o = some x) : o.1 = id := by
 rcases liftH_new id cs j _ o x h with h | ⟨h, _⟩
 ·cases h
 ·exact h
theorem upd_supp {g : Hp} {id k : Nat} {y : Am.Obj} (hg : ∀ o x, g o = some x → o.1 = id) (o : Oid) (x : Am.Obj) (h : upd g (id, k) y o = some x) : o.1 = id := by
 simp only [upd] at h
 split at h
 ·rename_i e; rw [e]
 ·exact hg o x h
theorem map_congr {ρ ρ' : Operand → AV} {l : List Operand} (h : ∀ x ∈ l, ρ x = ρ' x) : l.map ρ = l.map ρ' := List.map_congr_left h
theorem valOp_congr {ρ ρ' : Operand → AV} {op : Op} (h : ∀ x ∈ op.operands.toList, ρ x = ρ' x) : valOp P ρ op = valOp P ρ' op := by
 cases op with
 | move x => simp [valOp, h x (by simp [Op.operands])]
 | assign x => simp [valOp, h x (by simp [Op.operands])]
 | pick c a b => simp [valOp, h c (by simp [Op.operands]), h a (by simp [Op.operands]), h b (by simp [Op.operands])]
 | nilCheck x => simp [valOp, h x (by simp [Op.operands])]
 | binOp op t x y t' => simp [valOp, h x (by simp [Op.operands]), h y (by simp [Op.operands])]
 | unOp op t x => simp [valOp, h x (by simp [Op.operands])]
 | convert s t x => simp [valOp, h x (by simp [Op.operands])]
 | fieldAddr t x i => simp [valOp, h x (by simp [Op.operands])]
 | field t x i => simp [valOp, h x (by simp [Op.operands])]
 | extract x i => simp [valOp, h x (by simp [Op.operands])]
 | index t x i => simp [valOp, h x (by simp [Op.operands]), h i (by simp [Op.operands])]
 | makeFunc fn first cap =>
  have := map_congr (ρ := ρ) (ρ' := ρ') (l := cap.toList) (fun x hx => h x (by simp [Op.operands]; right; simpa using hx))
  have h2 := map_congr (ρ := ρ) (ρ' := ρ') (l := first.toList) (fun x hx => h x (by simp [Op.operands]; left; simpa using hx))
  cases fn <;> simp [valOp, this, h2]
 | build t ps =>
  have : ps.toList.map (fun p => (p.1, ρ p.2)) = ps.toList.map (fun p => (p.1, ρ' p.2)) := by
   apply List.map_congr_left
   intro p hp
   rw [h p.2 (by simp only [Op.operands, List.toList_toArray, List.mem_map]; exact ⟨p, hp, rfl⟩)]
  simp only [valOp, this]
 | call c =>
  obtain ⟨callee, args, ats⟩ := c
  cases callee with
  | builtin b =>
   have := map_congr (ρ := ρ) (ρ' := ρ') (l := args.toList) (fun x hx => h x (by simp [Op.operands, Call.operands]; simpa using hx))
   cases b <;> simp [valOp, this]
  | _ => simp [valOp]
 | _ => simp [valOp]
theorem heapOp_congr {ρ ρ' : Operand → AV} {op : Op} (h : ∀ x ∈ op.operands.toList, ρ x = ρ' x) (H : Hp) (id : Nat) : heapOp P ρ H id op = heapOp P ρ' H id op := by
 cases op with
 | load t x => simp [heapOp, h x (by simp [Op.operands])]
 | slice t x lo hi mx =>
  have hx := h x (by simp [Op.operands])
  have hlo : lo.map ρ = lo.map ρ' := by cases lo with | none => rfl | some y => simp [h y (by simp [Op.operands])]
  have hhi : hi.map ρ = hi.map ρ' := by cases hi with | none => rfl | some y => simp [h y (by simp [Op.operands])]
  have hmx : mx.map ρ = mx.map ρ' := by cases mx with | none => rfl | some y => simp [h y (by simp [Op.operands])]
  simp only [heapOp, hx, hlo, hhi, hmx]
 | indexAddr t x i => simp [heapOp, h x (by simp [Op.operands]), h i (by simp [Op.operands])]
 | store t x v => simp [heapOp, h x (by simp [Op.operands]), h v (by simp [Op.operands])]
 | alloc t => simp [heapOp]
 | box t x => simp [heapOp, h x (by simp [Op.operands])]
 | buildSlice t len ps =>
  have : ps.toList.map (fun p => (p.1, ρ p.2)) = ps.toList.map (fun p => (p.1, ρ' p.2)) := by
   apply List.map_congr_left
   intro p hp
   rw [h p.2 (by simp only [Op.operands, List.toList_toArray, List.mem_map]; exact ⟨p, hp, rfl⟩)]
  simp only [heapOp, this]
 | makeSlice t l c => simp [heapOp, h l (by simp [Op.operands]), h c (by simp [Op.operands])]
 | binOp op t x y t' => simp [heapOp, h x (by simp [Op.operands])]
 | makeMap t r => cases r <;> simp [heapOp]
 | lookup t m i ok => simp [heapOp, h m (by simp [Op.operands]), h i (by simp [Op.operands])]
 | mapUpdate t m i v => simp [heapOp, h m (by simp [Op.operands]), h i (by simp [Op.operands]), h v (by simp [Op.operands])]
 | mapEntry t m i => simp [heapOp, h m (by simp [Op.operands]), h i (by simp [Op.operands])]
 | entryStore t m i v => simp [heapOp, h m (by simp [Op.operands]), h i (by simp [Op.operands]), h v (by simp [Op.operands])]
 | call c =>
  obtain ⟨callee, args, ats⟩ := c
  cases callee with
  | builtin b =>
   have := map_congr (ρ := ρ) (ρ' := ρ') (l := args.toList) (fun x hx => h x (by simp [Op.operands, Call.operands]; simpa using hx))
   cases b <;> simp [heapOp, this]
  | _ => simp [heapOp]
 | _ => simp [heapOp]
theorem heapOp_frame {C : Cx} (hI : Inv C) {ρ : Operand → AV} (hρ : ∀ x, ∃ u, Rep C (ρ x) u) {op : Op} {id : Nat} {H : Hp} (hA : Agree C H) (hc : cls ⟨none, op, none, false⟩ ≤ 1) {v : AV} {H1 : Hp} (h : heapOp P ρ H id op = some (v, H1)) :
  ∃ g : Hp, (∀ o x, g o = some x → o.1 = id) ∧ H1 = over g H ∧ ∀ H', Agree C H' → heapOp P ρ H' id op = some (v, over g H') := by
 have none_supp : ∀ (o : Oid) (x : Am.Obj), (fun _ => none : Hp) o = some x → o.1 = id := fun o x h => by cases h
 have agree : ∀ H', Agree C H' → ∀ o, C.U o → ∀ y, H o = some y → ∃ x, H' o = some x ∧ x.isRow = y.isRow ∧ x.cs = y.cs ∧ nlOf x = nlOf y := fun H' hA' o ho y hy => get_same ((hA' o ho).trans (hA o ho).symm) hy
 have mapAgree : ∀ H', Agree C H' → ∀ o, C.U o → ∀ {sh es c}, H o = some (.mp sh es c) → H' o = some (.mp sh es c) := fun H' hA' o ho sh es c hx => by
  have := (hA' o ho).trans (hA o ho).symm
  rw [hx] at this
  cases hq : H' o with
  | none => rw [hq] at this; cases this
  | some x => rw [hq] at this; cases x <;> simp [Am.Obj.freeze] at this; obtain ⟨rfl, rfl, rfl⟩ := this; rfl
 cases op with
 | load t x =>
  simp only [heapOp, Option.map_eq_some_iff] at h ⊢
  obtain ⟨y, hy, h⟩ := h
  cases h
  refine ⟨fun _ => none, none_supp, rfl, fun H' hA' => ⟨_, ?_, rfl⟩⟩
  obtain ⟨u, hu⟩ := hρ x
  unfold load at hy ⊢
  split at hy
  ·exact hy
  ·rename_i o off ver hx
   rw [hx] at hu
   cases hu with
   | ptr _ _ _ _ hU _ _ =>
    simp only [Option.bind_eq_bind, Option.bind_eq_some_iff] at hy ⊢
    obtain ⟨q, hq, hy⟩ := hy
    obtain ⟨q', hq', e1, e2, e3⟩ := agree H' hA' o hU q hq
    exact ⟨q', hq', by rw [e1, e2]; exact hy⟩
  ·cases hy
 | slice t x lo hi mx =>
  simp only [heapOp, Option.map_eq_some_iff] at h ⊢
  obtain ⟨y, hy, h⟩ := h
  cases h
  refine ⟨fun _ => none, none_supp, rfl, fun H' hA' => ⟨_, ?_, rfl⟩⟩
  obtain ⟨u, hu⟩ := hρ x
  unfold sliceD at hy ⊢
  split at hy
  ·exact hy
  ·exact hy
  ·rename_i o off len sz ver hx
   rw [hx] at hu
   cases hu with
   | osl _ _ _ _ _ _ _ _ hU _ _ =>
    simp only [Option.bind_eq_bind, Option.bind_eq_some_iff] at hy ⊢
    obtain ⟨e, he, n, hn, q, hq, hy⟩ := hy
    obtain ⟨q', hq', e1, e2, e3⟩ := agree H' hA' o hU q hq
    exact ⟨e, he, n, hn, q', hq', by rw [e1, e2]; exact hy⟩
  ·exact hy
  ·exact hy
  ·cases hy
 | indexAddr t x i =>
  simp only [heapOp, Option.map_eq_some_iff] at h ⊢
  obtain ⟨y, hy, h⟩ := h
  cases h
  refine ⟨fun _ => none, none_supp, rfl, fun H' hA' => ⟨_, ?_, rfl⟩⟩
  obtain ⟨u, hu⟩ := hρ x
  unfold idxAddr at hy ⊢
  split at hy
  ·exact hy
  simp only [Option.bind_eq_bind, Option.bind_eq_some_iff] at hy ⊢
  obtain ⟨e, he, n, hn, hy⟩ := hy
  refine ⟨e, he, n, hn, ?_⟩
  split at hy
  ·exact hy
  ·rename_i o off len sz ver k hx hi
   rw [hx] at hu
   cases hu with
   | osl _ _ _ _ _ _ _ _ hU _ _ =>
    simp only [Option.bind_eq_some_iff] at hy ⊢
    obtain ⟨q, hq, hy⟩ := hy
    obtain ⟨q', hq', e1, e2, e3⟩ := agree H' hA' o hU q hq
    exact ⟨q', hq', by rw [e1, e2]; exact hy⟩
  ·rename_i o off len sz ver k hx hi
   rw [hx] at hu
   cases hu with
   | vsl _ _ _ _ _ _ _ _ hU _ _ =>
    simp only [Option.bind_eq_some_iff] at hy ⊢
    obtain ⟨q, hq, hy⟩ := hy
    obtain ⟨q', hq', e1, e2, e3⟩ := agree H' hA' o hU q hq
    exact ⟨q', hq', by rw [e1, e2]; exact hy⟩
  ·cases hy
 | binOp op t x y t' =>
  simp only [heapOp] at h ⊢
  split at h
  ·rename_i hc0
   simp only [Option.map_eq_some_iff, Option.bind_eq_some_iff] at h
   obtain ⟨q, ⟨b, hb, hq⟩, h⟩ := h
   cases h
   refine ⟨fun _ => none, none_supp, rfl, fun H' hA' => ?_⟩
   rw [if_pos hc0]
   have hb' : nilCmp H' (ρ x) = some b := by
    obtain ⟨u, hu⟩ := hρ x
    unfold nilCmp at hb ⊢
    split at hb
    ·exact hb
    ·rename_i o off len sz ver hx
     rw [hx] at hu
     cases hu with
     | osl _ _ _ _ _ _ _ _ hU _ _ =>
      simp only [Option.bind_eq_some_iff] at hb ⊢
      obtain ⟨q, hq, hb⟩ := hb
      obtain ⟨q', hq', e1, e2, e3⟩ := agree H' hA' o hU q hq
      exact ⟨q', hq', by rw [e2, e3]; exact hb⟩
    ·cases hb
   rw [hb', Option.bind_some, hq]; rfl
  ·cases h
 | alloc t =>
  simp only [heapOp, Option.bind_eq_bind, Option.bind_eq_some_iff] at h ⊢
  obtain ⟨cs, hcs, h⟩ := h
  cases h
  refine ⟨upd (liftH id 1 cs (fun _ => none)) (id, 0) (.cells (liftCells id 1 cs)), upd_supp (liftH_supp id cs 1), ?_, fun H' hA' => ⟨cs, hcs, ?_⟩⟩
  ·rw [← over_none H, liftH_over, upd_over2]; rfl
  ·rw [← over_none H', liftH_over, upd_over2]; rfl
 | box t x =>
  simp only [heapOp, Option.bind_eq_bind, Option.bind_eq_some_iff] at h ⊢
  obtain ⟨n, hn, h⟩ := h
  split at h
  ·rename_i hc
   cases h
   refine ⟨upd (liftH id 1 (cellsOf (ρ x)) (fun _ => none)) (id, 0) (.cells (liftCells id 1 (cellsOf (ρ x)))), upd_supp (liftH_supp id _ 1), ?_, fun H' hA' => ⟨n, hn, ?_⟩⟩
   ·rw [← over_none H, liftH_over, upd_over2]; rfl
   ·rw [if_pos hc, ← over_none H', liftH_over, upd_over2]; rfl
  ·cases h
 | buildSlice t len ps =>
  simp only [heapOp, Option.bind_eq_bind, Option.bind_eq_some_iff] at h ⊢
  obtain ⟨e, he, n, hn, z, hz, h⟩ := h
  split at h
  ·rename_i hc0
   cases h
   refine ⟨upd (fun _ => none) (id, 0) (.grow []), upd_supp none_supp, upd_over _ _ _, fun H' hA' => ⟨e, he, n, hn, z, hz, ?_⟩⟩
   rw [if_pos hc0, upd_over]
  rename_i hc0
  split at h
  ·cases h
  rename_i hc
  simp only [Option.bind_eq_some_iff] at h
  obtain ⟨cs, hcs, h⟩ := h
  cases h
  refine ⟨upd (fun _ => none) (id, 0) (.cells cs), upd_supp none_supp, upd_over _ _ _, fun H' hA' => ⟨e, he, n, hn, z, hz, ?_⟩⟩
  rw [if_neg hc0, if_neg hc]
  simp only [Option.bind_eq_some_iff]
  exact ⟨cs, hcs, by rw [upd_over]⟩
 | makeSlice t l c =>
  simp only [heapOp, Option.bind_eq_bind, Option.bind_eq_some_iff] at h ⊢
  obtain ⟨e, he, n, hn, z, hz, h⟩ := h
  split at h
  ·rename_i a b ha hb
   split at h
   ·rename_i hc
    cases h
    refine ⟨upd (fun _ => none) (id, 0) (if a = b then .cells (List.replicate a.toNat z).flatten else .grow (List.replicate a.toNat z).flatten), upd_supp none_supp, upd_over _ _ _, fun H' hA' => ⟨e, he, n, hn, z, hz, ?_⟩⟩
    rw [if_pos hc, upd_over]
   ·cases h
  ·cases h
 | makeMap t r =>
  cases r with
  | some r => simp [heapOp] at h
  | none =>
   simp only [heapOp, Option.bind_eq_bind, Option.bind_eq_some_iff] at h ⊢
   obtain ⟨k, hk, sh, hsh, h⟩ := h
   cases h
   exact ⟨upd (fun _ => none) (id, 0) (.mp sh [] 0), upd_supp none_supp, upd_over _ _ _, fun H' hA' => ⟨k, hk, sh, hsh, by rw [upd_over]⟩⟩
 | lookup t m i ok =>
  simp only [heapOp, Option.map_eq_some_iff] at h ⊢
  obtain ⟨y, hy, h⟩ := h
  cases h
  refine ⟨fun _ => none, none_supp, rfl, fun H' hA' => ⟨_, ?_, rfl⟩⟩
  obtain ⟨u, hu⟩ := hρ m
  unfold lookupO at hy ⊢
  simp only [Option.bind_eq_bind, Option.bind_eq_some_iff] at hy ⊢
  obtain ⟨p, hp, sh, hsh, es, hes, hy⟩ := hy
  refine ⟨p, hp, sh, hsh, es, ?_, hy⟩
  rcases entriesOf_some hes with ⟨e1, rfl⟩ | ⟨o, c, e1, hx⟩
  ·rw [e1]; rfl
  ·rw [e1] at hu ⊢
   cases hu with
   | map _ b hU _ =>
    rw [entriesOf, mapAgree H' hA' o hU hx]
    simp
 | call c =>
  obtain ⟨callee, args, ats⟩ := c
  cases callee with
  | builtin b =>
   cases b with
   | len =>
    simp only [heapOp] at h ⊢
    split at h
    ·rename_i x t hargs hts
     split at h
     ·rename_i o
      simp only [Option.map_eq_some_iff] at h
      obtain ⟨y, hy, h⟩ := h
      cases h
      refine ⟨fun _ => none, none_supp, rfl, fun H' hA' => ?_⟩
      obtain ⟨u, hu⟩ : ∃ u, Rep C (.map o) u := by
       cases hl : args.toList with
       | nil => rw [hl] at hargs; simp at hargs
       | cons a r => rw [hl] at hargs; simp at hargs; rw [← hargs.1]; exact hρ a
      cases hu with
      | map _ b hU _ =>
       have : mapLen P H' t (.map o) = some v := by
        unfold mapLen at hy ⊢
        simp only at hy ⊢
        split at hy
        ·rename_i hk
         simp only [Option.bind_eq_some_iff] at hy
         obtain ⟨x, hx, hy⟩ := hy
         split at hy
         ·cases hy
          rw [if_pos hk, mapAgree H' hA' o hU hx]
          rfl
         ·cases hy
        ·cases hy
       rw [this]
       rfl
     ·rename_i hnm
      simp only [Option.map_eq_some_iff] at h
      obtain ⟨y, hy, h⟩ := h
      cases h
      exact ⟨fun _ => none, none_supp, rfl, fun H' hA' => by rw [hy]; rfl⟩
    ·cases h
   | _ => first | (simp [heapOp] at h; done) | (simp [cls, isVal] at hc)
  | _ => simp [heapOp] at h
 | store t x v => simp [cls, isVal] at hc
 | mapUpdate t m i v => simp [cls, isVal] at hc
 | mapEntry t m i => simp [cls, isVal] at hc
 | entryStore t m i v => simp [cls, isVal] at hc
 | _ => simp [heapOp] at h
theorem areads_ops {o : AOp} {x : Operand} (hx : x ∈ o.op.operands.toList) {t : Nat} (ht : x = .tmp t) : t ∈ areads o := by
 subst ht
 unfold areads opTmps
 exact List.mem_append_left _ (List.mem_filterMap.2 ⟨_, hx, rfl⟩)
theorem ev_same {tm tm' : List AV} {o : AOp} (h : ∀ t ∈ areads o, tm'.getD t .junk = tm.getD t .junk) : ∀ x ∈ o.op.operands.toList, ev tm' x = ev tm x := by
 intro x hx
 cases x with
 | tmp t => exact h t (areads_ops hx rfl)
 | _ => rfl
theorem litD_congr {ρ ρ' : Operand → AV} {op : Op} (h : ∀ x ∈ op.operands.toList, ρ x = ρ' x) : litD P ρ op = litD P ρ' op := by
 unfold litD
 split
 ·rename_i t len ps
  have hm : (ps.toList.map fun p => (p.1, ρ p.2)) = ps.toList.map fun p => (p.1, ρ' p.2) := by
   refine List.map_congr_left fun p hp => ?_
   rw [h p.2 (by simp only [Op.operands, Array.toList_map, List.mem_map]; exact ⟨p, hp, rfl⟩)]
  rw [hm]
 ·rfl
theorem lit_spec {o : AOp} (h : isLit o = true) : o.solo = true ∧ isCall o = none ∧ isVal o = false ∧ cls o = 0 ∧ isBuild o.op = true := by
 simp only [isLit, Bool.and_eq_true] at h
 obtain ⟨h1, h2⟩ := h
 refine ⟨h1, ?_, ?_, by simp [cls, h1, h2], h2⟩
 ·unfold isBuild at h2; split at h2
  ·rename_i ho; unfold isCall; rw [ho]
  ·cases h2
 ·unfold isBuild at h2; split at h2
  ·rename_i ho; unfold isVal; rw [ho]
  ·cases h2
theorem lit_step {pol : Pol} {cl : CallF} {id : Nat} {o : AOp} {st : St} (h : isLit o = true) : stepOp P pol cl id o st = (litD P (ev st.tm) o.op).map (put st o.dst) := by
 obtain ⟨h1, h2, h3, _⟩ := lit_spec h
 unfold stepOp
 rw [h2]
 simp only
 unfold stepN
 rw [if_neg (by rw [h3]; simp), if_pos h]
theorem lit_not {o : AOp} (h : o.solo = false) : isLit o = false := by simp [isLit, h]
theorem stepOp_shape {pol : Pol} {cl : CallF} {id : Nat} {o : AOp} {stA st' : St} (h : stepOp P pol cl id o stA = some st') :
  ∃ (v : AV) (H1 : Hp) (nx1 : Nat), st' = put ⟨stA.tm, H1, nx1⟩ o.dst v ∧ ∀ stB : St, (∀ t ∈ areads o, stA.tm.getD t .junk = stB.tm.getD t .junk) → stA.hp = stB.hp → stA.nx = stB.nx → stepOp P pol cl id o stB = some (put ⟨stB.tm, H1, nx1⟩ o.dst v) := by
 unfold stepOp at h
 cases hcall : isCall o with
 | some p =>
  obtain ⟨f, as⟩ := p
  rw [hcall] at h
  simp only [Option.bind_eq_bind, Option.bind_eq_some_iff] at h
  obtain ⟨⟨g, cap⟩, hg, ⟨v, H1, nx1⟩, hv, h⟩ := h
  cases h
  have hops : f ∈ o.op.operands.toList ∧ ∀ x ∈ as, x ∈ o.op.operands.toList := by
   unfold isCall at hcall
   split at hcall
   ·rename_i f' args ats hq
    cases hcall
    rw [hq]
    refine ⟨by simp [Op.operands, Call.operands], fun x hx => ?_⟩
    simp only [Op.operands, Call.operands, Array.toList_append, List.mem_append]
    exact .inr hx
   ·cases hcall
  refine ⟨v, H1, nx1, rfl, fun stB htm e1 e2 => ?_⟩
  have hev := ev_same (tm := stB.tm) (tm' := stA.tm) htm
  unfold stepOp
  rw [hcall]
  simp only [Option.bind_eq_bind, Option.bind_eq_some_iff]
  have hmap : as.map (ev stA.tm) = as.map (ev stB.tm) := List.map_congr_left fun x hx => hev x (hops.2 x hx)
  exact ⟨(g, cap), by rw [← hev f hops.1]; exact hg, (v, H1, nx1), by rw [← hmap, ← e1, ← e2]; exact hv, rfl⟩
 | none =>
  rw [hcall] at h
  simp only at h
  unfold stepN at h
  by_cases hval : isVal o = true
  ·rw [if_pos hval] at h
   simp only [Option.bind_eq_bind, Option.bind_eq_some_iff] at h
   obtain ⟨v, hv, h⟩ := h
   by_cases hl : (liftsNil o && isNil v) = true
   ·rw [if_pos hl] at h
    cases h
    refine ⟨_, _, _, rfl, fun stB htm e1 e2 => ?_⟩
    rw [valOp_congr (ev_same (tm := stB.tm) (tm' := stA.tm) htm)] at hv
    unfold stepOp
    rw [hcall]
    simp only
    unfold stepN
    rw [if_pos hval]
    simp only [Option.bind_eq_bind, Option.bind_eq_some_iff]
    exact ⟨v, hv, by rw [if_pos hl, e1, e2]⟩
   ·rw [if_neg hl] at h
    cases h
    refine ⟨_, stA.hp, stA.nx, rfl, fun stB htm e1 e2 => ?_⟩
    rw [valOp_congr (ev_same (tm := stB.tm) (tm' := stA.tm) htm)] at hv
    unfold stepOp
    rw [hcall]
    simp only
    unfold stepN
    rw [if_pos hval]
    simp only [Option.bind_eq_bind, Option.bind_eq_some_iff]
    exact ⟨v, hv, by rw [if_neg hl, e1, e2]⟩
  ·by_cases hlit : isLit o = true
   ·rw [if_neg hval, if_pos hlit] at h
    obtain ⟨v, hv, h⟩ := Option.map_eq_some_iff.1 h
    cases h
    refine ⟨v, stA.hp, stA.nx, rfl, fun stB htm e1 e2 => ?_⟩
    rw [lit_step hlit, ← litD_congr (ev_same (tm := stB.tm) (tm' := stA.tm) htm), hv, e1, e2]
    rfl
   rw [if_neg hval, if_neg hlit] at h
   simp only [Option.bind_eq_bind, Option.bind_eq_some_iff] at h
   obtain ⟨⟨v, H1⟩, hv, h⟩ := h
   cases h
   refine ⟨_, _, _, rfl, fun stB htm e1 e2 => ?_⟩
   unfold stepOp
   rw [hcall]
   simp only
   unfold stepN
   rw [if_neg hval, if_neg hlit, ← e1]
   rw [heapOp_congr (ev_same (tm := stB.tm) (tm' := stA.tm) htm)] at hv
   simp only [Option.bind_eq_bind, Option.bind_eq_some_iff]
   exact ⟨(v, H1), hv, by rw [e2]⟩
open Classical in
theorem step_replay {pol : Pol} {cl : CallF} {C : Cx} (hI : Inv C) {id : Nat} {o : AOp} {stA : St} (hrep : ∀ t ∈ areads o, ∃ u, Rep C (stA.tm.getD t .junk) u)
  (hA : cls o = 1 → Agree C stA.hp) {st' : St} (h : stepGS P pol cl id o stA = some st') :
  ∃ (v : AV) (N : Hp → Hp) (M : Nat → Nat), st' = put ⟨stA.tm, N stA.hp, M stA.nx⟩ o.dst v ∧ (cls o = 0 → N = fun H => H) ∧ (cls o ≤ 1 → M = fun n => n) ∧ (cls o = 1 → ∃ (g : Hp) (is : List Oid), (∀ p x, g p = some x → p.1 = id) ∧ (∀ p ∈ is, C.U p) ∧ N = fun H => over g (kill H is)) ∧
   ∀ stB : St, (∀ t ∈ areads o, stA.tm.getD t .junk = stB.tm.getD t .junk) → (cls o = 1 → Agree C stB.hp) → (cls o = 2 → stA.hp = stB.hp ∧ stA.nx = stB.nx) → stepGS P pol cl id o stB = some (put ⟨stB.tm, N stB.hp, M stB.nx⟩ o.dst v) := by
 have hN0 : ∃ (g : Hp) (is : List Oid), (∀ p x, g p = some x → p.1 = id) ∧ (∀ p ∈ is, C.U p) ∧ (fun H : Hp => H) = fun H => over g (kill H is) := ⟨fun _ => none, [], fun p x h => (by cases h), fun p h => (by cases h), (by funext H; rw [kill_nil]; rfl)⟩
 have hρ : ∀ x ∈ o.op.operands.toList, ∃ u, Rep C (ev stA.tm x) u := by
  intro x hx
  cases x with
  | tmp t => exact hrep t (areads_ops hx rfl)
  | const v => exact ⟨v, liftV_rep C v⟩
  | global g => exact ⟨undef, .junk _⟩
  | func f =>
   simp only [Am.ev]
   split
   ·rename_i hlt; exact ⟨_, .d _ _ (.fn f hlt [] #[] rfl (fun j x hx => by simp at hx))⟩
   ·exact ⟨undef, .junk _⟩
 have hsk : (guarded o stA (stepOpS P pol cl id o stA) = some (put stA o.dst (.d (.tup []))) ∧ ∀ stB : St, (∀ t ∈ areads o, stA.tm.getD t .junk = stB.tm.getD t .junk) → guarded o stB (stepOpS P pol cl id o stB) = some (put stB o.dst (.d (.tup [])))) ∨
   (stepOpS P pol cl id o stA = some st' ∧ ∀ stB : St, (∀ t ∈ areads o, stA.tm.getD t .junk = stB.tm.getD t .junk) → guarded o stB (stepOpS P pol cl id o stB) = stepOpS P pol cl id o stB) := by
  unfold stepGS at h
  cases hg : o.guard with
  | none =>
   simp only [guarded, hg] at h ⊢
   exact .inr ⟨h, fun _ _ => trivial⟩
  | some p =>
   obtain ⟨t, w⟩ := p
   have ht : t ∈ areads o := by unfold areads; rw [hg]; exact List.mem_append_right _ (by simp)
   simp only [guarded, hg] at h ⊢
   split at h
   ·rename_i b hv
    split at h
    ·rename_i hb
     refine .inr ⟨h, fun stB hB => ?_⟩
     rw [← hB t ht, hv]
     simp only
     rw [if_pos hb]
    ·rename_i hb
     refine .inl ⟨by rw [if_neg hb], fun stB hB => ?_⟩
     rw [← hB t ht, hv]
     simp only
     rw [if_neg hb]
   ·rename_i hv
    refine .inl ⟨rfl, fun stB hB => ?_⟩
    rw [← hB t ht, hv]
   ·cases h
 rcases hsk with ⟨e, hB⟩ | ⟨h, hB⟩
 ·unfold stepGS at h
  rw [e] at h
  cases h
  exact ⟨.d (.tup []), fun H => H, fun n => n, rfl, fun _ => rfl, fun _ => rfl, fun _ => hN0, fun stB h1 _ _ => hB stB h1⟩
 ·by_cases hlit : isLit o = true
  ·obtain ⟨l1, _, _, l4, _⟩ := lit_spec hlit
   unfold stepOpS at h
   rw [if_pos l1, lit_step hlit] at h
   obtain ⟨v, hv, h⟩ := Option.map_eq_some_iff.1 h
   cases h
   refine ⟨v, fun H => H, fun n => n, rfl, fun _ => rfl, fun _ => rfl, fun h => by omega, fun stB htm _ _ => ?_⟩
   unfold stepGS
   rw [hB stB htm]
   unfold stepOpS
   rw [if_pos l1, lit_step hlit, ← litD_congr (ev_same (tm := stB.tm) (tm' := stA.tm) htm), hv]
   rfl
  by_cases hsolo : o.solo = true
  ·have hbl : isBuild o.op = false := by
    cases hb : isBuild o.op with
    | false => rfl
    | true => exact absurd (by simp [isLit, hsolo, hb]) hlit
   have hcls : cls o = 2 := by simp [cls, hsolo, hbl]
   unfold stepOpS at h
   rw [if_pos hsolo] at h
   obtain ⟨v, H1, nx1, rfl, hrep⟩ := stepOp_shape h
   refine ⟨v, fun _ => H1, fun _ => nx1, rfl, fun h0 => by omega, fun h0 => by omega, fun h0 => by omega, fun stB htm _ h2 => ?_⟩
   unfold stepGS
   rw [hB stB htm]
   unfold stepOpS
   rw [if_pos hsolo]
   exact hrep stB htm (h2 hcls).1 (h2 hcls).2
  unfold stepOpS at h
  rw [if_neg hsolo] at h
  cases hcall : isCall o with
  | some p =>
   obtain ⟨f, as⟩ := p
   rw [hcall] at h
   simp only [Option.bind_eq_bind, Option.bind_eq_some_iff] at h
   obtain ⟨⟨g, cap⟩, hg, ⟨v, is⟩, hv, h⟩ := h
   cases h
   have hcls : cls o = 1 := by
    unfold isCall at hcall
    split at hcall
    ·rename_i hq; simp [cls, hsolo, isVal, hq]
    ·cases hcall
   have hops : f ∈ o.op.operands.toList ∧ ∀ x ∈ as, x ∈ o.op.operands.toList := by
    unfold isCall at hcall
    split at hcall
    ·rename_i f' args ats hq
     cases hcall
     rw [hq]
     refine ⟨by simp [Op.operands, Call.operands], fun x hx => ?_⟩
     simp only [Op.operands, Call.operands, Array.toList_append, List.mem_append]
     exact .inr hx
    ·cases hcall
   have a1 := hA hcls
   have hcap : ∀ x ∈ cap, ∃ u, Rep C x u := by
    obtain ⟨u, hu⟩ := hρ f hops.1
    rcases isFnD_cases hg with ⟨hne, ⟨c, hX, rfl⟩ | hX⟩ | ⟨p, hX, rfl, rfl⟩
    ·rw [hX] at hu
     cases hu.dinv with
     | fn _ _ _ arr hn hr =>
      intro x hx
      obtain ⟨z, hz, rfl⟩ := List.mem_map.1 hx
      obtain ⟨j, hj⟩ := List.mem_iff_getElem?.1 hz
      exact ⟨_, .d _ _ (hr j z hj)⟩
     | bnd _ _ _ _ _ arr hn hr =>
      intro x hx
      obtain ⟨z, hz, rfl⟩ := List.mem_map.1 hx
      obtain ⟨j, hj⟩ := List.mem_iff_getElem?.1 hz
      exact ⟨_, .d _ _ (hr j z hj)⟩
    ·rw [hX] at hu
     cases hu with
     | fn _ _ _ arr hn hr =>
      intro x hx
      obtain ⟨j, hj⟩ := List.mem_iff_getElem?.1 hx
      exact ⟨_, hr j x hj⟩
     | bnd _ _ _ _ _ arr hn hr =>
      intro x hx
      obtain ⟨j, hj⟩ := List.mem_iff_getElem?.1 hx
      exact ⟨_, hr j x hj⟩
    ·rw [hX] at hu
     intro x hx
     obtain rfl : x = .yld p := by simpa using hx
     exact ⟨u, hu⟩
   have hall : ∀ x ∈ joinF g (as.map (ev stA.tm)) cap, ∃ u, Rep C x u := by
    intro x hx
    rcases mem_joinF hx with hx | hx
    ·obtain ⟨y, hy, rfl⟩ := List.mem_map.1 hx
     exact hρ y (hops.2 y hy)
    ·exact hcap x hx
   refine ⟨v, fun H => kill H is, fun n => n, rfl, fun h0 => by omega, fun _ => rfl, fun _ => ⟨fun _ => none, is, fun p x h => (by cases h), ?_, by funext H; rfl⟩, fun stB htm a2 _ => ?_⟩
   ·unfold callS at hv
    rw [reifyAll_agree hI a1 hall] at hv
    split at hv
    ·rename_i ds is0 hr
     simp only [Option.bind_eq_some_iff] at hv
     obtain ⟨x, _, hv⟩ := hv
     cases hv
     have hr : reifyAll (pol.deep (numF g)) C.H (joinF g (as.map (ev stA.tm)) cap) = some (ds, is0) := by split at hr <;> first | cases hr | exact hr
     intro p hp
     split at hp
     ·cases hp
     ·exact reifyAll_used hI hr p hp
    ·cases hv
   unfold stepGS
   rw [hB stB htm]
   unfold stepOpS
   rw [if_neg hsolo, hcall]
   have hev := ev_same (tm := stB.tm) (tm' := stA.tm) htm
   simp only [Option.bind_eq_bind, Option.bind_eq_some_iff]
   refine ⟨(g, cap), by rw [← hev f hops.1]; exact hg, (v, is), ?_, rfl⟩
   have hmap : as.map (ev stA.tm) = as.map (ev stB.tm) := List.map_congr_left fun x hx => hev x (hops.2 x hx)
   rw [← hmap]
   unfold callS at hv ⊢
   rw [reifyAll_agree hI a1 hall] at hv
   rw [reifyAll_agree hI (a2 hcls) hall]
   exact hv
  | none =>
   rw [hcall] at h
   simp only at h
   have hBN : ∀ stB : St, (∀ t ∈ areads o, stA.tm.getD t .junk = stB.tm.getD t .junk) → stepGS P pol cl id o stB = stepN P id o stB := by
    intro stB htm
    unfold stepGS
    rw [hB stB htm]
    unfold stepOpS
    rw [if_neg hsolo, hcall]
   unfold stepN at h
   by_cases hval : isVal o = true
   ·rw [if_pos hval] at h
    simp only [Option.bind_eq_bind, Option.bind_eq_some_iff] at h
    obtain ⟨v, hv, h⟩ := h
    by_cases hl : (liftsNil o && isNil v) = true
    ·rw [if_pos hl] at h
     cases h
     have hl1 : liftsNil o = true := by simp only [Bool.and_eq_true] at hl; exact hl.1
     have hcls : cls o = 1 := by simp [cls, hsolo, hval, hl1]
     refine ⟨.osl (id, 1) 0 0 1 0, over (upd (fun _ => none) (id, 1) .vnil), fun n => n, by rw [← upd_over], fun h0 => by omega, fun _ => rfl, fun _ => ⟨upd (fun _ => none) (id, 1) .vnil, [], upd_supp (fun p x h => (by cases h)), fun p h => (by cases h), by funext H; rw [kill_nil]⟩, fun stB htm _ _ => ?_⟩
     rw [hBN stB htm]
     unfold stepN
     rw [if_pos hval]
     rw [valOp_congr (ev_same (tm := stB.tm) (tm' := stA.tm) htm)] at hv
     simp only [Option.bind_eq_bind, Option.bind_eq_some_iff]
     exact ⟨v, hv, by rw [if_pos hl, ← upd_over]⟩
    ·rw [if_neg hl] at h
     cases h
     refine ⟨v, fun H => H, fun n => n, rfl, fun _ => rfl, fun _ => rfl, fun _ => hN0, fun stB htm _ _ => ?_⟩
     rw [hBN stB htm]
     unfold stepN
     rw [if_pos hval]
     rw [valOp_congr (ev_same (tm := stB.tm) (tm' := stA.tm) htm)] at hv
     simp only [Option.bind_eq_bind, Option.bind_eq_some_iff]
     exact ⟨v, hv, by rw [if_neg hl]⟩
   ·rw [if_neg hval, if_neg hlit] at h
    simp only [Option.bind_eq_bind, Option.bind_eq_some_iff] at h
    obtain ⟨⟨v, H1⟩, hv, h⟩ := h
    cases h
    have hcne : cls o = 1 ∨ cls o = 2 := by
     unfold cls
     rw [if_neg hsolo, if_neg hval]
     split <;> simp
    rcases hcne with hc | hc
    ·have a1 := hA hc
     have hc1 : cls ⟨none, o.op, none, false⟩ ≤ 1 := by
      have : cls ⟨none, o.op, none, false⟩ = cls o := by unfold cls; rw [if_neg hsolo]; rfl
      omega
     have hcg : ∀ x ∈ o.op.operands.toList, ev stA.tm x = (if x ∈ o.op.operands.toList then ev stA.tm x else .junk) := fun x hx => (if_pos hx).symm
     rw [heapOp_congr (ρ' := fun x => if x ∈ o.op.operands.toList then ev stA.tm x else .junk) hcg] at hv
     obtain ⟨g, hg1, rfl, hg3⟩ := heapOp_frame hI (ρ := fun x => if x ∈ o.op.operands.toList then ev stA.tm x else .junk) (fun x => by
      by_cases hx : x ∈ o.op.operands.toList
      ·simp only [if_pos hx]; exact hρ x hx
      ·simp only [if_neg hx]; exact ⟨undef, .junk _⟩) a1 hc1 hv
     refine ⟨v, over g, fun n => n, rfl, fun h0 => by omega, fun _ => rfl, fun _ => ⟨g, [], hg1, fun p h => (by cases h), by funext H; rw [kill_nil]⟩, fun stB htm a2 _ => ?_⟩
     rw [hBN stB htm]
     unfold stepN
     rw [if_neg hval, if_neg hlit]
     have := hg3 stB.hp (a2 hc)
     rw [← heapOp_congr hcg, heapOp_congr (ev_same (tm := stB.tm) (tm' := stA.tm) htm)] at this
     simp only [Option.bind_eq_bind, Option.bind_eq_some_iff]
     exact ⟨_, this, rfl⟩
    ·refine ⟨v, fun _ => H1, fun n => n, rfl, fun h0 => by omega, fun _ => rfl, fun h1 => by omega, fun stB htm _ e => ?_⟩
     rw [hBN stB htm]
     unfold stepN
     rw [if_neg hval, if_neg hlit, ← (e hc).1]
     rw [heapOp_congr (ev_same (tm := stB.tm) (tm' := stA.tm) htm)] at hv
     simp only [Option.bind_eq_bind, Option.bind_eq_some_iff]
     exact ⟨(v, H1), hv, rfl⟩
theorem put_getD (st : St) (dst : Option Tmp) (v : AV) (t : Nat) (h : ∀ d, dst = some d → d ≠ t) : (put st dst v).tm.getD t .junk = st.tm.getD t .junk := by
 cases dst with
 | none => rfl
 | some d =>
  have := h d rfl
  simp [put, List.getD_eq_getElem?_getD, List.getElem?_set_ne this]
theorem put_comm {tm : List AV} {H : Hp} {nx : Nat} {x y : Option Tmp} {v u : AV} (h : ∀ d, x = some d → y ≠ some d) : put (put ⟨tm, H, nx⟩ x v) y u = put (put ⟨tm, H, nx⟩ y u) x v := by
 cases x with
 | none => rfl
 | some d =>
  cases y with
  | none => rfl
  | some e =>
   have : d ≠ e := fun q => h d rfl (by rw [q])
   simp [put, List.set_comm _ _ this]
theorem put_put (st : St) (x : Option Tmp) (v : AV) : put st x v = ⟨(put st x v).tm, st.hp, st.nx⟩ := by cases x <;> rfl
theorem put_tm (tm : List AV) (H H' : Hp) (nx nx' : Nat) (x : Option Tmp) (v : AV) : (put ⟨tm, H, nx⟩ x v).tm = (put ⟨tm, H', nx'⟩ x v).tm := by cases x <;> rfl
theorem indep_spec {x y : AOp} (h : indep x y = true) : (∀ d, x.dst = some d → d ∉ areads y) ∧ (∀ d, x.dst = some d → y.dst ≠ some d) ∧ (∀ d, y.dst = some d → d ∉ areads x) ∧ cls x + cls y ≤ 2 := by
 unfold indep at h
 simp only [Bool.and_eq_true, decide_eq_true_eq] at h
 obtain ⟨⟨h1, h2⟩, h3⟩ := h
 refine ⟨fun d hd => ?_, fun d hd => ?_, fun d hd => ?_, h3⟩
 ·rw [hd] at h1
  simp only [Bool.and_eq_true, Bool.not_eq_true'] at h1
  intro hm
  have := h1.1
  rw [List.contains_iff_mem.2 hm] at this
  cases this
 ·rw [hd] at h1
  simp only [Bool.and_eq_true, bne_iff_ne] at h1
  exact h1.2
 ·rw [hd] at h2
  simp only [Bool.not_eq_true'] at h2
  intro hm
  rw [List.contains_iff_mem.2 hm] at h2
  cases h2
theorem cls_le (o : AOp) : cls o ≤ 2 := by
 unfold cls
 split
 ·split <;> omega
 ·split
  ·split <;> omega
  ·split <;> omega
theorem swap {pol : Pol} {cl : CallF} {C : Cx} {st : St} {a : Act} (hs : StOk B C st a) {j i : Nat} {oj oi : AOp} (hj : ∀ k, ¬ C.U (j, k)) (hi : ∀ k, ¬ C.U (i, k)) (hne : j ≠ i) (hind : indep oj oi = true) {st1 st2 : St} (h1 : stepGS P pol cl j oj st = some st1) (h2 : stepGS P pol cl i oi st1 = some st2) :
  ∃ st1', stepGS P pol cl i oi st = some st1' ∧ stepGS P pol cl j oj st1' = some st2 ∧ ((oi.solo && !isBuild oi.op) = true → st1.hp = st.hp ∧ st2.hp = st1'.hp) ∧ ((oj.solo && !isBuild oj.op) = true → st1'.hp = st.hp ∧ st2.hp = st1.hp) := by
 have hsolo : ∀ o : AOp, (o.solo && !isBuild o.op) = true → cls o = 2 := fun o h => by simp only [Bool.and_eq_true, Bool.not_eq_true'] at h; unfold cls; simp [h.1, h.2]
 obtain ⟨d1, d2, d3, d4⟩ := indep_spec hind
 have hagree : Agree C st.hp := fun o _ => by rw [hs.H]
 have hrep : ∀ t, ∃ u, Rep C (st.tm.getD t .junk) u := fun t => ⟨_, hs.tm.getD t⟩
 obtain ⟨vj, Nj, Mj, e1, n0j, m0j, n1j, rj⟩ := step_replay hs.inv (fun t _ => hrep t) (fun _ => hagree) h1
 subst e1
 have p1 := put_hp ⟨st.tm, Nj st.hp, Mj st.nx⟩ oj.dst vj
 have hjhp : cls oj ≤ 1 → Agree C (Nj st.hp) := by
  intro hc
  rcases Nat.lt_or_ge (cls oj) 1 with q | q
  ·rw [n0j (by omega)]; exact hagree
  ·obtain ⟨g, is, hg, hu, rfl⟩ := n1j (by omega)
   exact over_agree hj hg (kill_agree hagree)
 have hgi : ∀ t ∈ areads oi, (put ⟨st.tm, Nj st.hp, Mj st.nx⟩ oj.dst vj).tm.getD t .junk = st.tm.getD t .junk := fun t ht => put_getD ⟨st.tm, Nj st.hp, Mj st.nx⟩ _ _ _ (fun d hd e => d1 d hd (e ▸ ht))
 obtain ⟨vi, Ni, Mi, e2, n0i, m0i, n1i, ri⟩ := step_replay hs.inv (stA := put ⟨st.tm, Nj st.hp, Mj st.nx⟩ oj.dst vj) (fun t ht => by rw [hgi t ht]; exact hrep t) (fun hc => by rw [p1.1]; exact hjhp (by omega)) h2
 subst e2
 have h2' := ri st hgi (fun _ => hagree) (fun hc => by rw [p1.1, p1.2]; exact ⟨by show Nj st.hp = st.hp; rw [n0j (by omega)], by show Mj st.nx = st.nx; rw [m0j (by omega)]⟩)
 have p2 := put_hp ⟨st.tm, Ni st.hp, Mi st.nx⟩ oi.dst vi
 refine ⟨_, h2', ?_, fun hso => ?_, fun hso => ?_⟩
 rotate_left
 ·have := hsolo _ hso
  have e := n0j (by omega)
  rw [p1.1, (put_hp _ _ _).1, p2.1, e]
  exact ⟨rfl, rfl⟩
 ·have := hsolo _ hso
  have e := n0i (by omega)
  rw [p2.1, (put_hp _ _ _).1, e, p1.1]
  exact ⟨rfl, rfl⟩
 have hihp : cls oi ≤ 1 → Agree C (Ni st.hp) := by
  intro hc
  rcases Nat.lt_or_ge (cls oi) 1 with q | q
  ·rw [n0i (by omega)]; exact hagree
  ·obtain ⟨g, is, hg, hu, rfl⟩ := n1i (by omega)
   exact over_agree hi hg (kill_agree hagree)
 have h3 := rj (put ⟨st.tm, Ni st.hp, Mi st.nx⟩ oi.dst vi) (fun t ht => (put_getD ⟨st.tm, Ni st.hp, Mi st.nx⟩ _ _ _ (fun d hd e => d3 d hd (e ▸ ht))).symm)
  (fun hc => by rw [p2.1]; exact hihp (by omega)) (fun hc => by rw [p2.1, p2.2]; exact ⟨by show st.hp = Ni st.hp; rw [n0i (by omega)], by show st.nx = Mi st.nx; rw [m0i (by omega)]⟩)
 rw [h3, p2.1, p2.2, p1.1, p1.2]
 have hcomm : Nj (Ni st.hp) = Ni (Nj st.hp) := by
  rcases Nat.lt_or_ge (cls oj) 1 with q | q
  ·rw [n0j (by omega)]
  ·rcases Nat.lt_or_ge (cls oi) 1 with q2 | q2
   ·rw [n0i (by omega)]
   ·obtain ⟨g, is, hg, hu, rfl⟩ := n1j (by omega)
    obtain ⟨g2, is2, hg2, hu2, rfl⟩ := n1i (by omega)
    exact over_kill_comm hne hj hi hu hu2 hg hg2
 have hcommx : Mj (Mi st.nx) = Mi (Mj st.nx) := by
  rcases Nat.lt_or_ge (cls oj) 2 with q | q
  ·rw [m0j (by omega)]
  ·rw [m0i (by omega)]
 show some (put ⟨(put ⟨st.tm, Ni st.hp, Mi st.nx⟩ oi.dst vi).tm, Nj (Ni st.hp), Mj (Mi st.nx)⟩ oj.dst vj) = some (put ⟨(put ⟨st.tm, Nj st.hp, Mj st.nx⟩ oj.dst vj).tm, Ni (Nj st.hp), Mi (Mj st.nx)⟩ oi.dst vi)
 rw [hcomm, hcommx]
 have := put_comm (tm := st.tm) (H := Ni (Nj st.hp)) (nx := Mi (Mj st.nx)) (x := oi.dst) (y := oj.dst) (v := vi) (u := vj) (fun d hd e => d2 d e hd)
 rw [put_put ⟨st.tm, Ni (Nj st.hp), Mi (Mj st.nx)⟩ oi.dst vi, put_put ⟨st.tm, Ni (Nj st.hp), Mi (Mj st.nx)⟩ oj.dst vj] at this
 rw [put_tm st.tm (Ni st.hp) (Ni (Nj st.hp)) (Mi st.nx) (Mi (Mj st.nx)), put_tm st.tm (Nj st.hp) (Ni (Nj st.hp)) (Mj st.nx) (Mi (Mj st.nx))]
 exact congrArg some this
theorem dynKind_spec {o : AOp} (h : dynKind o = true) : o.solo = false ∧ isVal o = false ∧ isCall o = none ∧ ((∃ t x, o.op = .load t x) ∨ (∃ t x v, o.op = .store t x v) ∨ (∃ t x i, o.op = .indexAddr t x i) ∨ (∃ t x lo hi mx, o.op = .slice t x lo hi mx) ∨ (∃ t x, o.op = .box t x) ∨ ∃ t m i, o.op = .mapEntry t m i) := by
 unfold dynKind at h
 split at h <;> first | cases h | skip
 all_goals
  rename_i ho
  refine ⟨by simpa using h, by simp [isVal, ho], by simp [isCall, ho], ?_⟩
 ·exact .inl ⟨_, _, ho⟩
 ·exact .inr (.inl ⟨_, _, _, ho⟩)
 ·exact .inr (.inr (.inl ⟨_, _, _, ho⟩))
 ·exact .inr (.inr (.inr (.inl ⟨_, _, _, _, _, ho⟩)))
 ·exact .inr (.inr (.inr (.inr (.inl ⟨_, _, ho⟩))))
 ·exact .inr (.inr (.inr (.inr (.inr ⟨_, _, _, ho⟩))))
theorem tch_congr {o : AOp} {tm tm' : List AV} (h : ∀ t ∈ areads o, tm'.getD t .junk = tm.getD t .junk) : tch o tm' = tch o tm := by
 have he := ev_same h
 unfold tch
 split
 ·rename_i t a ho; rw [he a (by rw [ho]; simp [Op.operands])]
 ·rename_i t a v ho; rw [he a (by rw [ho]; simp [Op.operands])]
 ·rename_i t x i ho; rw [he x (by rw [ho]; simp [Op.operands])]
 ·rename_i t x lo hi mx ho; rw [he x (by rw [ho]; simp [Op.operands])]
 ·rfl
 ·rename_i t m i ho; rw [he m (by rw [ho]; simp [Op.operands])]
 ·rename_i as ats ho
  have hx : ∀ x ∈ as.toList, ev tm' x = ev tm x := fun x hx => he x (by rw [ho]; simp [Op.operands, Call.operands]; simpa using hx)
  split
  ·rename_i x hl; rw [hx x (by rw [hl]; simp)]
  ·rfl
 ·rfl
theorem dyn_heap {C : Cx} {ρ : Operand → AV} {op : Op} {id : Nat} {H H1 : Hp} {v : AV} {x : Option Oid} (hop : ((∃ t x, op = .load t x) ∨ (∃ t x v, op = .store t x v) ∨ (∃ t x i, op = .indexAddr t x i) ∨ (∃ t x lo hi mx, op = .slice t x lo hi mx) ∨ (∃ t x, op = .box t x) ∨ ∃ t m i, op = .mapEntry t m i))
  (hx : ∀ t a, (op = .load t a ∨ ∃ v, op = .store t a v) → (match ρ a with | .ptr o _ _ => some (some o) | .d _ => some none | _ => none) = some x)
  (hy : ∀ t a, ((∃ i, op = .indexAddr t a i) ∨ ∃ lo hi mx, op = .slice t a lo hi mx) → (match ρ a with | .osl o _ _ _ _ | .vsl o _ _ _ _ | .ptr o _ _ => some (some o) | .d _ => some none | _ => none) = some x)
  (hz : ∀ t m i, op = .mapEntry t m i → (match ρ m with | .map o => some (some o) | .d _ => some none | _ => none) = some x)
  (hid : ∀ o, x = some o → o.1 ≠ id) (h : heapOp P ρ H id op = some (v, H1)) :
  ∃ g : Hp, (∀ p y, g p = some y → p.1 = id ∨ x = some p) ∧ H1 = over g H ∧ ∀ H', (∀ p, x = some p → H' p = H p) → heapOp P ρ H' id op = some (v, over g H') := by
 have none_supp : ∀ (o : Oid) (y : Am.Obj), (fun _ => none : Hp) o = some y → o.1 = id ∨ x = some o := fun o x h => by cases h
 rcases hop with ⟨t, a, rfl⟩ | ⟨t, a, w, rfl⟩ | ⟨t, a, i, rfl⟩ | ⟨t, a, lo, hi, mx, rfl⟩ | ⟨t, a, rfl⟩ | ⟨t, m, i, rfl⟩
 ·have hx := hx t a (.inl rfl)
  simp only [heapOp, Option.map_eq_some_iff] at h ⊢
  obtain ⟨y, hl, h⟩ := h
  cases h
  refine ⟨fun _ => none, none_supp, rfl, fun H' hH => ⟨_, ?_, rfl⟩⟩
  unfold load at hl ⊢
  split at hl
  ·exact hl
  ·rename_i o off ver ho
   rw [ho] at hx
   cases hx
   rw [hH o rfl]
   exact hl
  ·cases hl
 ·have hx := hx t a (.inr ⟨w, rfl⟩)
  simp only [heapOp, Option.map_eq_some_iff] at h
  obtain ⟨y, hl, h⟩ := h
  cases h
  unfold storeO at hl
  simp only [Option.bind_eq_bind, Option.bind_eq_some_iff] at hl
  obtain ⟨n, hn, hl⟩ := hl
  split at hl
  ·rename_i o off ver ho
   rw [ho] at hx
   cases hx
   split at hl
   ·rename_i hc
    have hne := hid o rfl
    have hlo : ∀ H : Hp, liftH id 1 (cellsOf (ρ w)) H o = H o := fun H => by
     rw [← over_none H, liftH_over]
     simp only [over]
     cases hq : liftH id 1 (cellsOf (ρ w)) (fun _ => none) o with
     | none => rfl
     | some z => exact absurd (liftH_supp id _ 1 o z hq) hne
    unfold Hput at hl
    simp only [Option.bind_eq_bind, Option.bind_eq_some_iff] at hl
    obtain ⟨z, hz, hl⟩ := hl
    split at hl
    ·rename_i hq
     cases hl
     have key : ∀ H' : Hp, (∀ p, some o = some p → H' p = H p) → storeO P H' id t (ρ a) (ρ w) = some (over (upd (liftH id 1 (cellsOf (ρ w)) (fun _ => none)) o (z.put (splice z.cs off (liftCells id 1 (cellsOf (ρ w)))))) H') := fun H' hH => by
      have hz' : liftH id 1 (cellsOf (ρ w)) H' o = some z := by rw [hlo, hH o rfl, ← hlo H]; exact hz
      unfold storeO
      simp only [Option.bind_eq_bind, hn, Option.bind_some, ho]
      rw [if_pos hc]
      unfold Hput
      simp only [Option.bind_eq_bind, hz', Option.bind_some]
      rw [if_pos hq, ← upd_over2]
      congr 2
      rw [← liftH_over]; rfl
     refine ⟨upd (liftH id 1 (cellsOf (ρ w)) (fun _ => none)) o (z.put (splice z.cs off (liftCells id 1 (cellsOf (ρ w))))), fun p y hp => ?_, ?_, fun H' hH => ?_⟩
     ·simp only [upd] at hp
      split at hp
      ·rename_i e; exact .inr (by rw [e])
      ·exact .inl (liftH_supp id _ 1 p y hp)
     ·rw [← upd_over2]; congr 1; rw [← liftH_over]; rfl
     ·simp only [heapOp, key H' hH, Option.map_some]
    ·cases hl
   ·cases hl
  ·cases hl
 ·have hy := hy t a (.inl ⟨i, rfl⟩)
  simp only [heapOp, Option.map_eq_some_iff] at h ⊢
  obtain ⟨y, hl, h⟩ := h
  cases h
  refine ⟨fun _ => none, none_supp, rfl, fun H' hH => ⟨_, ?_, rfl⟩⟩
  unfold idxAddr at hl ⊢
  split at hl
  ·exact hl
  simp only [Option.bind_eq_bind, Option.bind_eq_some_iff] at hl ⊢
  obtain ⟨e, he, n, hn, hl⟩ := hl
  refine ⟨e, he, n, hn, ?_⟩
  split at hl
  ·exact hl
  ·rename_i o off len sz ver k ho hi
   rw [ho] at hy
   cases hy
   rw [hH o rfl]
   exact hl
  ·rename_i o off len sz ver k ho hi
   rw [ho] at hy
   cases hy
   rw [hH o rfl]
   exact hl
  ·cases hl
 ·have hy := hy t a (.inr ⟨lo, hi, mx, rfl⟩)
  simp only [heapOp, Option.map_eq_some_iff] at h ⊢
  obtain ⟨y, hl, h⟩ := h
  cases h
  refine ⟨fun _ => none, none_supp, rfl, fun H' hH => ⟨_, ?_, rfl⟩⟩
  unfold sliceD at hl ⊢
  split at hl
  ·exact hl
  ·exact hl
  ·rename_i o off len sz ver ho
   rw [ho] at hy
   cases hy
   rw [hH o rfl]
   exact hl
  ·exact hl
  ·exact hl
  ·cases hl
 ·simp only [heapOp, Option.bind_eq_bind, Option.bind_eq_some_iff] at h ⊢
  obtain ⟨n, hn, h⟩ := h
  split at h
  ·rename_i hc
   cases h
   refine ⟨upd (liftH id 1 (cellsOf (ρ a)) (fun _ => none)) (id, 0) (.cells (liftCells id 1 (cellsOf (ρ a)))), fun p y hp => .inl ?_, ?_, fun H' _ => ⟨n, hn, ?_⟩⟩
   ·exact upd_supp (fun o z hz => liftH_supp id _ 1 o z hz) p y hp
   ·rw [← upd_over2, ← liftH_over]; rfl
   ·rw [if_pos hc, ← upd_over2, ← liftH_over]; rfl
  ·cases h
 ·have hz := hz t m i rfl
  simp only [heapOp] at h ⊢
  unfold mapEntryO at h ⊢
  simp only [Option.bind_eq_bind, Option.bind_eq_some_iff] at h ⊢
  obtain ⟨⟨kt, et⟩, hk, sh, hs, ⟨o, es, c⟩, hm, h⟩ := h
  have hmo : ρ m = .map o := by
   unfold mapO at hm
   split at hm
   ·rename_i o' ho
    simp only [Option.bind_eq_some_iff] at hm
    obtain ⟨y, hy, hm⟩ := hm
    split at hm
    ·split at hm
     ·cases hm; exact ho
     ·cases hm
    ·cases hm
   ·cases hm
  rw [hmo] at hz
  cases hz
  have hm2 : ∀ H' : Hp, H' o = H o → mapO H' sh (ρ m) = some (o, es, c) := fun H' hH => by
   rw [← hm, hmo]; simp only [mapO, hH]
  split at h
  ·rename_i k hki
   simp only [Option.bind_eq_some_iff] at h
   obtain ⟨z, hzv, h⟩ := h
   split at h
   ·rename_i hf
    split at h
    ·rename_i j v' n' hfk
     cases h
     refine ⟨fun _ => none, none_supp, rfl, fun H' hH => ⟨(kt, et), hk, sh, hs, _, hm2 H' (hH o rfl), ?_⟩⟩
     simp only [hki, hzv, Option.bind_some, if_pos hf, hfk]
     rfl
    ·rename_i hfk
     cases h
     refine ⟨upd (fun _ => none) o (.mp sh (es ++ [(k, z, c)]) (c + 1)), fun p y hp => ?_, upd_over _ _ _, fun H' hH => ⟨(kt, et), hk, sh, hs, _, hm2 H' (hH o rfl), ?_⟩⟩
     ·simp only [upd] at hp
      split at hp
      ·rename_i e; exact .inr (by rw [e])
      ·cases hp
     ·simp only [hki, hzv, Option.bind_some, if_pos hf, hfk]
      rw [upd_over H']
   ·cases h
  ·cases h
theorem dyn_replay {pol : Pol} {cl : CallF} {id : Nat} {o : AOp} {stA st' : St} {x : Option Oid} (hk : dynKind o = true) (hx : tch o stA.tm = some x) (hid : ∀ p, x = some p → p.1 ≠ id) (h : stepGS P pol cl id o stA = some st') :
  ∃ (v : AV) (g : Hp), (∀ p y, g p = some y → p.1 = id ∨ x = some p) ∧ st' = put ⟨stA.tm, over g stA.hp, stA.nx⟩ o.dst v ∧
   ∀ stB : St, (∀ t ∈ areads o, stA.tm.getD t .junk = stB.tm.getD t .junk) → (∀ p, x = some p → stB.hp p = stA.hp p) → stepGS P pol cl id o stB = some (put ⟨stB.tm, over g stB.hp, stB.nx⟩ o.dst v) := by
 obtain ⟨hso, hv, hc, hop⟩ := dynKind_spec hk
 have hN0 : ∀ st : St, (⟨st.tm, over (fun _ => none) st.hp, st.nx⟩ : St) = st := fun st => by cases st; rfl
 have hsk : (guarded o stA (stepOpS P pol cl id o stA) = some (put stA o.dst (.d (.tup []))) ∧ ∀ stB : St, (∀ t ∈ areads o, stA.tm.getD t .junk = stB.tm.getD t .junk) → guarded o stB (stepOpS P pol cl id o stB) = some (put stB o.dst (.d (.tup [])))) ∨
   (stepOpS P pol cl id o stA = some st' ∧ ∀ stB : St, (∀ t ∈ areads o, stA.tm.getD t .junk = stB.tm.getD t .junk) → guarded o stB (stepOpS P pol cl id o stB) = stepOpS P pol cl id o stB) := by
  unfold stepGS at h
  cases hg : o.guard with
  | none =>
   simp only [guarded, hg] at h ⊢
   exact .inr ⟨h, fun _ _ => trivial⟩
  | some p =>
   obtain ⟨t, w⟩ := p
   have ht : t ∈ areads o := by unfold areads; rw [hg]; exact List.mem_append_right _ (by simp)
   simp only [guarded, hg] at h ⊢
   split at h
   ·rename_i b hv
    split at h
    ·rename_i hb
     refine .inr ⟨h, fun stB hB => ?_⟩
     rw [← hB t ht, hv]
     simp only
     rw [if_pos hb]
    ·rename_i hb
     refine .inl ⟨by rw [if_neg hb], fun stB hB => ?_⟩
     rw [← hB t ht, hv]
     simp only
     rw [if_neg hb]
   ·exact .inl ⟨rfl, fun stB hB => by rw [← hB t ht]; simp only [*]⟩
   ·cases h
 rcases hsk with ⟨h1, h2⟩ | ⟨h1, h2⟩
 ·unfold stepGS at h
  rw [h1] at h
  cases h
  exact ⟨.d (.tup []), fun _ => none, fun p y (hp : (none : Option Am.Obj) = some y) => (by cases hp), by rw [hN0], fun stB hB _ => by rw [hN0]; exact h2 stB hB⟩
 ·have hstep : ∀ st : St, stepOpS P pol cl id o st = (heapOp P (ev st.tm) st.hp id o.op).bind fun q => some (put ⟨st.tm, q.2, st.nx⟩ o.dst q.1) := fun st => by
   simp only [stepOpS, hso, hc, stepN, hv, lit_not hso, Bool.false_eq_true, if_false]
   rfl
  rw [hstep] at h1
  simp only [Option.bind_eq_some_iff] at h1
  obtain ⟨⟨v, H1⟩, h1, h3⟩ := h1
  cases h3
  have hx1 : ∀ t a, (o.op = .load t a ∨ ∃ v, o.op = .store t a v) → (match ev stA.tm a with | .ptr o _ _ => some (some o) | .d _ => some none | _ => none) = some x := by
   rintro t a (e | ⟨v, e⟩)
   ·rw [← hx]; unfold tch; rw [e]; rfl
   ·rw [← hx]; unfold tch; rw [e]; rfl
  have hx2 : ∀ t a, ((∃ i, o.op = .indexAddr t a i) ∨ ∃ lo hi mx, o.op = .slice t a lo hi mx) → (match ev stA.tm a with | .osl o _ _ _ _ | .vsl o _ _ _ _ | .ptr o _ _ => some (some o) | .d _ => some none | _ => none) = some x := by
   rintro t a (⟨i, e⟩ | ⟨lo, hi, mx, e⟩)
   ·rw [← hx]; unfold tch; rw [e]; rfl
   ·rw [← hx]; unfold tch; rw [e]; rfl
  have hx3 : ∀ t m i, o.op = .mapEntry t m i → (match ev stA.tm m with | .map o => some (some o) | .d _ => some none | _ => none) = some x := fun t m i e => by
   rw [← hx]; unfold tch; rw [e]; rfl
  obtain ⟨g, hg, rfl, hg3⟩ := dyn_heap (C := ⟨fun _ => none, fun _ => False, fun _ => none, fun _ => False, default⟩) hop hx1 hx2 hx3 hid h1
  refine ⟨v, g, hg, rfl, fun stB hB hH => ?_⟩
  unfold stepGS
  rw [h2 stB hB, hstep]
  have he := ev_same (tm := stB.tm) (tm' := stA.tm) (o := o) hB
  rw [← heapOp_congr he, hg3 stB.hp hH]
  rfl
theorem indepD_spec {x y : AOp} (h : indepD x y = true) : (∀ d, x.dst = some d → d ∉ areads y) ∧ (∀ d, x.dst = some d → y.dst ≠ some d) ∧ (∀ d, y.dst = some d → d ∉ areads x) ∧ dynKind x = true ∧ dynKind y = true := by
 unfold indepD at h
 simp only [Bool.and_eq_true] at h
 obtain ⟨⟨h1, h2⟩, h3, h4⟩ := h
 refine ⟨fun d hd => ?_, fun d hd => ?_, fun d hd => ?_, h3, h4⟩
 ·rw [hd] at h1
  simp only [Bool.and_eq_true, Bool.not_eq_true'] at h1
  intro hm
  have := h1.1
  rw [List.contains_iff_mem.2 hm] at this
  cases this
 ·rw [hd] at h1
  simp only [Bool.and_eq_true, bne_iff_ne] at h1
  exact h1.2
 ·rw [hd] at h2
  simp only [Bool.not_eq_true'] at h2
  intro hm
  rw [List.contains_iff_mem.2 hm] at h2
  cases h2
theorem tch_used {C : Cx} {o : AOp} {tm : List AV} (hr : ∀ x ∈ o.op.operands.toList, ∃ u, Rep C (ev tm x) u) {p : Oid} (h : tch o tm = some (some p)) : C.U p := by
 unfold tch at h
 split at h
 ·rename_i t a ho
  obtain ⟨u, hu⟩ := hr a (by rw [ho]; simp [Op.operands])
  split at h
  ·rename_i hq; cases h; rw [hq] at hu; cases hu with | ptr _ _ _ _ hU _ _ => exact hU
  ·cases h
  ·cases h
 ·rename_i t a v ho
  obtain ⟨u, hu⟩ := hr a (by rw [ho]; simp [Op.operands])
  split at h
  ·rename_i hq; cases h; rw [hq] at hu; cases hu with | ptr _ _ _ _ hU _ _ => exact hU
  ·cases h
  ·cases h
 ·rename_i t a i ho
  obtain ⟨u, hu⟩ := hr a (by rw [ho]; simp [Op.operands])
  split at h
  ·rename_i hq; cases h; rw [hq] at hu; cases hu with | osl _ _ _ _ _ _ _ _ hU _ _ => exact hU
  ·rename_i hq; cases h; rw [hq] at hu; cases hu with | vsl _ _ _ _ _ _ _ _ hU _ _ => exact hU
  ·rename_i hq; cases h; rw [hq] at hu; cases hu with | ptr _ _ _ _ hU _ _ => exact hU
  ·cases h
  ·cases h
 ·rename_i t a lo hi mx ho
  obtain ⟨u, hu⟩ := hr a (by rw [ho]; simp [Op.operands])
  split at h
  ·rename_i hq; cases h; rw [hq] at hu; cases hu with | osl _ _ _ _ _ _ _ _ hU _ _ => exact hU
  ·rename_i hq; cases h; rw [hq] at hu; cases hu with | vsl _ _ _ _ _ _ _ _ hU _ _ => exact hU
  ·rename_i hq; cases h; rw [hq] at hu; cases hu with | ptr _ _ _ _ hU _ _ => exact hU
  ·cases h
  ·cases h
 ·cases h
 ·rename_i t m i ho
  obtain ⟨u, hu⟩ := hr m (by rw [ho]; simp [Op.operands])
  split at h
  ·rename_i hq; cases h; rw [hq] at hu; cases hu with | map _ _ hU => exact hU
  ·cases h
  ·cases h
 ·split at h
  ·split at h <;> cases h
  ·cases h
 ·cases h
theorem swapD {pol : Pol} {cl : CallF} {C : Cx} {st : St} {a : Act} (hs : StOk B C st a) {j i : Nat} {oj oi : AOp} (hj : ∀ k, ¬ C.U (j, k)) (hi : ∀ k, ¬ C.U (i, k)) (hne : j ≠ i) (hind : indepD oj oi = true) {st1 st2 : St} (h1 : stepGS P pol cl j oj st = some st1) (h2 : stepGS P pol cl i oi st1 = some st2)
  (hap : apart (tch oj st.tm) (tch oi st1.tm) = true) :
  ∃ st1', stepGS P pol cl i oi st = some st1' ∧ stepGS P pol cl j oj st1' = some st2 ∧ tch oi st.tm = tch oi st1.tm ∧ tch oj st1'.tm = tch oj st.tm := by
 obtain ⟨d1, d2, d3, kj, ki⟩ := indepD_spec hind
 have hrep : ∀ x, ∃ u, Rep C (ev st.tm x) u := fun x => ⟨_, hs.tm.ev x⟩
 obtain ⟨x, y, ex, ey, hxy⟩ : ∃ x y, tch oj st.tm = some x ∧ tch oi st1.tm = some y ∧ ∀ p, x = some p → y ≠ some p := by
  unfold apart at hap
  split at hap
  ·rename_i x y e1 e2
   refine ⟨_, _, e1, e2, fun p hp hq => ?_⟩
   cases hp; cases hq; simp at hap
  ·rename_i x y hn e1 e2
   exact ⟨_, _, e1, e2, fun p hp hq => by subst hp; subst hq; exact hn p p rfl rfl⟩
  ·cases hap
 have hxid : ∀ p, x = some p → p.1 ≠ j ∧ p.1 ≠ i := fun p hp => by
  have hU := tch_used (C := C) (fun x _ => hrep x) (by rw [ex, hp])
  exact ⟨fun e => hj p.2 (by rw [← e]; exact hU), fun e => hi p.2 (by rw [← e]; exact hU)⟩
 obtain ⟨vj, gj, sj, e1, rj⟩ := dyn_replay kj ex (fun p hp => (hxid p hp).1) h1
 subst e1
 have hgi : ∀ t ∈ areads oi, (put ⟨st.tm, over gj st.hp, st.nx⟩ oj.dst vj).tm.getD t .junk = st.tm.getD t .junk := fun t ht => put_getD ⟨st.tm, over gj st.hp, st.nx⟩ _ _ _ (fun d hd e => d1 d hd (e ▸ ht))
 have hti : tch oi st.tm = tch oi (put ⟨st.tm, over gj st.hp, st.nx⟩ oj.dst vj).tm := (tch_congr hgi).symm
 have hyid : ∀ p, y = some p → p.1 ≠ j ∧ p.1 ≠ i := fun p hp => by
  have hU := tch_used (C := C) (o := oi) (tm := st.tm) (fun x _ => hrep x) (by rw [hti, ey, hp])
  exact ⟨fun e => hj p.2 (by rw [← e]; exact hU), fun e => hi p.2 (by rw [← e]; exact hU)⟩
 obtain ⟨vi, gi, si, e2, ri⟩ := dyn_replay ki ey (fun p hp => (hyid p hp).2) h2
 subst e2
 have p1 := put_hp ⟨st.tm, over gj st.hp, st.nx⟩ oj.dst vj
 have p2 := put_hp ⟨st.tm, over gi st.hp, st.nx⟩ oi.dst vi
 have hgy : ∀ p, y = some p → gj p = none := fun p hp => by
  cases hq : gj p with
  | none => rfl
  | some z =>
   rcases sj p z hq with e | e
   ·exact absurd e (hyid p hp).1
   ·exact absurd hp (hxy p e)
 have hgx : ∀ p, x = some p → gi p = none := fun p hp => by
  cases hq : gi p with
  | none => rfl
  | some z =>
   rcases si p z hq with e | e
   ·exact absurd e (hxid p hp).2
   ·exact absurd e (hxy p hp)
 have h2' := ri st hgi (fun p hp => by rw [p1.1]; simp [over, hgy p hp])
 refine ⟨_, h2', ?_, hti, ?_⟩
 ·have h3 := rj (put ⟨st.tm, over gi st.hp, st.nx⟩ oi.dst vi) (fun t ht => (put_getD ⟨st.tm, over gi st.hp, st.nx⟩ _ _ _ (fun d hd e => d3 d hd (e ▸ ht))).symm) (fun p hp => by rw [p2.1]; simp [over, hgx p hp])
  rw [h3, p2.1, p2.2, p1.1, p1.2]
  have hcomm : over gj (over gi st.hp) = over gi (over gj st.hp) := by
   funext p
   simp only [over]
   cases hq : gj p with
   | none => rfl
   | some z =>
    cases hq2 : gi p with
    | none => rfl
    | some z2 =>
     exfalso
     rcases sj p z hq with e | e
     ·rcases si p z2 hq2 with e' | e'
      ·exact hne (e.symm.trans e')
      ·exact (hyid p e').1 e
     ·rcases si p z2 hq2 with e' | e'
      ·exact (hxid p e).2 e'
      ·exact hxy p e e'
  show some (put ⟨(put ⟨st.tm, over gi st.hp, st.nx⟩ oi.dst vi).tm, over gj (over gi st.hp), st.nx⟩ oj.dst vj) = some (put ⟨(put ⟨st.tm, over gj st.hp, st.nx⟩ oj.dst vj).tm, over gi (over gj st.hp), st.nx⟩ oi.dst vi)
  rw [hcomm]
  have := put_comm (tm := st.tm) (H := over gi (over gj st.hp)) (nx := st.nx) (x := oi.dst) (y := oj.dst) (v := vi) (u := vj) (fun d hd e => d2 d e hd)
  rw [put_put ⟨st.tm, over gi (over gj st.hp), st.nx⟩ oi.dst vi, put_put ⟨st.tm, over gi (over gj st.hp), st.nx⟩ oj.dst vj] at this
  rw [put_tm st.tm (over gi st.hp) (over gi (over gj st.hp)) st.nx st.nx, put_tm st.tm (over gj st.hp) (over gi (over gj st.hp)) st.nx st.nx]
  exact congrArg some this
 ·exact tch_congr fun t ht => put_getD ⟨st.tm, over gi st.hp, st.nx⟩ _ _ _ (fun d hd e => d3 d hd (e ▸ ht))
theorem callS_callA {pol : Pol} {cl : CallF} {H : Hp} {nx : Nat} {f : FuncId} {vs : List AV} {v : AV} {is : List Oid} (h : callS pol cl H f vs = some (v, is)) : callA pol cl H nx f vs = some (v, kill H is, nx) := by
 unfold callS at h
 unfold callA
 split at h
 ·simp only [Option.bind_eq_some_iff] at h ⊢
  obtain ⟨x, hx, h⟩ := h
  cases h
  exact ⟨x, hx, rfl⟩
 ·cases h
theorem stepOp_of_S {pol : Pol} {cl : CallF} {id : Nat} {o : AOp} {st st' : St} (h : stepOpS P pol cl id o st = some st') : stepOp P pol cl id o st = some st' := by
 unfold stepOpS at h
 split at h
 ·exact h
 unfold stepOp
 split at h
 ·simp only [Option.bind_eq_bind, Option.bind_eq_some_iff] at h ⊢
  obtain ⟨⟨g, cap⟩, hg, ⟨v, is⟩, hv, h⟩ := h
  cases h
  exact ⟨(g, cap), hg, (v, kill st.hp is, st.nx), callS_callA hv, rfl⟩
 ·exact h
theorem compOp_same {b : Bool} {ops : Array Oper} {o : Oper} {ao : AOp} (hao : compOp b ops o = some ao) : ao.dst = o.dst ∧ ao.op = o.op := by
 unfold compOp at hao
 split at hao
 ·cases hao; exact ⟨rfl, rfl⟩
 ·simp only [Option.bind_eq_bind, Option.bind_eq_some_iff] at hao
  obtain ⟨_, _, _, _, hao⟩ := hao
  cases hao; exact ⟨rfl, rfl⟩
theorem wpOp_sim {q : Option Nat} {n : Nat} {pol : Pol} {cl : CallF} (hcl : SimC P cl) {ops : Array Oper} {Q : Exit → Act → World → Prop} {K : Act → World → Prop} {C : Cx} {st st' : St} {a : Act} {id i : Nat} {o : Oper} {ao : AOp} {b0 : Bool} (hs : StOk B C st a) (hid : ∀ k, ¬ C.U (id, k)) (hidn : id < st.nx)
  (ho : ops[i]? = some o) (hao : compOp b0 ops o = some ao) (h : stepGS P pol cl id ao st = some st')
  (hn : ∀ C' a', StOk B C' st' a' → Ext C C' → st.nx ≤ st'.nx → (∀ p, C'.U p → C.U p ∨ p.1 = id ∨ st.nx ≤ p.1) → K a' C'.w) : wpOpIn (frn q) n P ops Q i K a C.w := by
 obtain ⟨hd, hop⟩ := compOp_same hao
 unfold wpOpIn
 rw [ho]
 simp only
 have step : stepOpS P pol cl id ao st = some st' → Region.wanted o (yielded ops a.tmps) = true → if Region.wanted o (yielded ops a.tmps) then o.wpIn (frn q) n P a C.w K Q else (∀ f, o.about P C.w a.eval = some f → (frn q).fn f) ∧ K (a.put o.dst undef) C.w := by
  intro hst hw
  rw [if_pos hw]
  exact stepOp_sim hcl hd hop hs hid hidn (stepOp_of_S hst) hn
 unfold stepGS guarded at h
 unfold compOp at hao
 split at hao
 ·rename_i hg
  cases hao
  exact step h (by simp [Region.wanted, hg])
 ·rename_i j w hg
  simp only [Option.bind_eq_bind, Option.bind_eq_some_iff] at hao
  obtain ⟨p, hp, t, ht, hao⟩ := hao
  cases hao
  simp only at h
  split at h
  ·rename_i b hb
   have hy := guard_yields hs.tm hp ht hb
   split at h
   ·rename_i hbw
    exact step h (by simp [Region.wanted, hg, hy, hbw])
   ·rename_i hbw
    cases h
    rw [if_neg (by simp [Region.wanted, hg, hy, hbw])]
    have hp2 := put_hp st o.dst (.d (.tup []))
    refine ⟨fun _ _ => trivial, ?_⟩
    exact hn C _ ⟨by rw [hp2.1]; exact hs.H, hs.inv, fun p hu => by rw [hp2.2]; exact hs.lt p hu, hs.tm.put (rep_undef C), by rw [put_defers]; exact hs.df⟩ (.refl hs.inv) (by rw [hp2.2]; exact Nat.le_refl _) (fun p hp => .inl hp)
  ·rename_i hb
   have hy := guard_skipped hs.tm hp ht hb
   cases h
   rw [if_neg (by simp [Region.wanted, hg, hy])]
   have hp2 := put_hp st o.dst (.d (.tup []))
   refine ⟨fun _ _ => trivial, ?_⟩
   exact hn C _ ⟨by rw [hp2.1]; exact hs.H, hs.inv, fun p hu => by rw [hp2.2]; exact hs.lt p hu, hs.tm.put (rep_undef C), by rw [put_defers]; exact hs.df⟩ (.refl hs.inv) (by rw [hp2.2]; exact Nat.le_refl _) (fun p hp => .inl hp)
  ·cases h
theorem wpOp_exists {q : Option Nat} {n : Nat} {ops : Array Oper} {K : Act → World → Prop} {i : Nat} {a : Act} {w : World} (h : wpOpIn (frn q) n P ops (fun _ _ _ => False) i K a w) : ∃ a' w', K a' w' := by
 have room : ∀ m, (frn q).room m := fun m d hd => by simp [frn, Fence.wide] at hd
 unfold wpOpIn at h
 split at h
 ·exact ⟨_, _, h⟩
 ·rename_i o ho
  split at h
  ·unfold Oper.wpIn at h
   have h := h.2
   generalize (o.semAt (frn q).round a.eval).run P w = r at h
   cases r with
   | ok n w' =>
    cases n <;> simp only [Oper.uponIn] at h
    case value => exact ⟨_, _, h⟩
    case skip => exact ⟨_, _, h⟩
    case defer => exact ⟨_, _, h⟩
    case enter f args =>
     obtain ⟨e, w'', fr, hR, _⟩ := h.2.2 [] (room _)
     cases e with
     | returned v => exact ⟨_, _, hR⟩
     | panicked => exact hR.elim
     | outgrown => obtain ⟨_, _, hR⟩ := hR; exact hR.elim
    case row r args =>
     obtain ⟨v, w'', hR, _⟩ := h.2 default [] (room _)
     exact ⟨_, _, hR⟩
    case round l f tmps as body =>
     obtain ⟨e, w'', hR, _⟩ := h.2.2 default [] (room _)
     cases e with
     | returned v => exact ⟨_, _, hR⟩
     | panicked => exact hR.elim
     | outgrown => obtain ⟨_, _, hR⟩ := hR; exact hR.elim
   | halt x w' => cases x <;> simp only [Oper.uponIn] at h
  ·exact ⟨_, _, h.2⟩
open Classical in
noncomputable def stepT (P : Program) (pol : Pol) (cl : CallF) (T : Nat → Lg) (base i : Nat) (o : AOp) (st : St) : Option St :=
 (stepGS P pol cl (base + i) o st).bind fun st' => if T i = (none, none) ∨ lgOf o st st' = T i then some st' else none
theorem stepT_some {pol : Pol} {cl : CallF} {T : Nat → Lg} {base i : Nat} {o : AOp} {st st' : St} (h : stepT P pol cl T base i o st = some st') : stepGS P pol cl (base + i) o st = some st' ∧ (T i = (none, none) ∨ lgOf o st st' = T i) := by
 unfold stepT at h
 simp only [Option.bind_eq_some_iff] at h
 obtain ⟨s, h1, h⟩ := h
 split at h
 ·rename_i hc; cases h; exact ⟨h1, hc⟩
 ·cases h
theorem stepT_of {pol : Pol} {cl : CallF} {T : Nat → Lg} {base i : Nat} {o : AOp} {st st' : St} (h : stepGS P pol cl (base + i) o st = some st') (hc : T i = (none, none) ∨ lgOf o st st' = T i) : stepT P pol cl T base i o st = some st' := by
 unfold stepT; rw [h]; exact if_pos hc
def indT (T : Nat → Lg) (j i : Nat) (aj ai : AOp) : Prop := indep aj ai = true ∨ ((indepD aj ai = true ∨ indepC aj ai = true) ∧ apartL (T j) (T i) = true)
theorem apart_some {x y : Tch} (h : apart x y = true) : x ≠ none ∧ y ≠ none := by
 constructor <;> (rintro rfl; unfold apart at h; split at h <;> simp_all)
theorem apartL_none {x y : Lg} (h : apartL x y = true) : x ≠ (none, none) ∧ y ≠ (none, none) := by
 constructor <;> (rintro rfl; simp only [apartL, apart, keepsAt, Bool.or_false, Bool.false_or, Bool.or_eq_true] at h; revert h)
 ·cases y with | mk a b => cases b <;> simp [keepsAt]
 ·obtain ⟨a, b⟩ := x; rcases a with _ | _ | _ <;> rcases b with _ | ⟨_, _⟩ <;> simp [keepsAt, apart]
theorem call_tch {o : AOp} (h : (isCall o).isSome = true) (tm : List AV) : tch o tm = none := by
 unfold isCall at h
 split at h
 ·rename_i f as ats ho; unfold tch; rw [ho]
 ·cases h
theorem app_tch {o : AOp} (h : isApp o = true) (tm : List AV) : tch o tm = none := by
 unfold isApp at h
 split at h
 ·rename_i as ats ho; unfold tch; rw [ho]
 ·cases h
theorem solo_build {o : AOp} (h : (isCall o).isSome = true ∨ isApp o = true) : isBuild o.op = false := by
 cases hb : isBuild o.op with
 | false => rfl
 | true =>
  unfold isBuild at hb
  split at hb
  ·rename_i ho
   rcases h with h | h
   ·unfold isCall at h; rw [ho] at h; cases h
   ·unfold isApp at h; rw [ho] at h; cases h
  ·cases hb
theorem solo_tch {o : AOp} (h : (isCall o).isSome = true ∨ isApp o = true) (tm : List AV) : tch o tm = none := h.elim (fun h => call_tch h tm) (fun h => app_tch h tm)
theorem readU_spec {o : AOp} (h : isReadU o = true) : o.solo = false ∧ ((∃ t a, o.op = .load t a) ∨ (∃ t a i, o.op = .indexAddr t a i) ∨ (∃ t a lo hi mx, o.op = .slice t a lo hi mx) ∨ ∃ as ats, o.op = .call ⟨.builtin .len, as, ats⟩) := by
 unfold isReadU at h
 split at h <;> first | cases h | skip
 all_goals
  rename_i ho
  simp only [Bool.not_eq_true'] at h
  refine ⟨h, ?_⟩
 ·exact .inl ⟨_, _, ho⟩
 ·exact .inr (.inl ⟨_, _, _, ho⟩)
 ·exact .inr (.inr (.inl ⟨_, _, _, _, _, ho⟩))
 ·exact .inr (.inr (.inr ⟨_, _, ho⟩))
theorem load_solo {o : AOp} (h : isReadU o = true) : o.solo = false := (readU_spec h).1
theorem indepC_spec {x y : AOp} (h : indepC x y = true) : (∀ d, x.dst = some d → d ∉ areads y) ∧ (∀ d, x.dst = some d → y.dst ≠ some d) ∧ (∀ d, y.dst = some d → d ∉ areads x) ∧ (((x.solo && !isBuild x.op) = true ∧ x.solo = true ∧ isReadU y = true ∧ ∀ tm, tch x tm = none) ∨ (isReadU x = true ∧ (y.solo && !isBuild y.op) = true ∧ y.solo = true ∧ ∀ tm, tch y tm = none)) := by
 unfold indepC at h
 simp only [Bool.and_eq_true, Bool.or_eq_true] at h
 obtain ⟨⟨h1, h2⟩, h3⟩ := h
 refine ⟨fun d hd => ?_, fun d hd => ?_, fun d hd => ?_, ?_⟩
 ·rw [hd] at h1
  simp only [Bool.and_eq_true, Bool.not_eq_true'] at h1
  intro hm
  have := h1.1
  rw [List.contains_iff_mem.2 hm] at this
  cases this
 ·rw [hd] at h1
  simp only [Bool.and_eq_true, bne_iff_ne] at h1
  exact h1.2
 ·rw [hd] at h2
  simp only [Bool.not_eq_true'] at h2
  intro hm
  rw [List.contains_iff_mem.2 hm] at h2
  cases h2
 ·rcases h3 with ⟨⟨a, q⟩, c⟩ | ⟨⟨a, b⟩, q⟩
  ·exact .inl ⟨by simp [a, solo_build q], a, c, solo_tch q⟩
  ·exact .inr ⟨a, by simp [b, solo_build q], b, solo_tch q⟩
theorem keepsAt_spec {Hb Ha : Hp} {t : Tch} (h : keepsAt (some (Hb, Ha)) t = true) : ∃ x, t = some x ∧ ∀ p, x = some p → Hb p = Ha p := by
 rcases t with _ | _ | p
 ·cases h
 ·exact ⟨none, rfl, fun p hp => by cases hp⟩
 ·exact ⟨some p, rfl, fun q hq => by cases hq; simpa [keepsAt] using h⟩
theorem read_heap {ρ : Operand → AV} {op : Op} {id : Nat} {H H1 : Hp} {v : AV} {x : Option Oid} (hop : (∃ t a, op = .load t a) ∨ (∃ t a i, op = .indexAddr t a i) ∨ (∃ t a lo hi mx, op = .slice t a lo hi mx) ∨ ∃ as ats, op = .call ⟨.builtin .len, as, ats⟩)
  (hx : ∀ t a, op = .load t a → (match ρ a with | .ptr o _ _ => some (some o) | .d _ => some none | _ => none) = some x)
  (hy : ∀ t a, ((∃ i, op = .indexAddr t a i) ∨ ∃ lo hi mx, op = .slice t a lo hi mx) → (match ρ a with | .osl o _ _ _ _ | .vsl o _ _ _ _ | .ptr o _ _ => some (some o) | .d _ => some none | _ => none) = some x)
  (hz : ∀ as ats, op = .call ⟨.builtin .len, as, ats⟩ → (match as.toList with | [x] => (match ρ x with | .osl _ _ _ _ _ | .vsl _ _ _ _ _ | .d _ => some none | _ => none) | _ => none) = some x)
  (h : heapOp P ρ H id op = some (v, H1)) : H1 = H ∧ ∀ H', (∀ p, x = some p → H' p = H p) → heapOp P ρ H' id op = some (v, H') := by
 rcases hop with ⟨t, a, rfl⟩ | ⟨t, a, i, rfl⟩ | ⟨t, a, lo, hi, mx, rfl⟩ | ⟨as, ats, rfl⟩
 ·have hx := hx t a rfl
  simp only [heapOp, Option.map_eq_some_iff] at h ⊢
  obtain ⟨y, hl, h⟩ := h
  cases h
  refine ⟨rfl, fun H' hH => ⟨_, ?_, rfl⟩⟩
  unfold load at hl ⊢
  split at hl
  ·exact hl
  ·rename_i o off ver ho
   rw [ho] at hx
   cases hx
   rw [hH o rfl]
   exact hl
  ·cases hl
 ·have hy := hy t a (.inl ⟨i, rfl⟩)
  simp only [heapOp, Option.map_eq_some_iff] at h ⊢
  obtain ⟨y, hl, h⟩ := h
  cases h
  refine ⟨rfl, fun H' hH => ⟨_, ?_, rfl⟩⟩
  unfold idxAddr at hl ⊢
  split at hl
  ·exact hl
  simp only [Option.bind_eq_bind, Option.bind_eq_some_iff] at hl ⊢
  obtain ⟨e, he, n, hn, hl⟩ := hl
  refine ⟨e, he, n, hn, ?_⟩
  split at hl
  ·exact hl
  ·rename_i o off len sz ver k ho hi
   rw [ho] at hy
   cases hy
   rw [hH o rfl]
   exact hl
  ·rename_i o off len sz ver k ho hi
   rw [ho] at hy
   cases hy
   rw [hH o rfl]
   exact hl
  ·cases hl
 ·have hy := hy t a (.inr ⟨lo, hi, mx, rfl⟩)
  simp only [heapOp, Option.map_eq_some_iff] at h ⊢
  obtain ⟨y, hl, h⟩ := h
  cases h
  refine ⟨rfl, fun H' hH => ⟨_, ?_, rfl⟩⟩
  unfold sliceD at hl ⊢
  split at hl
  ·exact hl
  ·exact hl
  ·rename_i o off len sz ver ho
   rw [ho] at hy
   cases hy
   rw [hH o rfl]
   exact hl
  ·exact hl
  ·exact hl
  ·cases hl
 ·have hz := hz as ats rfl
  simp only [heapOp] at h ⊢
  cases hl : as.toList with
  | nil => rw [hl] at h; cases h
  | cons y r =>
   cases r with
   | cons => rw [hl] at h; simp at h
   | nil =>
    rw [hl] at h hz
    cases ht : ats[0]? with
    | none => rw [ht] at h; simp at h
    | some t =>
     rw [ht] at h
     simp only [List.map_cons, List.map_nil] at h hz ⊢
     cases hv : ρ y with
     | map o => rw [hv] at hz; cases hz
     | _ =>
      rw [hv] at h
      simp only [Option.map_eq_some_iff] at h ⊢
      obtain ⟨w, hw, h⟩ := h
      cases h
      exact ⟨rfl, fun H' hH => ⟨_, hw, rfl⟩⟩
theorem guarded_cases {o : AOp} {st st' : St} {k : Option St} (h : guarded o st k = some st') :
  (∃ v, st' = put st o.dst v ∧ ∀ stB : St, (∀ t ∈ areads o, st.tm.getD t .junk = stB.tm.getD t .junk) → ∀ k, guarded o stB k = some (put stB o.dst v)) ∨
  (k = some st' ∧ ∀ stB : St, (∀ t ∈ areads o, st.tm.getD t .junk = stB.tm.getD t .junk) → ∀ k, guarded o stB k = k) := by
 unfold guarded at h ⊢
 cases hg : o.guard with
 | none => rw [hg] at h; exact .inr ⟨h, fun _ _ _ => rfl⟩
 | some p =>
  obtain ⟨t, w⟩ := p
  rw [hg] at h
  have ht : t ∈ areads o := by unfold areads; rw [hg]; simp
  simp only at h ⊢
  split at h
  ·rename_i b hb
   split at h
   ·rename_i hbw
    exact .inr ⟨h, fun stB hB k => by rw [← hB t ht, hb]; simp only; rw [if_pos hbw]⟩
   ·rename_i hbw
    exact .inl ⟨_, (Option.some.inj h).symm, fun stB hB k => by rw [← hB t ht, hb]; simp only; rw [if_neg hbw]⟩
  ·rename_i hb
   exact .inl ⟨_, (Option.some.inj h).symm, fun stB hB k => by rw [← hB t ht, hb]⟩
  ·cases h
theorem load_step {pol : Pol} {cl : CallF} {id : Nat} {o : AOp} {st st' : St} {x : Option Oid} (hk : isReadU o = true) (hx : tch o st.tm = some x) (h : stepGS P pol cl id o st = some st') :
  ∃ v, st' = put st o.dst v ∧ ∀ stB : St, (∀ t ∈ areads o, st.tm.getD t .junk = stB.tm.getD t .junk) → (∀ p, x = some p → stB.hp p = st.hp p) → stepGS P pol cl id o stB = some (put stB o.dst v) := by
 obtain ⟨hso, hop⟩ := readU_spec hk
 unfold stepGS at h ⊢
 rcases guarded_cases h with ⟨v, e, hr⟩ | ⟨h, hgd⟩
 ·exact ⟨v, e, fun stB hB _ => hr stB hB _⟩
 have hval : isVal o = false := by rcases hop with ⟨t, a, e⟩ | ⟨t, a, i, e⟩ | ⟨t, a, lo, hi, mx, e⟩ | ⟨as, ats, e⟩ <;> simp [isVal, e]
 have hcl : isCall o = none := by rcases hop with ⟨t, a, e⟩ | ⟨t, a, i, e⟩ | ⟨t, a, lo, hi, mx, e⟩ | ⟨as, ats, e⟩ <;> simp [isCall, e]
 have hstep : ∀ st : St, stepOpS P pol cl id o st = (heapOp P (ev st.tm) st.hp id o.op).bind fun q => some (put ⟨st.tm, q.2, st.nx⟩ o.dst q.1) := fun st => by
  simp only [stepOpS, hso, hcl, stepN, hval, lit_not hso, Bool.false_eq_true, if_false]
  cases heapOp P (ev st.tm) st.hp id o.op <;> rfl
 rw [hstep] at h
 simp only [Option.bind_eq_some_iff] at h
 obtain ⟨⟨v, H1⟩, h1, h2⟩ := h
 cases h2
 have hx1 : ∀ t a, o.op = .load t a → (match ev st.tm a with | .ptr o _ _ => some (some o) | .d _ => some none | _ => none) = some x := fun t a e => by
  unfold tch at hx; rw [e] at hx; exact hx
 have hx2 : ∀ t a, ((∃ i, o.op = .indexAddr t a i) ∨ ∃ lo hi mx, o.op = .slice t a lo hi mx) → (match ev st.tm a with | .osl o _ _ _ _ | .vsl o _ _ _ _ | .ptr o _ _ => some (some o) | .d _ => some none | _ => none) = some x := fun t a e => by
  unfold tch at hx
  rcases e with ⟨i, e⟩ | ⟨lo, hi, mx, e⟩ <;> (rw [e] at hx; exact hx)
 have hx3 : ∀ as ats, o.op = .call ⟨.builtin .len, as, ats⟩ → (match as.toList with | [x] => (match ev st.tm x with | .osl _ _ _ _ _ | .vsl _ _ _ _ _ | .d _ => some none | _ => none) | _ => none) = some x := fun as ats e => by
  unfold tch at hx; rw [e] at hx; exact hx
 obtain ⟨rfl, hr⟩ := read_heap hop hx1 hx2 hx3 h1
 refine ⟨v, rfl, fun stB hB hH => ?_⟩
 have he := ev_same (tm := stB.tm) (tm' := st.tm) (o := o) hB
 rw [hgd stB hB, hstep, ← heapOp_congr he, hr stB.hp hH]; rfl
theorem call_step {pol : Pol} {cl : CallF} {id : Nat} {o : AOp} {st st' : St} (hso : o.solo = true) (h : stepGS P pol cl id o st = some st') :
  ∃ v H1 nx1, st' = put ⟨st.tm, H1, nx1⟩ o.dst v ∧ ∀ stB : St, (∀ t ∈ areads o, st.tm.getD t .junk = stB.tm.getD t .junk) → st.hp = stB.hp → st.nx = stB.nx → stepGS P pol cl id o stB = some (put ⟨stB.tm, H1, nx1⟩ o.dst v) := by
 unfold stepGS at h ⊢
 rcases guarded_cases h with ⟨v, e, hr⟩ | ⟨h, hgd⟩
 ·exact ⟨v, st.hp, st.nx, e, fun stB h1 h2 h3 => by rw [hr stB h1, h2, h3]⟩
 have hstep : ∀ st : St, stepOpS P pol cl id o st = stepOp P pol cl id o st := fun st => by simp only [stepOpS, hso, if_true]
 rw [hstep] at h
 obtain ⟨v, H1, nx1, e, hr⟩ := stepOp_shape h
 exact ⟨v, H1, nx1, e, fun stB h1 h2 h3 => by rw [hgd stB h1, hstep]; exact hr stB h1 h2 h3⟩
theorem swapT {pol : Pol} {cl : CallF} {T : Nat → Lg} {base : Nat} {C : Cx} {st : St} {a : Act} (hs : StOk B C st a) {j i : Nat} {oj oi : AOp} (hj : ∀ k, ¬ C.U (base + j, k)) (hi : ∀ k, ¬ C.U (base + i, k)) (hne : j ≠ i) (hind : indT T j i oj oi) {st1 st2 : St} (h1 : stepT P pol cl T base j oj st = some st1) (h2 : stepT P pol cl T base i oi st1 = some st2) :
  ∃ st1', stepT P pol cl T base i oi st = some st1' ∧ stepT P pol cl T base j oj st1' = some st2 := by
 obtain ⟨h1, t1⟩ := stepT_some h1
 obtain ⟨h2, t2⟩ := stepT_some h2
 rcases hind with hind | ⟨hind, hap⟩
 ·obtain ⟨d1, d2, d3, d4⟩ := indep_spec hind
  obtain ⟨st1', e1, e2, e3, e4⟩ := swap hs hj hi (by omega) hind h1 h2
  have hti : tch oi st1.tm = tch oi st.tm := by
   obtain ⟨v, N, M, rfl, _⟩ := step_replay hs.inv (fun t _ => ⟨_, hs.tm.getD t⟩) (fun _ => (fun o _ => by rw [hs.H] : Agree C st.hp)) h1
   exact tch_congr fun t ht => put_getD ⟨st.tm, N st.hp, M st.nx⟩ _ _ _ (fun d hd e => d1 d hd (e ▸ ht))
  have htj : tch oj st1'.tm = tch oj st.tm := by
   obtain ⟨v, N, M, rfl, _⟩ := step_replay hs.inv (fun t _ => ⟨_, hs.tm.getD t⟩) (fun _ => (fun o _ => by rw [hs.H] : Agree C st.hp)) e1
   exact tch_congr fun t ht => put_getD ⟨st.tm, N st.hp, M st.nx⟩ _ _ _ (fun d hd e => d3 d hd (e ▸ ht))
  have li : lgOf oi st st1' = lgOf oi st1 st2 := by
   unfold lgOf
   rw [hti]
   cases hso : oi.solo && !isBuild oi.op with
   | false => rfl
   | true => obtain ⟨q1, q2⟩ := e3 hso; simp only [if_true, q1, q2]
  have lj : lgOf oj st1' st2 = lgOf oj st st1 := by
   unfold lgOf
   rw [htj]
   cases hso : oj.solo && !isBuild oj.op with
   | false => rfl
   | true => obtain ⟨q1, q2⟩ := e4 hso; simp only [if_true, q1, q2]
  exact ⟨st1', stepT_of e1 (by rw [li]; exact t2), stepT_of e2 (by rw [lj]; exact t1)⟩
 ·obtain ⟨n1, n2⟩ := apartL_none hap
  have t1 := t1.resolve_left n1
  have t2 := t2.resolve_left n2
  rcases hind with hind | hind
  ·obtain ⟨_, _, _, kj, ki⟩ := indepD_spec hind
   have sj := (dynKind_spec kj).1
   have si := (dynKind_spec ki).1
   have hap2 : apart (tch oj st.tm) (tch oi st1.tm) = true := by
    rw [← t1, ← t2] at hap
    simpa [apartL, lgOf, sj, si, keepsAt] using hap
   obtain ⟨st1', e1, e2, e3, e4⟩ := swapD hs hj hi (by omega) hind h1 h2 hap2
   refine ⟨st1', stepT_of e1 (.inr ?_), stepT_of e2 (.inr ?_)⟩
   ·rw [← t2]; simp only [lgOf, si, e3, Bool.false_and, Bool.false_eq_true, if_false]
   ·rw [← t1]; simp only [lgOf, sj, e4, Bool.false_and, Bool.false_eq_true, if_false]
  ·obtain ⟨d1, d2, d3, hk⟩ := indepC_spec hind
   rcases hk with ⟨sb, so, ld, hno⟩ | ⟨ld, sb, so, hno⟩
   ·have sl := load_solo ld
    have hkp : keepsAt (some (st.hp, st1.hp)) (tch oi st1.tm) = true := by
     rw [← t1, ← t2] at hap
     simp only [lgOf, sb, sl, if_true, Bool.false_and, Bool.false_eq_true, if_false] at hap
     simpa [apartL, hno, apart, keepsAt] using hap
    obtain ⟨x, hx, hp⟩ := keepsAt_spec hkp
    obtain ⟨vj, Hj, nj, rfl, rj⟩ := call_step so h1
    obtain ⟨vi, rfl, ri⟩ := load_step ld hx h2
    have hr1 : ∀ t ∈ areads oi, (put ⟨st.tm, Hj, nj⟩ oj.dst vj).tm.getD t .junk = st.tm.getD t .junk := fun t ht => put_getD ⟨st.tm, Hj, nj⟩ _ _ _ (fun d hd e => d1 d hd (e ▸ ht))
    have hr2 : ∀ t ∈ areads oj, st.tm.getD t .junk = (put st oi.dst vi).tm.getD t .junk := fun t ht => (put_getD st _ _ _ (fun d hd e => d3 d hd (e ▸ ht))).symm
    have e1 := ri st hr1 hp
    have e2 := rj (put st oi.dst vi) hr2 (put_hp st oi.dst vi).1.symm (put_hp st oi.dst vi).2.symm
    have hcm : put ⟨(put st oi.dst vi).tm, Hj, nj⟩ oj.dst vj = put (put ⟨st.tm, Hj, nj⟩ oj.dst vj) oi.dst vi := by
     have := put_comm (tm := st.tm) (H := Hj) (nx := nj) (x := oi.dst) (y := oj.dst) (v := vi) (u := vj) (fun d hd e => d2 d e hd)
     rw [← this, put_put ⟨st.tm, Hj, nj⟩ oi.dst vi, put_tm st.tm Hj st.hp nj st.nx]
    rw [hcm] at e2
    have p1 := put_hp ⟨st.tm, Hj, nj⟩ oj.dst vj
    have p2 := put_hp (put ⟨st.tm, Hj, nj⟩ oj.dst vj) oi.dst vi
    have p3 := put_hp st oi.dst vi
    refine ⟨_, stepT_of e1 (.inr ?_), stepT_of e2 (.inr ?_)⟩
    ·rw [← t2]
     simp only [lgOf, sl, Bool.false_and, Bool.false_eq_true, if_false]
     rw [tch_congr hr1]
    ·rw [← t1]
     simp only [lgOf, sb, if_true, hno, p2.1, p3.1]
   ·have sl := load_solo ld
    have hkp : keepsAt (some (st1.hp, st2.hp)) (tch oj st.tm) = true := by
     rw [← t1, ← t2] at hap
     have hn : apart (tch oj st.tm) none = false := by
      cases hq : apart (tch oj st.tm) none with
      | false => rfl
      | true => exact absurd rfl (apart_some hq).2
     simp only [lgOf, sb, sl, if_true, Bool.false_and, Bool.false_eq_true, if_false] at hap
     simpa [apartL, hno, hn, keepsAt] using hap
    obtain ⟨x, hx, hp⟩ := keepsAt_spec hkp
    obtain ⟨vj, rfl, rj⟩ := load_step ld hx h1
    obtain ⟨vi, Hi, ni, rfl, ri⟩ := call_step so h2
    have p1 := put_hp st oj.dst vj
    have p2 := put_hp ⟨(put st oj.dst vj).tm, Hi, ni⟩ oi.dst vi
    have hr1 : ∀ t ∈ areads oi, (put st oj.dst vj).tm.getD t .junk = st.tm.getD t .junk := fun t ht => put_getD st _ _ _ (fun d hd e => d1 d hd (e ▸ ht))
    have e1 := ri st hr1 p1.1 p1.2
    have hr2 : ∀ t ∈ areads oj, st.tm.getD t .junk = (put ⟨st.tm, Hi, ni⟩ oi.dst vi).tm.getD t .junk := fun t ht => (put_getD ⟨st.tm, Hi, ni⟩ _ _ _ (fun d hd e => d3 d hd (e ▸ ht))).symm
    have p3 := put_hp ⟨st.tm, Hi, ni⟩ oi.dst vi
    have e2 := rj (put ⟨st.tm, Hi, ni⟩ oi.dst vi) hr2 (fun p h => by rw [p3.1]; have := hp p h; rw [p1.1, p2.1] at this; exact this.symm)
    have hcm : put (put ⟨st.tm, Hi, ni⟩ oi.dst vi) oj.dst vj = put ⟨(put st oj.dst vj).tm, Hi, ni⟩ oi.dst vi := by
     have := put_comm (tm := st.tm) (H := Hi) (nx := ni) (x := oi.dst) (y := oj.dst) (v := vi) (u := vj) (fun d hd e => d2 d e hd)
     rw [this, put_put ⟨st.tm, Hi, ni⟩ oj.dst vj, put_tm st.tm Hi st.hp ni st.nx]
    rw [hcm] at e2
    refine ⟨_, stepT_of e1 (.inr ?_), stepT_of e2 (.inr ?_)⟩
    ·rw [← t2]
     simp only [lgOf, sb, if_true, hno, p2.1, p3.1, p1.1]
    ·rw [← t1]
     simp only [lgOf, sl, Bool.false_and, Bool.false_eq_true, if_false]
     rw [tch_congr fun t ht => (hr2 t ht).symm]
noncomputable def runIx (P : Program) (pol : Pol) (cl : CallF) (T : Nat → Lg) (al : List AOp) (base : Nat) : List Nat → St → Option St
 | [], st => some st
 | i :: r, st => match al[i]? with | some o => (stepT P pol cl T base i o st).bind (runIx P pol cl T al base r) | none => none
theorem runIx_of {pol : Pol} {cl : CallF} {al : List AOp} {base : Nat} : ∀ (n k : Nat), k + n = al.length → ∀ st, runOpsS P pol cl (base + k) (al.drop k) st = runIx P pol cl (fun _ => (none, none)) al base (List.range' k n) st := by
 intro n
 induction n with
 | zero =>
  intro k hk st
  rw [List.drop_of_length_le (by omega)]
  rfl
 | succ n ih =>
  intro k hk st
  have hl : k < al.length := by omega
  rw [List.drop_eq_getElem_cons hl]
  simp only [runOpsS, List.range'_succ, runIx, List.getElem?_eq_getElem hl, stepT, true_or, if_true]
  have hb : (stepGS P pol cl (base + k) al[k] st).bind (fun st' => some st') = stepGS P pol cl (base + k) al[k] st := by cases stepGS P pol cl (base + k) al[k] st <;> rfl
  rw [hb]
  congr 1
  funext st1
  exact ih (k + 1) (by omega) st1
theorem comp_at {ops : Array Oper} : ∀ {l : List Oper} {al : List AOp} {bs : List Bool}, compOps ops bs l = some al → ∀ (i : Nat) (o : Oper), l[i]? = some o → ∃ ao b, al[i]? = some ao ∧ compOp b ops o = some ao := by
 intro l
 induction l with
 | nil => intro al bs h i o ho; simp at ho
 | cons x l ih =>
  intro al bs h i o ho
  simp only [compOps, Option.bind_eq_bind, Option.bind_eq_some_iff] at h
  obtain ⟨ao, hao, al', hal', h⟩ := h
  cases h
  cases i with
  | zero => simp at ho; subst ho; exact ⟨ao, _, rfl, hao⟩
  | succ i => simpa using ih hal' i o (by simpa using ho)
theorem front {pol : Pol} {cl : CallF} (hcl : SimC P cl) {ops : Array Oper} {al : List AOp} {bs : List Bool} (hal : compOps ops bs ops.toList = some al) {T : Nat → Lg} {base i : Nat} {oi : AOp} (hoi : al[i]? = some oi) {l2 : List Nat} {st' : St} : ∀ (l1 : List Nat) (C : Cx) (st : St) (a : Act), StOk B C st a →
  (∀ k ∈ l1 ++ [i], k < ops.size ∧ (∀ q, ¬ C.U (base + k, q)) ∧ base + k < st.nx) → (l1 ++ [i]).Nodup → (∀ j ∈ l1, ∀ oj, al[j]? = some oj → indT T j i oj oi) → runIx P pol cl T al base (l1 ++ i :: l2) st = some st' →
  ∃ sti, stepT P pol cl T base i oi st = some sti ∧ runIx P pol cl T al base (l1 ++ l2) sti = some st' := by
 intro l1
 induction l1 with
 | nil =>
  intro C st a hs hp hnd hi h
  simp only [List.nil_append, runIx, hoi, Option.bind_eq_some_iff] at h
  exact h
 | cons j l1 ih =>
  intro C st a hs hp hnd hi h
  obtain ⟨hjn, hjU, hjx⟩ := hp j (by simp)
  obtain ⟨oj, _, hoj, hcj⟩ := comp_at hal j ops[j] (by simp [hjn])
  simp only [List.cons_append, runIx, hoj, Option.bind_eq_some_iff] at h ⊢
  obtain ⟨st1, h1, h2⟩ := h
  have hoj2 : ops[j]? = some ops[j] := by simp [hjn]
  obtain ⟨a1, w1, C1, hw1, hs1, hu1, hn1⟩ := wpOp_exists (wpOp_sim (B := B) (q := none) (n := 0) (Q := fun _ _ _ => False) (K := fun a' w' => ∃ C1 : Cx, C1.w = w' ∧ StOk B C1 st1 a' ∧ (∀ p, C1.U p → C.U p ∨ p.1 = base + j ∨ st.nx ≤ p.1) ∧ st.nx ≤ st1.nx) hcl hs hjU hjx hoj2 hcj (stepT_some h1).1
   (fun C' a' hs' he' hn' hu' => ⟨C', rfl, hs', hu', hn'⟩))
  have hne : ∀ k ∈ l1 ++ [i], k ≠ j := fun k hk e => by
   have := List.nodup_cons.1 (by simpa using hnd : (j :: (l1 ++ [i])).Nodup)
   exact this.1 (e ▸ hk)
  obtain ⟨st1i, hst1i, hrun⟩ := ih C1 st1 a1 hs1 (fun k hk => by
   obtain ⟨q1, q2, q3⟩ := hp k (by simp only [List.cons_append, List.mem_cons]; exact .inr hk)
   refine ⟨q1, fun q hq => ?_, by omega⟩
   rcases hu1 _ hq with z | z | z
   ·exact q2 q z
   ·have := hne k hk; simp at z; omega
   ·simp at z; omega) (List.nodup_cons.1 (by simpa using hnd : (j :: (l1 ++ [i])).Nodup)).2 (fun k hk ok hok => hi k (by simp [hk]) ok hok) h2
  obtain ⟨q1, q2, q3⟩ := hp i (by simp)
  obtain ⟨sti, hsti, hst1i'⟩ := swapT hs hjU q2 (by have := hne i (by simp); omega) (hi j (by simp) oj hoj) h1 hst1i
  exact ⟨sti, hsti, st1i, hst1i', hrun⟩
def rem (n : Nat) (listed : Array Bool) : List Nat := (List.range n).filter fun i => !listed.getD i true
theorem mem_rem {n : Nat} {listed : Array Bool} {i : Nat} : i ∈ rem n listed ↔ i < n ∧ listed.getD i true = false := by
 unfold rem
 rw [List.mem_filter, List.mem_range]
 simp
theorem rem_set {n : Nat} {listed : Array Bool} (hn : listed.size = n) (i : Nat) : rem n (listed.setIfInBounds i true) = (rem n listed).filter (fun k => k ≠ i) := by
 unfold rem
 rw [List.filter_filter]
 apply List.filter_congr
 intro k hk
 rw [List.mem_range] at hk
 by_cases e : i = k
 ·subst e
  have hk2 : i < listed.size := by omega
  simp [hk2]
 ·rw [getD_set_ne true e]
  have : k ≠ i := fun h => e h.symm
  simp [this]
theorem rem_nodup (n : Nat) (listed : Array Bool) : (rem n listed).Nodup := List.Pairwise.filter _ List.nodup_range
theorem rem_sorted (n : Nat) (listed : Array Bool) : (rem n listed).Pairwise (· < ·) := List.Pairwise.filter _ List.pairwise_lt_range
def Spec (ops : Array Oper) (al : List AOp) (bs : List Bool) (T : Nat → Lg) : Prop :=
 ∀ i, i < ops.size → ∃ o ao b0, ops[i]? = some o ∧ al[i]? = some ao ∧ compOp b0 ops o = some ao ∧ (∀ k ∈ binding o, k < i) ∧ ∀ j, j < i → (((Region.before ops).getD i 0).testBit j = true → ∃ k ∈ binding o, k = j ∨ (j < k ∧ ((Region.before ops).getD k 0).testBit j = true)) ∧ (((Region.before ops).getD i 0).testBit j = false → ∃ aj, al[j]? = some aj ∧ indT T j i aj ao)
theorem spec_ok {ops : Array Oper} {al : List AOp} {bs : List Bool} (hal : compOps ops bs ops.toList = some al) (hok : drawOk ops al = true) (T : Nat → Lg) : Spec ops al bs T := by
 intro i hi
 obtain ⟨ao, b0, hao, hc⟩ := comp_at hal i ops[i] (by simp [hi])
 have ho : ops[i]? = some ops[i] := by simp [hi]
 unfold drawOk at hok
 have := List.all_eq_true.1 hok i (List.mem_range.2 hi)
 simp only [ho, hao, Bool.and_eq_true] at this
 obtain ⟨t1, t2⟩ := this
 refine ⟨ops[i], ao, b0, ho, hao, hc, fun k hk => by simpa using List.all_eq_true.1 t1 k hk, fun j hj => ?_⟩
 have t3 := List.all_eq_true.1 t2 j (List.mem_range.2 hj)
 refine ⟨fun hb => ?_, fun hb => ?_⟩
 ·rw [if_pos hb] at t3
  obtain ⟨k, hk, hq⟩ := List.any_eq_true.1 t3
  refine ⟨k, hk, ?_⟩
  simp only [Bool.or_eq_true, beq_iff_eq, Bool.and_eq_true, decide_eq_true_eq] at hq
  exact hq
 ·rw [if_neg (by intro h; rw [hb] at h; cases h)] at t3
  split at t3
  ·rename_i aj haj; exact ⟨aj, haj, .inl t3⟩
  ·cases t3
theorem spec_pairs {ops : Array Oper} {al : List AOp} {bs : List Bool} (hal : compOps ops bs ops.toList = some al) {prs : List (Nat × Nat)} (hok : drawPairs ops al = some prs) {T : Nat → Lg} (hT : ∀ p ∈ prs, apartL (T p.1) (T p.2) = true) : Spec ops al bs T := by
 intro i hi
 obtain ⟨ao, b0, hao, hc⟩ := comp_at hal i ops[i] (by simp [hi])
 have ho : ops[i]? = some ops[i] := by simp [hi]
 unfold drawPairs at hok
 simp only at hok
 split at hok
 case isFalse => cases hok
 rename_i hall
 have := List.all_eq_true.1 hall i (List.mem_range.2 hi)
 simp only [ho, hao, Bool.and_eq_true] at this
 obtain ⟨t1, t2⟩ := this
 refine ⟨ops[i], ao, b0, ho, hao, hc, fun k hk => by simpa using List.all_eq_true.1 t1 k hk, fun j hj => ?_⟩
 have t3 := List.all_eq_true.1 t2 j (List.mem_range.2 hj)
 refine ⟨fun hb => ?_, fun hb => ?_⟩
 ·rw [if_pos hb] at t3
  obtain ⟨k, hk, hq⟩ := List.any_eq_true.1 t3
  refine ⟨k, hk, ?_⟩
  simp only [Bool.or_eq_true, beq_iff_eq, Bool.and_eq_true, decide_eq_true_eq] at hq
  exact hq
 ·rw [if_neg (by intro h; rw [hb] at h; cases h)] at t3
  split at t3
  ·rename_i aj haj; 
   refine ⟨aj, haj, ?_⟩
   simp only [Bool.or_eq_true, Bool.and_eq_true] at t3
   rcases t3 with t3 | ⟨t3, t4⟩
   ·exact .inl t3
   ·refine .inr ⟨t3, ?_⟩
    have e := Option.some.inj hok
    rw [e] at t4
    exact hT (j, i) (List.contains_iff_mem.1 t4)
  ·cases t3
theorem wpAny_sim {q : Option Nat} {n : Nat} {pol : Pol} {cl : CallF} (hcl : SimC P cl) {ops : Array Oper} {al : List AOp} {bs : List Bool} (hal : compOps ops bs ops.toList = some al) {T : Nat → Lg} (hspec : Spec ops al bs T) {Q : Exit → Act → World → Prop} {base : Nat} : ∀ (fuel : Nat) (listed : Array Bool) (C : Cx) (st st' : St) (a : Act),
  listed.size = ops.size → (∀ i j, j < i → i < ops.size → listed.getD i false = true → ((Region.before ops).getD i 0).testBit j = true → listed.getD j false = true) → (rem ops.size listed).length ≤ fuel → StOk B C st a →
  (∀ k ∈ rem ops.size listed, (∀ q, ¬ C.U (base + k, q)) ∧ base + k < st.nx) → runIx P pol cl T al base (rem ops.size listed) st = some st' →
  (∀ C' a', StOk B C' st' a' → Ext C C' → st.nx ≤ st'.nx → (∀ p, C'.U p → C.U p ∨ (∃ k ∈ rem ops.size listed, p.1 = base + k) ∨ st.nx ≤ p.1) → Q .normal a' C'.w) → wpAnyIn (frn q) n P .any ops Q fuel listed a C.w := by
 have hready : ∀ (listed : Array Bool) (i : Nat), i ∈ Region.ready .any ops listed → i < ops.size ∧ listed.getD i true = false ∧ ∀ o, ops[i]? = some o → ∀ k ∈ binding o, listed.getD k false = true := by
  intro listed i hi
  obtain ⟨h0, o, ho, hall⟩ := mem_ready.1 hi
  refine ⟨(Array.getElem?_eq_some_iff.1 ho).1, h0, fun o' ho' k hk => ?_⟩
  rw [ho] at ho'
  cases ho'
  unfold binding at hk
  obtain ⟨e, he, rfl⟩ := List.mem_map.1 hk
  obtain ⟨he1, he2⟩ := List.mem_filter.1 he
  exact hall e (by simpa using he1) he2
 intro fuel
 induction fuel with
 | zero =>
  intro listed C st st' a hsz hcl' hlen hs hp hrun hq
  have hr0 : rem ops.size listed = [] := List.eq_nil_of_length_eq_zero (by omega)
  unfold wpAnyIn
  refine ⟨?_, ?_⟩
  ·apply List.eq_nil_iff_forall_not_mem.2
   intro i hi
   obtain ⟨q1, q2, _⟩ := hready listed i hi
   have : i ∈ rem ops.size listed := mem_rem.2 ⟨q1, q2⟩
   rw [hr0] at this
   simp at this
  ·rw [hr0] at hrun
   cases hrun
   exact hq C a hs (.refl hs.inv) (Nat.le_refl _) (fun p hp => .inl hp)
 | succ fuel ih =>
  intro listed C st st' a hsz hcl' hlen hs hp hrun hq
  unfold wpAnyIn
  refine ⟨fun hr => ?_, fun i hi => ?_⟩
  ·-- nothing is ready: nothing is left
   have hr0 : rem ops.size listed = [] := by
    cases hrem : rem ops.size listed with
    | nil => rfl
    | cons m r =>
     exfalso
     have hm : m ∈ rem ops.size listed := by rw [hrem]; simp
     obtain ⟨m1, m2⟩ := mem_rem.1 hm
     obtain ⟨o, ao, _, ho, hao, hc, hbind, _⟩ := hspec m m1
     have : m ∈ Region.ready .any ops listed := by
      refine mem_ready.2 ⟨m2, o, ho, fun e he hb => ?_⟩
      have hlt : e.on < m := hbind e.on (List.mem_map.2 ⟨e, List.mem_filter.2 ⟨by simpa using he, hb⟩, rfl⟩)
      have hsm : e.on < listed.size := by omega
      cases hq2 : listed.getD e.on false with
      | true => rfl
      | false =>
       exfalso
       have h3 : listed.getD e.on true = false := by
        rw [Array.getD_eq_getD_getElem?, Array.getElem?_eq_getElem hsm] at hq2 ⊢
        exact hq2
       have hmem : e.on ∈ rem ops.size listed := mem_rem.2 ⟨by omega, h3⟩
       have hsort := rem_sorted ops.size listed
       rw [hrem] at hsort hmem
       rcases List.mem_cons.1 hmem with q | q
       ·omega
       ·have := List.rel_of_pairwise_cons hsort q; omega
     rw [hr] at this
     simp at this
   rw [hr0] at hrun
   cases hrun
   exact hq C a hs (.refl hs.inv) (Nat.le_refl _) (fun p hp => .inl hp)
  ·obtain ⟨i1, i2, i3⟩ := hready listed i hi
   obtain ⟨o, ao, _, ho, hao, hc, hbind, hj⟩ := hspec i i1
   have himem : i ∈ rem ops.size listed := mem_rem.2 ⟨i1, i2⟩
   obtain ⟨l1, l2, hl⟩ := List.append_of_mem himem
   have hnd := rem_nodup ops.size listed
   have hso := rem_sorted ops.size listed
   rw [hl] at hnd hso
   have hl1lt : ∀ j ∈ l1, j < i := fun j hj => (List.pairwise_append.1 hso).2.2 j hj i (by simp)
   have hpre : ∀ j, j < i → ((Region.before ops).getD i 0).testBit j = true → listed.getD j false = true := by
    intro j hji hb
    obtain ⟨k, hk, hq2⟩ := (hj j hji).1 hb
    have hkl := i3 o ho k hk
    rcases hq2 with rfl | ⟨hjk, hb2⟩
    ·exact hkl
    ·exact hcl' k j hjk (by have := hbind k hk; omega) hkl hb2
   have hind : ∀ j ∈ l1, ∀ oj, al[j]? = some oj → indT T j i oj ao := by
    intro j hj1 oj hoj
    have hjm : j ∈ rem ops.size listed := by rw [hl]; simp [hj1]
    obtain ⟨j1, j2⟩ := mem_rem.1 hjm
    have hji := hl1lt j hj1
    cases hb : ((Region.before ops).getD i 0).testBit j with
    | true =>
     have := hpre j hji hb
     have hsm : j < listed.size := by omega
     rw [Array.getD_eq_getD_getElem?, Array.getElem?_eq_getElem hsm] at this j2
     simp at this j2
     rw [this] at j2
     cases j2
    | false =>
     obtain ⟨aj, haj, h3⟩ := (hj j hji).2 hb
     rw [hoj] at haj
     cases haj
     exact h3
   rw [hl] at hrun hp
   have hsplit : l1 ++ i :: l2 = (l1 ++ [i]) ++ l2 := by simp
   obtain ⟨sti, hsti, hrun2⟩ := front hcl hal hao l1 C st a hs (fun k hk => by
    have hk2 : k ∈ l1 ++ i :: l2 := by rw [hsplit]; exact List.mem_append_left _ hk
    refine ⟨(mem_rem.1 (by rw [hl]; exact hk2)).1, (hp k hk2).1, (hp k hk2).2⟩) (by rw [hsplit] at hnd; exact (List.nodup_append.1 hnd).1) hind hrun
   have hpi := hp i (by simp)
   have hrem2 : rem ops.size (listed.setIfInBounds i true) = l1 ++ l2 := by
    rw [rem_set hsz, hl, List.filter_append, List.filter_cons]
    have hi1 : i ∉ l1 := fun h => by have := (List.nodup_append.1 hnd).2.2 i h i (by simp); exact this rfl
    have hi2 : i ∉ l2 := by
     have := (List.nodup_append.1 hnd).2.1
     exact (List.nodup_cons.1 this).1
    rw [List.filter_eq_self.2 (fun k hk => by simp only [ne_eq, decide_eq_true_eq]; intro e; exact hi1 (e ▸ hk)), List.filter_eq_self.2 (fun k hk => by simp only [ne_eq, decide_eq_true_eq]; intro e; exact hi2 (e ▸ hk))]
    simp
   refine wpOp_sim hcl hs hpi.1 hpi.2 ho hc (stepT_some hsti).1 fun C1 a1 hs1 he1 hn1 hu1 => ?_
   refine ih (listed.setIfInBounds i true) C1 sti st' a1 (by simp [hsz]) ?_ ?_ hs1 ?_ (by rw [hrem2]; exact hrun2) ?_
   ·intro i' j' hj' hi' hli hb
    by_cases e : i = i'
    ·subst e
     exact getD_set_true (hpre j' hj' hb)
    ·rw [getD_set_ne false e] at hli
     exact getD_set_true (hcl' i' j' hj' hi' hli hb)
   ·rw [hrem2]
    have : (l1 ++ i :: l2).length = (l1 ++ l2).length + 1 := by simp; omega
    rw [hl, this] at hlen
    omega
   ·intro k hk
    rw [hrem2] at hk
    have hk2 : k ∈ l1 ++ i :: l2 := by
     rcases List.mem_append.1 hk with h | h
     ·exact List.mem_append_left _ h
     ·exact List.mem_append_right _ (List.mem_cons_of_mem _ h)
    have hki : k ≠ i := by
     rintro rfl
     have := rem_set hsz k
     rw [hrem2] at this
     rw [this] at hk
     simp at hk
    refine ⟨fun q hq2 => ?_, by have := (hp k hk2).2; omega⟩
    rcases hu1 _ hq2 with z | z | z
    ·exact (hp k hk2).1 q z
    ·simp at z; omega
    ·have := (hp k hk2).2; simp at z; omega
   ·intro C' a' hs' he' hn' hu'
    refine hq C' a' hs' (he1.trans he') (Nat.le_trans hn1 hn') fun p hp2 => ?_
    rcases hu' p hp2 with z | ⟨k, hk, z⟩ | z
    ·rcases hu1 p z with y | y | y
     ·exact .inl y
     ·exact .inr (.inl ⟨i, himem, y⟩)
     ·exact .inr (.inr y)
    ·rw [hrem2] at hk
     refine .inr (.inl ⟨k, ?_, z⟩)
     rw [hl]
     rcases List.mem_append.1 hk with h | h
     ·exact List.mem_append_left _ h
     ·exact List.mem_append_right _ (List.mem_cons_of_mem _ h)
    ·exact .inr (.inr (Nat.le_trans hn1 z))
theorem dregion_sim (hm : P.follows .mixedOrders = true) {q : Option Nat} {n : Nat} {pol : Pol} {cl : CallF} (hcl : SimC P cl) {ops : Array Oper} {al : List AOp} {bs : List Bool} {Q : Exit → Act → World → Prop} {C : Cx} {st st' : St} {a : Act} {rid : Nat} (hal : compOps ops bs ops.toList = some al) (hok : drawOk ops al = true) (hs : StOk B C st a)
  (h : runOpsS P pol cl st.nx al ⟨st.tm, st.hp, st.nx + al.length⟩ = some st') (hq : ∀ C' a', Post B C st C' st' a' → Q .normal a' C'.w) : (Code.region rid ops true).wpIn (frn q) n P Q a C.w := by
 obtain ⟨hI0, hE0⟩ := grow_world hs.inv (Grew.drew C.w)
 have hlen : al.length = ops.size := by rw [compOps_length hal]; simp
 refine wpIn_region_any hm ?_
 have hs0 : StOk B ⟨C.ρ, C.F, C.H, C.U, C.w.drew⟩ ⟨st.tm, st.hp, st.nx + al.length⟩ a := ⟨hs.H, hI0, fun o ho => Nat.lt_of_lt_of_le (hs.lt o ho) (Nat.le_add_right _ _), hs.tm.ext hs.inv hE0, hs.df.ext hE0⟩
 have hrem : rem ops.size (Array.replicate ops.size false) = List.range' 0 al.length := by
  unfold rem
  rw [← List.range_eq_range', hlen, List.filter_eq_self]
  intro k hk
  rw [List.mem_range] at hk
  simp [hk]
 have hrun := runIx_of (P := P) (pol := pol) (cl := cl) (al := al) (base := st.nx) al.length 0 (by simp) ⟨st.tm, st.hp, st.nx + al.length⟩
 rw [List.drop_zero, Nat.add_zero, h] at hrun
 refine wpAny_sim hcl hal (spec_ok hal hok (fun _ => (none, none))) (base := st.nx) ops.size (Array.replicate ops.size false) ⟨C.ρ, C.F, C.H, C.U, C.w.drew⟩ ⟨st.tm, st.hp, st.nx + al.length⟩ st' a (by simp) (fun i j hj hi hl => ?_) (by rw [hrem]; simp [hlen]) hs0 (fun k hk => ?_) (by rw [hrem]; exact hrun.symm) (fun C' a' hs' he' hn' hu' => ?_)
 ·simp [hi] at hl
 ·rw [hrem] at hk
  have hk2 : k < al.length := by simpa using hk
  exact ⟨fun q hu => by have := hs.lt _ hu; simp at this; omega, by show st.nx + k < st.nx + al.length; omega⟩
 ·refine hq C' a' ⟨hs', hE0.trans he', Nat.le_trans (Nat.le_add_right _ _) hn', fun p hp => ?_⟩
  rcases hu' p hp with q | ⟨k, _, q⟩ | q
  ·exact .inl q
  ·exact .inr (by omega)
  ·exact .inr (Nat.le_trans (Nat.le_add_right _ _) q)
theorem runIx_log {pol : Pol} {cl : CallF} {al : List AOp} {base : Nat} : ∀ (n k : Nat), k + n = al.length → ∀ (st st' : St) (l0 lg : List Lg), l0.length = k → runOpsL P pol cl (base + k) (al.drop k) st l0 = some (st', lg) → (∃ l1, lg = l0 ++ l1) ∧ runIx P pol cl (fun i => lg.getD i (none, none)) al base (List.range' k n) st = some st' := by
 intro n
 induction n with
 | zero =>
  intro k hk st st' l0 lg hl h
  rw [List.drop_of_length_le (by omega)] at h
  cases h
  exact ⟨⟨[], by simp⟩, rfl⟩
 | succ n ih =>
  intro k hk st st' l0 lg hl h
  have hlt : k < al.length := by omega
  rw [List.drop_eq_getElem_cons hlt] at h
  simp only [runOpsL, Option.bind_eq_some_iff] at h
  obtain ⟨st1, h1, h2⟩ := h
  obtain ⟨⟨l1, rfl⟩, h3⟩ := ih (k + 1) (by omega) st1 st' (l0 ++ [lgOf al[k] st st1]) lg (by simp [hl]) h2
  refine ⟨⟨[lgOf al[k] st st1] ++ l1, by simp⟩, ?_⟩
  simp only [List.range'_succ, runIx, List.getElem?_eq_getElem hlt, Option.bind_eq_some_iff]
  refine ⟨st1, ?_, h3⟩
  have : lgOf al[k] st st1 = (l0 ++ [lgOf al[k] st st1] ++ l1).getD k (none, none) := by
   rw [List.getD_eq_getElem?_getD, List.append_assoc, List.getElem?_append_right (by omega)]
   simp [hl]
  exact stepT_of h1 (.inr this)
theorem tregion_sim (hm : P.follows .mixedOrders = true) {q : Option Nat} {n : Nat} {pol : Pol} {cl : CallF} (hcl : SimC P cl) {ops : Array Oper} {al : List AOp} {bs : List Bool} {Q : Exit → Act → World → Prop} {C : Cx} {st st' : St} {a : Act} {rid : Nat} (hal : compOps ops bs ops.toList = some al) {prs : List (Nat × Nat)} (hok : drawPairs ops al = some prs) {lg : List Lg} (hlg : pairsOk lg prs = true) (hs : StOk B C st a)
  (h : runOpsL P pol cl st.nx al ⟨st.tm, st.hp, st.nx + al.length⟩ [] = some (st', lg)) (hq : ∀ C' a', Post B C st C' st' a' → Q .normal a' C'.w) : (Code.region rid ops true).wpIn (frn q) n P Q a C.w := by
 obtain ⟨hI0, hE0⟩ := grow_world hs.inv (Grew.drew C.w)
 have hlen : al.length = ops.size := by rw [compOps_length hal]; simp
 refine wpIn_region_any hm ?_
 have hs0 : StOk B ⟨C.ρ, C.F, C.H, C.U, C.w.drew⟩ ⟨st.tm, st.hp, st.nx + al.length⟩ a := ⟨hs.H, hI0, fun o ho => Nat.lt_of_lt_of_le (hs.lt o ho) (Nat.le_add_right _ _), hs.tm.ext hs.inv hE0, hs.df.ext hE0⟩
 have hrem : rem ops.size (Array.replicate ops.size false) = List.range' 0 al.length := by
  unfold rem
  rw [← List.range_eq_range', hlen, List.filter_eq_self]
  intro k hk
  rw [List.mem_range] at hk
  simp [hk]
 have hrun := (runIx_log (P := P) (pol := pol) (cl := cl) (al := al) (base := st.nx) al.length 0 (by simp) ⟨st.tm, st.hp, st.nx + al.length⟩ st' [] lg rfl (by rw [List.drop_zero, Nat.add_zero]; exact h)).2
 refine wpAny_sim hcl hal (spec_pairs hal hok (T := fun i => lg.getD i (none, none)) (fun p hp => List.all_eq_true.1 hlg p hp)) (base := st.nx) ops.size (Array.replicate ops.size false) ⟨C.ρ, C.F, C.H, C.U, C.w.drew⟩ ⟨st.tm, st.hp, st.nx + al.length⟩ st' a (by simp) (fun i j hj hi hl => ?_) (by rw [hrem]; simp [hlen]) hs0 (fun k hk => ?_) (by rw [hrem]; exact hrun) (fun C' a' hs' he' hn' hu' => ?_)
 ·simp [hi] at hl
 ·rw [hrem] at hk
  have hk2 : k < al.length := by simpa using hk
  exact ⟨fun q hu => by have := hs.lt _ hu; simp at this; omega, by show st.nx + k < st.nx + al.length; omega⟩
 ·refine hq C' a' ⟨hs', hE0.trans he', Nat.le_trans (Nat.le_add_right _ _) hn', fun p hp => ?_⟩
  rcases hu' p hp with q | ⟨k, _, q⟩ | q
  ·exact .inl q
  ·exact .inr (by omega)
  ·exact .inr (Nat.le_trans (Nat.le_add_right _ _) q)
end
end Go.Proofs.Ytiafeijkifpfaaa.Am


/-
  Joined texts: Am3. No condition.
-/
import Derived.Test.YtiafeijkifpfaaaAmPaa
import Derived.Laws.Entries
/-
 The abstract machine: how its values stand for the machine's, and how that lasts while memory grows. No condition.
-/
namespace Go.Proofs.Ytiafeijkifpfaaa.Am
open Go
inductive RepD (F : Nat → Prop) (w : World) : D → Value → Prop where
 | int (k : IntKind) (n : Int) : RepD F w (.int k n) (.int k n)
 | bool (b : Bool) : RepD F w (.bool b) (.bool b)
 | str (s : ByteArray) : RepD F w (.str s) (.string s)
 | sl (cs : List D) (len cap : Nat) (full : Bool) (nl : Option Bool) (a : Option Addr) (vs : Nat → Value) (hl : len ≤ cap) (hf : full = true → cap = len) (h1 : ∀ j, j < cs.length → (vs j).oneCell' = true)
   (hr : ∀ j x, cs[j]? = some x → RepD F w x (vs j))
   (hc : cs ≠ [] → ∃ ad, a = some ad ∧ F ad.block ∧ ∀ j, j < cs.length → w.cell? (ad.add j) = some (vs j)) (hnl : ∀ b, nl = some b → a.isNone = b) : RepD F w (.sl cs len full nl) (.slice a len cap)
 | dptr (cs : List D) (ad : Addr) (vs : Nat → Value) (h1 : ∀ j, j < cs.length → (vs j).oneCell' = true) (hr : ∀ j x, cs[j]? = some x → RepD F w x (vs j)) (hF : F ad.block)
   (hc : ∀ j, j < cs.length → w.cell? (ad.add j) = some (vs j)) : RepD F w (.dptr cs) (.pointer (some ad))
 | nilptr : RepD F w .nilptr (.pointer none)
 | nilmap : RepD F w .nilmap (.map none)
 | nilfn : RepD F w .nilfn .nilFunc
 | fn (f : FuncId) (hlt : f < yieldF) (cs : List D) (arr : Array Value) (hn : arr.size = cs.length) (hr : ∀ j x, cs[j]? = some x → RepD F w x (arr.getD j undef)) : RepD F w (.fn f cs) (.func (.func f) #[] arr)
 | bnd (g f : FuncId) (hlt : f < yieldF) (hg : g = f + (yieldF + 1)) (cs : List D) (arr : Array Value) (hn : arr.size = cs.length) (hr : ∀ j x, cs[j]? = some x → RepD F w x (arr.getD j undef)) : RepD F w (.fn g cs) (.func (.func f) arr #[])
 | agg (cs : List D) (arr : Array Value) (hn : arr.size = cs.length) (h1 : ∀ j, j < arr.size → (arr.getD j undef).oneCell' = true) (hr : ∀ j x, cs[j]? = some x → RepD F w x (arr.getD j undef)) : RepD F w (.agg cs) (.agg arr)
 | tup (cs : List D) (arr : Array Value) (hn : arr.size = cs.length) (hr : ∀ j x, cs[j]? = some x → RepD F w x (arr.getD j undef)) : RepD F w (.tup cs) (.tuple arr)
theorem RepD.unfull {F : Nat → Prop} {w : World} {x : D} {v : Value} (h : RepD F w x v) : RepD F w (Am.unfull x) v := by
 cases h with
 | sl cs len cap full nl a vs hl hf h1 hr hc hnl => exact .sl cs len cap false nl a vs hl (fun h => by cases h) h1 hr hc hnl
 | _ => simp only [Am.unfull]; constructor <;> assumption
theorem wkL_get : ∀ (cs : List D) (j : Nat) (x : D), (wkL cs)[j]? = some x → ∃ y, cs[j]? = some y ∧ x = wk y
 | [], j, x, h => by simp [wkL] at h
 | y :: r, 0, x, h => by simp [wkL] at h; exact ⟨y, rfl, h.symm⟩
 | y :: r, j + 1, x, h => by simp [wkL] at h; exact wkL_get r j x h
theorem wkL_len : ∀ (cs : List D), (wkL cs).length = cs.length
 | [] => rfl
 | x :: r => by simp [wkL, wkL_len r]
theorem RepD.wk {F : Nat → Prop} {w : World} {x : D} {v : Value} (h : RepD F w x v) : RepD F w (Am.wk x) v := by
 induction h with
 | sl cs len cap full nl a vs hl hf h1 hr hc hnl ih =>
  simp only [Am.wk]
  refine .sl (wkL cs) len cap false none a vs hl (fun h => by cases h) (fun j hj => h1 j (by rwa [wkL_len] at hj)) (fun j x hx => ?_) (fun hne => ?_) (fun b h => by cases h)
  ·obtain ⟨y, hy, rfl⟩ := wkL_get cs j x hx
   exact ih j y hy
  ·obtain ⟨ad, h2, h3, h4⟩ := hc (fun e => hne (by rw [e]; rfl))
   exact ⟨ad, h2, h3, fun j hj => h4 j (by rwa [wkL_len] at hj)⟩
 | dptr cs ad vs h1 hr hF hc ih =>
  simp only [Am.wk]
  refine .dptr (wkL cs) ad vs (fun j hj => h1 j (by rwa [wkL_len] at hj)) (fun j x hx => ?_) hF (fun j hj => hc j (by rwa [wkL_len] at hj))
  obtain ⟨y, hy, rfl⟩ := wkL_get cs j x hx
  exact ih j y hy
 | agg cs arr hn h1 hr ih =>
  simp only [Am.wk]
  refine .agg (wkL cs) arr (by rw [hn, wkL_len]) h1 (fun j x hx => ?_)
  obtain ⟨y, hy, rfl⟩ := wkL_get cs j x hx
  exact ih j y hy
 | tup cs arr hn hr ih =>
  simp only [Am.wk]
  refine .tup (wkL cs) arr (by rw [hn, wkL_len]) (fun j x hx => ?_)
  obtain ⟨y, hy, rfl⟩ := wkL_get cs j x hx
  exact ih j y hy
 | fn f hlt cs arr hn hr ih => exact .fn f hlt cs arr hn hr
 | bnd g f hlt hg cs arr hn hr ih => exact .bnd g f hlt hg cs arr hn hr
 | _ => simp only [Am.wk]; constructor
theorem RepD.wk1 {F : Nat → Prop} {w : World} {b : Bool} {x : D} {v : Value} (h : RepD F w x v) : RepD F w (Am.wk1 b x) v := by
 unfold Am.wk1
 split
 ·exact h.wk
 ·exact h
theorem wkIf_len (b : Bool) (ds : List D) : (wkIf b ds).length = ds.length := by unfold wkIf; split <;> simp [wkL_len]
theorem RepD.wkIf {F : Nat → Prop} {w : World} {b : Bool} {ds : List D} {f : Nat → Value} (h : ∀ j d, ds[j]? = some d → RepD F w d (f j)) : ∀ j d, (Am.wkIf b ds)[j]? = some d → RepD F w d (f j) := by
 intro j d hd
 unfold Am.wkIf at hd
 split at hd
 ·obtain ⟨y, hy, rfl⟩ := wkL_get ds j d hd
  exact (h j y hy).wk
 ·exact h j d hd
theorem cell_block {w : World} {a : Addr} {v : Value} (h : w.cell? a = some v) : ∃ c t fr, w.heap[a.block]? = some (.cells c t fr) ∧ a.spot = none ∧ c[a.off]? = some v := by
 unfold World.cell? at h
 split at h
 ·rename_i c t fr hb
  split at h
  ·cases h
  ·rename_i hs
   exact ⟨c, t, fr, hb, by cases ha : a.spot <;> simp_all, h⟩
 ·cases h
theorem add_block (a : Addr) (n : Nat) : (a.add n).block = a.block := by unfold Addr.add; split <;> rfl
theorem cell_keep {w w' : World} {a : Addr} {v : Value} (hb : w'.heap[a.block]? = w.heap[a.block]?) (h : w.cell? a = some v) : w'.cell? a = some v := by
 unfold World.cell? at h ⊢
 rw [hb]
 exact h
theorem lt_of_cell {w : World} {a : Addr} {v : Value} (h : w.cell? a = some v) : a.block < w.heap.size := by
 obtain ⟨c, t, fr, hb, _⟩ := cell_block h
 exact (Array.getElem?_eq_some_iff.1 hb).1
theorem RepD.keep {F F' : Nat → Prop} {w w' : World} (hF : ∀ b, F b → F' b) (hk : ∀ b, F b → b < w.heap.size → w'.heap[b]? = w.heap[b]?) {x : D} {v : Value} (h : RepD F w x v) : RepD F' w' x v := by
 induction h with
 | int k n => exact .int k n
 | bool b => exact .bool b
 | str s => exact .str s
 | sl cs len cap full nl a vs hl hf h1 hr hc hnl ih =>
  refine .sl cs len cap full nl a vs hl hf h1 ih (fun hne => ?_) hnl
  obtain ⟨ad, ha, hb, hcc⟩ := hc hne
  refine ⟨ad, ha, hF _ hb, fun j hj => ?_⟩
  have hx := hcc j hj
  exact cell_keep (by rw [add_block]; exact hk _ hb (by have := lt_of_cell hx; rwa [add_block] at this)) hx
 | dptr cs ad vs h1 hr hb hc ih =>
  refine .dptr cs ad vs h1 ih (hF _ hb) fun j hj => ?_
  have hx := hc j hj
  exact cell_keep (by rw [add_block]; exact hk _ hb (by have := lt_of_cell hx; rwa [add_block] at this)) hx
 | nilptr => exact .nilptr
 | nilmap => exact .nilmap
 | nilfn => exact .nilfn
 | fn f hlt cs arr hn hr ih => exact .fn f hlt cs arr hn ih
 | bnd g f hlt hg cs arr hn hr ih => exact .bnd g f hlt hg cs arr hn ih
 | agg cs arr hn h1 hr ih => exact .agg cs arr hn h1 ih
 | tup cs arr hn hr ih => exact .tup cs arr hn ih
structure Cx where
 ρ : Oid → Option (Nat × Nat)
 F : Nat → Prop
 H : Hp
 U : Oid → Prop
 w : World
def SlAt (r : Option (Nat × Nat)) (off sz : Nat) (A : Option Addr) (cap : Nat) : Prop :=
 match r with
 | none => cap = 0 ∧ A = none
 | some (b, S) => off + cap * sz = S ∧ (0 < cap → A = some ⟨b, off, none⟩) ∧ A.isSome = true
inductive Rep (C : Cx) : AV → Value → Prop where
 | d (x : D) (v : Value) (h : RepD C.F C.w x v) : Rep C (.d x) v
 | osl (o : Oid) (off len sz ver cap : Nat) (A : Option Addr) (hl : len ≤ cap) (hU : C.U o) (hv : ∀ x, C.H o = some x → ver ≤ x.cs.length)
   (h : ∀ x, C.H o = some x → x.cs.length = ver → SlAt (C.ρ o) off sz A cap) : Rep C (.osl o off len sz ver) (.slice A len cap)
 | vsl (o : Oid) (off len sz ver cap : Nat) (A : Option Addr) (hl : len ≤ cap) (hU : C.U o) (hv : ∀ x, C.H o = some x → ver ≤ x.cs.length)
   (h : ∀ x, C.H o = some x → x.cs.length = ver → ∃ b S, C.ρ o = some (b, S) ∧ A = some ⟨b, off, none⟩) : Rep C (.vsl o off len sz ver) (.slice A len cap)
 | ptr (o : Oid) (off ver : Nat) (a : Addr) (hU : C.U o) (hv : ∀ x, C.H o = some x → ver ≤ x.cs.length)
   (h : ∀ x, C.H o = some x → x.cs.length = ver → ∃ b S, C.ρ o = some (b, S) ∧ a = ⟨b, off, none⟩) : Rep C (.ptr o off ver) (.pointer (some a))
 | fn (f : FuncId) (hlt : f < yieldF) (cs : List AV) (arr : Array Value) (hn : arr.size = cs.length) (hr : ∀ j x, cs[j]? = some x → Rep C x (arr.getD j undef)) : Rep C (.fn f cs) (.func (.func f) #[] arr)
 | bnd (g f : FuncId) (hlt : f < yieldF) (hg : g = f + (yieldF + 1)) (cs : List AV) (arr : Array Value) (hn : arr.size = cs.length) (hr : ∀ j x, cs[j]? = some x → Rep C x (arr.getD j undef)) : Rep C (.fn g cs) (.func (.func f) arr #[])
 | map (o : Oid) (b : Nat) (hU : C.U o) (h : ∀ x, C.H o = some x → x.isRow = false ∧ ∃ S, C.ρ o = some (b, S)) : Rep C (.map o) (.map (some b))
 | agg (cs : List AV) (arr : Array Value) (hn : arr.size = cs.length) (h1 : ∀ j, j < arr.size → (arr.getD j undef).oneCell' = true) (hr : ∀ j x, cs[j]? = some x → Rep C x (arr.getD j undef)) : Rep C (.agg cs) (.agg arr)
 | tup (cs : List AV) (arr : Array Value) (hn : arr.size = cs.length) (hr : ∀ j x, cs[j]? = some x → Rep C x (arr.getD j undef)) : Rep C (.tup cs) (.tuple arr)
 | yld (o : Oid) (l : Nat) (hU : C.U o) (h : ∀ x, C.H o = some x → x.isRow = false ∧ ∃ S, C.ρ o = some (l, S)) : Rep C (.yld o) (.func (.yield l) #[] #[])
 | junk (v : Value) : Rep C .junk v
def codeOf : Ex → Option Code
 | .normal => none
 | .exit id => some (.exit id)
 | .ret => some .ret
def StateOk : RSt → Loop → Prop
 | .ready, r => r.state = .ready ∧ r.pending = none
 | .busy, r => r.state = .busy
 | .left e, r => r.state = .done ∧ r.pending = codeOf e
def ObjOk (C : Cx) (o : Oid) : Obj → Prop
 | .cells cs => ∃ b c t, C.ρ o = some (b, cs.length) ∧ C.w.heap[b]? = some (.cells c t (0, 0)) ∧ c.size = cs.length ∧ (∀ j, j < cs.length → (c.getD j undef).oneCell' = true) ∧ ∀ j x, cs[j]? = some x → Rep C x (c.getD j undef)
 | .vnil => C.ρ o = none
 | .grow cs => ∃ b S c t, C.ρ o = some (b, S) ∧ C.w.heap[b]? = some (.cells c t (0, 0)) ∧ c.size = S ∧ cs.length ≤ S ∧ (∀ j, j < cs.length → (c.getD j undef).oneCell' = true) ∧ ∀ j x, cs[j]? = some x → Rep C x (c.getD j undef)
 | .frz cs => ∃ b S c t, C.ρ o = some (b, S) ∧ C.F b ∧ C.w.heap[b]? = some (.cells c t (0, 0)) ∧ c.size = S ∧ cs.length ≤ S ∧ (∀ j, j < cs.length → (c.getD j undef).oneCell' = true) ∧ ∀ j x, cs[j]? = some x → Rep C x (c.getD j undef)
 | .mp sh es clock => ∃ b S es', C.ρ o = some (b, S) ∧ C.w.heap[b]? = some (.map es' clock) ∧ es'.size = es.length ∧
   ∀ (j : Nat) (k : D) (v : AV) (n : Nat), es[j]? = some (k, v, n) → fitD sh k = true ∧ ∃ e, es'[j]? = some e ∧ vOf k = some e.key ∧ Rep C v e.val ∧ e.born = n
 | .rc ps as body tm j => ∃ l S r w, C.ρ o = some (l, S) ∧ C.w.heap[l]? = some (.loop r) ∧ r.params.toList = ps ∧ compile w r.assign = some (strip as) ∧ compile w r.body = some (strip body) ∧ StateOk j r ∧
   r.tmps.size = tm.length ∧ ∀ k x, tm[k]? = some x → Rep C x (r.tmps.getD k undef)
structure Inv (C : Cx) : Prop where
 used : ∀ o x, C.H o = some x → C.U o
 obj : ∀ o x, C.H o = some x → ObjOk C o x
 notF : ∀ o x b S, C.H o = some x → x.isFrz = false → C.ρ o = some (b, S) → ¬ C.F b
 inj : ∀ o o' x x' b S S', C.H o = some x → C.H o' = some x' → C.ρ o = some (b, S) → C.ρ o' = some (b, S') → o = o'
 Flt : ∀ b, C.F b → b < C.w.heap.size
def Live (C : Cx) (b : Nat) : Prop := ∃ o x S, C.H o = some x ∧ x.isFrz = false ∧ C.ρ o = some (b, S)
structure Ext (C C' : Cx) : Prop where
 U : ∀ i, C.U i → C'.U i
 F : ∀ b, C.F b → C'.F b
 F' : ∀ b, C'.F b → C.F b ∨ Live C b ∨ C.w.heap.size ≤ b
 os : C'.w.os = C.w.os
 tape : C'.w.tape = C.w.tape
 output : C'.w.output = C.w.output
 size : C.w.heap.size ≤ C'.w.heap.size
 keep : ∀ b, b < C.w.heap.size → ¬ Live C b → C'.w.heap[b]? = C.w.heap[b]?
 live : ∀ o x', C'.H o = some x' → C.U o → ∃ x, C.H o = some x ∧ x.isRow = x'.isRow ∧ x.cs.length ≤ x'.cs.length ∧ (x.cs.length = x'.cs.length → C'.ρ o = C.ρ o)
 blk : ∀ b, Live C' b → Live C b ∨ C.w.heap.size ≤ b
theorem Ext.refl {C : Cx} (_ : Inv C) : Ext C C :=
 ⟨fun _ h => h, fun _ h => h, fun _ h => .inl h, rfl, rfl, rfl, Nat.le_refl _, fun _ _ _ => rfl, fun _ x' h _ => ⟨x', h, rfl, Nat.le_refl _, fun _ => rfl⟩, fun _ h => .inl h⟩
theorem Ext.trans {A B C : Cx} (h : Ext A B) (k : Ext B C) : Ext A C where
 U i hi := k.U i (h.U i hi)
 F b hb := k.F b (h.F b hb)
 F' b hb := by
  rcases k.F' b hb with q | q | q
  ·exact h.F' b q
  ·exact (h.blk b q).imp id id |>.elim (fun q => .inr (.inl q)) (fun q => .inr (.inr q))
  ·exact .inr (.inr (Nat.le_trans h.size q))
 os := k.os.trans h.os
 tape := k.tape.trans h.tape
 output := k.output.trans h.output
 size := Nat.le_trans h.size k.size
 keep b hb hn := by
  rw [k.keep b (Nat.lt_of_lt_of_le hb h.size) (fun hl => (h.blk b hl).elim hn (fun hs => by omega))]
  exact h.keep b hb hn
 live o x' hx hU := by
  obtain ⟨x1, h1, r1, l1, e1⟩ := k.live o x' hx (h.U _ hU)
  obtain ⟨x0, h0, r0, l0, e0⟩ := h.live o x1 h1 hU
  exact ⟨x0, h0, r0.trans r1, Nat.le_trans l0 l1, fun e => by rw [e1 (by omega), e0 (by omega)]⟩
 blk b hb := by
  rcases k.blk b hb with q | q
  ·exact h.blk b q
  ·exact .inr (Nat.le_trans h.size q)
theorem Inv.F_keep {C C' : Cx} (hI : Inv C) (h : Ext C C') (b : Nat) (hb : C.F b) : C'.w.heap[b]? = C.w.heap[b]? :=
 h.keep b (hI.Flt b hb) (fun ⟨o, x, S, hx, hz, hr⟩ => hI.notF o x b S hx hz hr hb)
theorem RepD.ext {C C' : Cx} (hI : Inv C) (h : Ext C C') {x : D} {v : Value} (hr : RepD C.F C.w x v) : RepD C'.F C'.w x v :=
 hr.keep h.F fun b hb _ => hI.F_keep h b hb
theorem Rep.ext {C C' : Cx} (hI : Inv C) (h : Ext C C') {x : AV} {v : Value} (hr : Rep C x v) : Rep C' x v := by
 induction hr with
 | d x v hx => exact .d x v (hx.ext hI h)
 | osl o off len sz ver cap A hlc hU hv hs =>
  refine .osl o off len sz ver cap A hlc (h.U _ hU) (fun x' hx' => ?_) (fun x' hx' e => ?_)
  ·obtain ⟨x, hx, _, hl, _⟩ := h.live o x' hx' hU
   exact Nat.le_trans (hv x hx) hl
  ·obtain ⟨x, hx, hk, hl, hq⟩ := h.live o x' hx' hU
   have := hv x hx
   rw [hq (by omega)]
   exact hs x hx (by omega)
 | vsl o off len sz ver cap A hlc hU hv hs =>
  refine .vsl o off len sz ver cap A hlc (h.U _ hU) (fun x' hx' => ?_) (fun x' hx' e => ?_)
  ·obtain ⟨x, hx, _, hl, _⟩ := h.live o x' hx' hU
   exact Nat.le_trans (hv x hx) hl
  ·obtain ⟨x, hx, hk, hl, hq⟩ := h.live o x' hx' hU
   have := hv x hx
   rw [hq (by omega)]
   exact hs x hx (by omega)
 | ptr o off ver a hU hv hs =>
  refine .ptr o off ver a (h.U _ hU) (fun x' hx' => ?_) (fun x' hx' e => ?_)
  ·obtain ⟨x, hx, _, hl, _⟩ := h.live o x' hx' hU
   exact Nat.le_trans (hv x hx) hl
  ·obtain ⟨x, hx, hk, hl, hq⟩ := h.live o x' hx' hU
   have := hv x hx
   rw [hq (by omega)]
   exact hs x hx (by omega)
 | fn f hlt cs arr hn _ ih => exact .fn f hlt cs arr hn ih
 | bnd g f hlt hg cs arr hn _ ih => exact .bnd g f hlt hg cs arr hn ih
 | map o b hU hb =>
  refine .map o b (h.U _ hU) fun x' hx' => ?_
  obtain ⟨x, hx, hk, hl, hq⟩ := h.live o x' hx' hU
  obtain ⟨hm, S, hS⟩ := hb x hx
  have hm' : x'.isRow = false := by rw [← hk]; exact hm
  have e : x.cs.length = x'.cs.length := by
   cases x <;> cases x' <;> simp_all [Obj.isRow, Obj.cs]
  exact ⟨hm', S, by rw [hq e]; exact hS⟩
 | agg cs arr hn h1 _ ih => exact .agg cs arr hn h1 ih
 | tup cs arr hn _ ih => exact .tup cs arr hn ih
 | yld o b hU hb =>
  refine .yld o b (h.U _ hU) fun x' hx' => ?_
  obtain ⟨x, hx, hk, hl, hq⟩ := h.live o x' hx' hU
  obtain ⟨hm, S, hS⟩ := hb x hx
  have hm' : x'.isRow = false := by rw [← hk]; exact hm
  have e : x.cs.length = x'.cs.length := by
   cases x <;> cases x' <;> simp_all [Obj.isRow, Obj.cs]
  exact ⟨hm', S, by rw [hq e]; exact hS⟩
 | junk v => exact .junk v
end Go.Proofs.Ytiafeijkifpfaaa.Am


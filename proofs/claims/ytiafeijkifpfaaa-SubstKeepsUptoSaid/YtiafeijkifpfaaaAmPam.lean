/-
  Joined texts: AmR, AmTerm, AmBind, AmTp, AmG, AmWk, AmX0. No condition.
-/
import Derived.Test.YtiafeijkifpfaaaAmPal
import Derived.Test.YtiafeijkifpfaaaRows
/-
 Arguments that a statement reads, with their bulk. No condition.
-/
namespace Go.Proofs.Ytiafeijkifpfaaa.Am
open Go
set_option linter.unusedVariables false
def ReadsB (P : Program) (t : TypeId) (n : Nat) {α : Type} (enc : α → List D) (wf : α → Prop) (sz : α → Nat) : Prop :=
 ∀ (H : Type) (e : TypeId × Value → H) (w : World) (base : Nat) (sp : Nat → Bool) (held : Bool) (fuel : Nat), fuel ≤ n → ∀ (cs : List Value) (d : DataW H × List MemPlace), DataW.trod e P w base sp held fuel t cs = some d →
  ∃ x : α, CD w (enc x) cs ∧ wf x ∧ sz x ≤ Rows.uptoBulk d.1
variable {P : Program} {t : TypeId} {n : Nat} {α β γ : Type}
theorem ReadsB.zero {enc : α → List D} {wf : α → Prop} {sz : α → Nat} : ReadsB P t 0 enc wf sz := by
 intro H e w base sp held fuel hf cs d h
 obtain rfl : fuel = 0 := by omega
 simp [DataW.trod] at h
theorem ReadsB.le {m : Nat} {enc : α → List D} {wf : α → Prop} {sz : α → Nat} (h : ReadsB P t n enc wf sz) (hm : m ≤ n) : ReadsB P t m enc wf sz :=
 fun H e w base sp held fuel hf => h H e w base sp held fuel (by omega)
theorem ReadsB.map {enc : α → List D} {wf : α → Prop} {sz : α → Nat} {enc' : β → List D} {wf' : β → Prop} {sz' : β → Nat} (h : ReadsB P t n enc wf sz) (g : α → β) (he : ∀ x, enc' (g x) = enc x) (hw : ∀ x, wf x → wf' (g x)) (hs : ∀ x, sz' (g x) ≤ sz x) : ReadsB P t n enc' wf' sz' := by
 intro H e w base sp held fuel hf cs d hd
 obtain ⟨x, hx, hx2, hx3⟩ := h H e w base sp held fuel hf cs d hd
 exact ⟨g x, by rw [he]; exact hx, hw x hx2, Nat.le_trans (hs x) hx3⟩
theorem bulk_pos {H : Type} (d : DataW H) : 1 ≤ Rows.uptoBulk d := by
 cases d with
 | lit l => cases l <;> simp [Rows.uptoBulk]
 | _ => simp [Rows.uptoBulk]
theorem ReadsB.int {k : IntKind} (ht : P.underlying t = some (.int k)) : ReadsB P t n (fun x : Int => [D.int k x]) (fun x => (Lit.int k x).wf = true) (fun _ => 1) := by
 intro H e w base sp held fuel hf cs d h
 obtain ⟨m, rfl, _, hw⟩ := DataW.trod_int ht h
 exact ⟨m, .one1 (.int _ _) rfl, hw, bulk_pos _⟩
theorem ReadsB.str (ht : P.underlying t = some .string) : ReadsB P t n (fun x : ByteArray => [D.str x]) (fun x => x.size ≤ maxLen) (fun _ => 1) := by
 intro H e w base sp held fuel hf cs d h
 obtain ⟨m, rfl, _, hm⟩ := DataW.trod_string ht h
 exact ⟨m, .one1 (.str _) rfl, hm, bulk_pos _⟩
theorem bulkAll_append {H : Type} (l r : List (DataW H)) : Rows.uptoBulkAll (l ++ r) = Rows.uptoBulkAll l + Rows.uptoBulkAll r := by
 induction l with
 | nil => simp [Rows.uptoBulkAll]
 | cons x l ih => simp only [List.cons_append, Rows.uptoBulkAll, ih]; omega
theorem sum_le {H : Type} {sz : α → Nat} : ∀ (xs : List α) (ds : List (DataW H)), xs.length = ds.length → (∀ (i : Nat) (x : α) (d : DataW H), xs[i]? = some x → ds[i]? = some d → sz x ≤ Rows.uptoBulk d) → (xs.map sz).sum ≤ Rows.uptoBulkAll ds
 | [], [], _, _ => by simp [Rows.uptoBulkAll]
 | [], _ :: _, h, _ => by simp at h
 | _ :: _, [], h, _ => by simp at h
 | x :: r, d :: s, h, k => by
  have h1 := k 0 x d rfl rfl
  have h2 := sum_le r s (by simpa using h) (fun i y e hy he => k (i + 1) y e (by simpa using hy) (by simpa using he))
  simp only [List.map_cons, List.sum_cons, Rows.uptoBulkAll]; omega
theorem ReadsB.slice {e0 : TypeId} {enc : α → List D} {wf : α → Prop} {sz : α → Nat} (ht : P.underlying t = some (.slice e0)) (hsz : 0 < P.cellsOf e0) (h : ReadsB P e0 n enc wf sz) :
  ReadsB P t (n + 1) (fun xs : List α => [D.sl (xs.flatMap enc) xs.length false none]) (fun xs => xs.length ≤ maxLen ∧ ∀ x ∈ xs, wf x) (fun xs => (xs.map sz).sum + 1) := by
 intro H e w base sp held fuel hf cs d hd
 rcases DataW.trod_slice ht hd with ⟨rfl, rfl⟩ | ⟨a, len, cap, elems, rest, m, rfl, rfl, rfl, hba, hlc, hcm, hel, hat, _⟩
 ·exact ⟨[], .one1 (.sl [] 0 0 false none none (fun _ => undef) (Nat.le_refl _) (fun _ => rfl) (fun j hj => by simp at hj) (fun j x hx => by simp at hx) (fun hne => absurd rfl hne) (fun b hb => by cases hb)) rfl, by simp [maxLen], bulk_pos _⟩
 ·have hone : ∀ i, i < len → ∃ x, (wf x ∧ ∀ y, elems[i]? = some y → sz x ≤ Rows.uptoBulk y.1) ∧ (enc x).length = P.cellsOf e0 ∧ ∀ k d, (enc x)[k]? = some d → ∃ v, w.cell? (a.add (i * P.cellsOf e0 + k)) = some v ∧ v.oneCell' = true ∧ RepD (· < w.heap.size) w d v := by
   intro i hi
   obtain ⟨y, hy⟩ : ∃ y, elems[i]? = some y := ⟨elems[i]'(by omega), by simp [hel, hi]⟩
   have hb := hat i hi
   rw [hy, Option.bind_eq_some_iff] at hb
   obtain ⟨cs', hc, htr⟩ := hb
   obtain ⟨x, hx, hwf, hbk⟩ := h H e w base sp held m (by omega) cs' y htr
   have hcell : cs'.length = P.cellsOf e0 ∧ ∀ k, k < P.cellsOf e0 → w.cell? ((a.add (i * P.cellsOf e0)).add k) = cs'[k]? := by
    unfold World.cells? at hc
    split at hc
    ·exact ⟨by simpa using mapM_some_length hc, fun k hk => mapM_some_get hc k k (by simp [hk])⟩
    ·cases hc
   refine ⟨x, ⟨hwf, fun y' hy' => by rw [hy] at hy'; cases hy'; exact hbk⟩, by rw [← hx.len]; exact hcell.1, fun k d hd => ?_⟩
   have hk : k < cs'.length := by rw [hx.len]; exact (List.getElem?_eq_some_iff.1 hd).1
   have hv : cs'[k]? = some (cs'.getD k undef) := by rw [List.getD_eq_getElem?_getD, List.getElem?_eq_getElem hk]; rfl
   refine ⟨cs'.getD k undef, ?_, hx.one k hk, hx.rep k d hd⟩
   rw [← add_add, hcell.2 k (by omega), hv]
  obtain ⟨xs, hxl, hx⟩ := choose_list len hone
  have hxsz : ∀ x ∈ xs, (enc x).length = P.cellsOf e0 := fun x hm => by
   obtain ⟨i, hi⟩ := List.mem_iff_getElem?.1 hm
   exact (hx i x hi).2.1
  have hget : ∀ j d, (xs.flatMap enc)[j]? = some d → ∃ v, w.cell? (a.add j) = some v ∧ v.oneCell' = true ∧ RepD (· < w.heap.size) w d v := fun j d hj => by
   obtain ⟨i, k, x, rfl, hk, hxi, hd⟩ := flatMap_at xs hxsz j d hj
   exact (hx i x hxi).2.2 k d hd
  have hgd : ∀ j, j < (xs.flatMap enc).length → ∃ v, w.cell? (a.add j) = some v ∧ v.oneCell' = true := fun j hj => by
   obtain ⟨v, h1, h2, _⟩ := hget j _ (List.getElem?_eq_getElem hj)
   exact ⟨v, h1, h2⟩
  refine ⟨xs, .one1 ?_ rfl, ⟨by omega, fun x hm => by
   obtain ⟨i, hi⟩ := List.mem_iff_getElem?.1 hm
   exact (hx i x hi).1.1⟩, ?_⟩
  ·rw [← hxl] at hlc ⊢
   refine .sl _ _ cap false none (some a) (fun j => (w.cell? (a.add j)).getD undef) hlc (fun h => by cases h) (fun j hj => ?_) (fun j d hj => ?_) (fun hne => ?_) (fun b hb => by cases hb)
   ·obtain ⟨v, h1, h2⟩ := hgd j hj
    rw [h1]; exact h2
   ·obtain ⟨v, h1, _, h3⟩ := hget j d hj
    rw [h1]; exact h3
   ·refine ⟨a, rfl, ?_, fun j hj => ?_⟩
    ·obtain ⟨v, h1, _⟩ := hgd 0 (by cases hq : xs.flatMap enc with | nil => exact absurd hq hne | cons => simp)
     have := lt_of_cell h1
     rwa [add_block] at this
    ·obtain ⟨v, h1, _⟩ := hgd j hj
     rw [h1]; rfl
  ·have := sum_le (sz := sz) xs (elems.map (·.1)) (by simp; omega) (fun i x d h1 h2 => by
    simp only [List.getElem?_map, Option.map_eq_some_iff] at h2
    obtain ⟨y, hy, rfl⟩ := h2
    exact (hx i x h1).1.2 y hy)
   simp only [Rows.uptoBulk]; omega
theorem ReadsB.struct2 {f0 f1 : Field} {s0 s1 : Nat} {e0 : α → List D} {w0 : α → Prop} {z0 : α → Nat} {e1 : β → List D} {w1 : β → Prop} {z1 : β → Nat} (ht : P.underlying t = some (.struct #[f0, f1])) (hs : P.cellsOf t = s0 + s1)
  (h0 : P.cellsOf f0.type = s0 ∧ f0.offset = 0) (h1 : P.cellsOf f1.type = s1 ∧ f1.offset = s0) (r0 : ReadsB P f0.type n e0 w0 z0) (r1 : ReadsB P f1.type n e1 w1 z1) :
  ReadsB P t (n + 1) (fun x : α × β => e0 x.1 ++ e1 x.2) (fun x => w0 x.1 ∧ w1 x.2) (fun x => z0 x.1 + z1 x.2 + 1) := by
 intro H e w base sp held fuel hf cs d hd
 obtain ⟨xs, m, rfl, rfl, hl, hn, hat⟩ := DataW.trod_struct ht hd
 match xs, hn with
 | [y0, y1], _ =>
  obtain ⟨x, hx, hwx, hb0⟩ := r0 H e w base sp held m (by omega) _ y0 (hat 0 f0 rfl)
  obtain ⟨y, hy, hwy, hb1⟩ := r1 H e w base sp held m (by omega) _ y1 (hat 1 f1 rfl)
  refine ⟨(x, y), ?_, ⟨hwx, hwy⟩, by simp only [List.map_cons, List.map_nil, Rows.uptoBulk, Rows.uptoBulkAll]; omega⟩
  rw [h0.1, h0.2] at hx
  rw [h1.1, h1.2] at hy
  have e : cs = (cs.drop 0).take s0 ++ (cs.drop s0).take s1 := by
   rw [List.drop_zero, List.take_of_length_le (l := cs.drop s0) (by simp; omega), List.take_append_drop]
  rw [e]
  exact hx.append hy
theorem ReadsB.struct3 {f0 f1 f2 : Field} {s0 s1 s2 : Nat} {e0 : α → List D} {w0 : α → Prop} {z0 : α → Nat} {e1 : β → List D} {w1 : β → Prop} {z1 : β → Nat} {e2 : γ → List D} {w2 : γ → Prop} {z2 : γ → Nat} (ht : P.underlying t = some (.struct #[f0, f1, f2])) (hs : P.cellsOf t = s0 + s1 + s2)
  (h0 : P.cellsOf f0.type = s0 ∧ f0.offset = 0) (h1 : P.cellsOf f1.type = s1 ∧ f1.offset = s0) (h2 : P.cellsOf f2.type = s2 ∧ f2.offset = s0 + s1) (r0 : ReadsB P f0.type n e0 w0 z0) (r1 : ReadsB P f1.type n e1 w1 z1) (r2 : ReadsB P f2.type n e2 w2 z2) :
  ReadsB P t (n + 1) (fun x : α × β × γ => e0 x.1 ++ e1 x.2.1 ++ e2 x.2.2) (fun x => w0 x.1 ∧ w1 x.2.1 ∧ w2 x.2.2) (fun x => z0 x.1 + z1 x.2.1 + z2 x.2.2 + 1) := by
 intro H e w base sp held fuel hf cs d hd
 obtain ⟨xs, m, rfl, rfl, hl, hn, hat⟩ := DataW.trod_struct ht hd
 match xs, hn with
 | [y0, y1, y2], _ =>
  obtain ⟨x, hx, hwx, hb0⟩ := r0 H e w base sp held m (by omega) _ y0 (hat 0 f0 rfl)
  obtain ⟨y, hy, hwy, hb1⟩ := r1 H e w base sp held m (by omega) _ y1 (hat 1 f1 rfl)
  obtain ⟨z, hz, hwz, hb2⟩ := r2 H e w base sp held m (by omega) _ y2 (hat 2 f2 rfl)
  refine ⟨(x, y, z), ?_, ⟨hwx, hwy, hwz⟩, by simp only [List.map_cons, List.map_nil, Rows.uptoBulk, Rows.uptoBulkAll]; omega⟩
  rw [h0.1, h0.2] at hx
  rw [h1.1, h1.2] at hy
  rw [h2.1, h2.2] at hz
  have e : cs = ((cs.drop 0).take s0 ++ (cs.drop s0).take s1) ++ (cs.drop (s0 + s1)).take s2 := by
   rw [List.drop_zero, List.take_of_length_le (l := cs.drop (s0 + s1)) (by simp; omega), ← List.drop_drop, List.append_assoc, List.take_append_drop, List.take_append_drop]
  rw [e]
  exact (hx.append hy).append hz
end Go.Proofs.Ytiafeijkifpfaaa.Am

/-
 Terms as data of the abstract machine. No condition.
-/
namespace Go.Proofs.Ytiafeijkifpfaaa.Am
open Go
inductive Term where
 | mk (v : Int) (fn : ByteArray) (args : List Term)
mutual
def Term.enc : Term → List D
 | .mk v fn args => [.int .i64 v, .str fn, .sl (encL args) args.length false none]
def encL : List Term → List D
 | [] => []
 | t :: r => t.enc ++ encL r
end
theorem Term.enc_len (t : Term) : t.enc.length = 3 := by cases t; rfl
theorem encL_len : ∀ (ts : List Term), (encL ts).length = ts.length * 3
 | [] => rfl
 | t :: r => by simp [encL, Term.enc_len, encL_len r]; omega
theorem encL_at : ∀ (ts : List Term) (i : Nat) (t : Term), ts[i]? = some t → ((encL ts).drop (i * 3)).take 3 = t.enc
 | [], i, t, h => by simp at h
 | u :: r, 0, t, h => by
  simp at h; subst h
  have := u.enc_len
  simp [encL, this]
 | u :: r, i + 1, t, h => by
  have := u.enc_len
  have e := encL_at r i t (by simpa using h)
  simp only [encL]
  rw [show (i + 1) * 3 = u.enc.length + i * 3 by omega, List.drop_append, List.drop_of_length_le (by omega), List.nil_append, show u.enc.length + i * 3 - u.enc.length = i * 3 by omega]
  exact e
mutual
def Term.ok : Term → Prop
 | .mk _ _ args => args.length ≤ 9223372036854775807 ∧ okL args
def okL : List Term → Prop
 | [] => True
 | t :: r => t.ok ∧ okL r
end
theorem okL_mem : ∀ {ts : List Term}, okL ts → ∀ x ∈ ts, x.ok
 | [], _, x, hx => by simp at hx
 | t :: r, h, x, hx => by
  rcases List.mem_cons.1 hx with e | hx
  ·exact e ▸ h.1
  ·exact okL_mem h.2 x hx
theorem Term.ind {p : Term → Prop} (h : ∀ v fn args, (∀ x ∈ args, p x) → p (.mk v fn args)) (t : Term) : p t :=
 Term.rec (motive_1 := p) (motive_2 := fun l => ∀ x ∈ l, p x) h (fun x hx => by simp at hx) (fun t r ht hr x hx => by
  rcases List.mem_cons.1 hx with e | hx
  ·exact e ▸ ht
  ·exact hr x hx) t
structure At (ts : List Term) (i : Nat) (v : Int) (fn : ByteArray) (args : List Term) : Prop where
 lt : i < ts.length
 mem : Term.mk v fn args ∈ ts
 sz : (encL ts).length = ts.length * 3
 cells : ((encL ts).drop (i * 3)).take 3 = [.int .i64 v, .str fn, .sl (encL args) args.length false none]
 lti : (i : Int) < (ts.length : Int)
 ltm : i * 3 < ts.length * 3
 le3 : 3 ≤ ts.length * 3 - i * 3
 dr : ts.drop i = .mk v fn args :: ts.drop (i + 1)
 w : IntKind.i64.wrap ((i : Int) + 1) = (i : Int) + 1
 get : ts[i] = .mk v fn args
theorem at_ok {ts : List Term} (h : ts.length ≤ 9223372036854775807) {i : Nat} (hil : i < ts.length) : ∃ v fn args, At ts i v fn args := by
 obtain ⟨t, ht⟩ : ∃ t, ts[i]? = some t := ⟨ts[i], by simp [hil]⟩
 obtain ⟨v, fn, args⟩ := t
 refine ⟨v, fn, args, hil, List.mem_of_getElem? ht, encL_len ts, encL_at ts i _ ht, by omega, by omega, by omega, ?_, wrap_i64 (by omega) (by omega), by rw [List.getElem?_eq_getElem hil] at ht; exact Option.some.inj ht⟩
 rw [List.drop_eq_getElem_cons hil]
 congr 1
 rw [List.getElem?_eq_getElem hil] at ht
 exact Option.some.inj ht
mutual
def Term.sizeW : Term → Int
 | .mk _ _ args => sizeWL 1 args
def sizeWL (acc : Int) : List Term → Int
 | [] => acc
 | t :: r => sizeWL (IntKind.i64.wrap (acc + t.sizeW)) r
end
mutual
def Term.depthW : Term → Int
 | .mk _ _ args => IntKind.i64.wrap (depthWL 0 args + 1)
def depthWL (acc : Int) : List Term → Int
 | [] => acc
 | t :: r => depthWL (if t.depthW > acc then t.depthW else acc) r
end
def noName (fn : ByteArray) : Bool := fn.toList.isEmpty
def rightB (v : Int) (fn : ByteArray) (n : Nat) : Bool :=
 if noName fn then decide (0 ≤ v) && decide (v < 1000000) && decide (n = 0) else decide (v = 0) && decide ((fn.size : Int) ≤ 64) && decide ((n : Int) ≤ 16)
mutual
def Term.shapeB : Term → Bool
 | .mk v fn args => rightB v fn args.length && shapeBL args
def shapeBL : List Term → Bool
 | [] => true
 | t :: r => t.shapeB && shapeBL r
end
def all2 (p : Term → Term → Bool) : List Term → List Term → Bool
 | t :: r, u :: s => p t u && all2 p r s
 | _, _ => true
mutual
def Term.sameB : Term → Term → Bool
 | .mk v fn args, .mk v2 fn2 args2 => decide (v = v2) && (fn.toList == fn2.toList) && decide (args.length = args2.length) && sameBL args args2
def sameBL : List Term → List Term → Bool
 | t :: r, u :: s => t.sameB u && sameBL r s
 | _, _ => true
end
def Term.rightE (t : Term) : Int :=
 if t.shapeB then (if t.depthW > 60 then 22 else if t.sizeW > 4000 then 3 else 0) else 1
theorem sameBL_all2 : ∀ (ts us : List Term), sameBL ts us = all2 Term.sameB ts us
 | t :: r, u :: s => by simp [sameBL, all2, sameBL_all2 r s]
 | [], _ => by simp [sameBL, all2]
 | _ :: _, [] => by simp [sameBL, all2]
end Go.Proofs.Ytiafeijkifpfaaa.Am

/-
 Binds as data of the abstract machine; substitutions. No condition.
-/
namespace Go.Proofs.Ytiafeijkifpfaaa.Am
open Go
structure Bd where
 v : Int
 t : Term
def Bd.enc (b : Bd) : List D := .int .i64 b.v :: b.t.enc
def encB (bs : List Bd) : List D := bs.flatMap Bd.enc
theorem Bd.enc_len (b : Bd) : b.enc.length = 4 := by simp [Bd.enc, Term.enc_len]
theorem encB_len : ∀ (bs : List Bd), (encB bs).length = bs.length * 4
 | [] => rfl
 | b :: r => by have := encB_len r; simp [encB, Bd.enc_len] at this ⊢; omega
theorem encB_at : ∀ (bs : List Bd) (i : Nat) (b : Bd), bs[i]? = some b → ((encB bs).drop (i * 4)).take 4 = b.enc
 | [], i, b, h => by simp at h
 | u :: r, 0, b, h => by
  simp at h; subst h
  have := u.enc_len
  simp [encB, this]
 | u :: r, i + 1, b, h => by
  have := u.enc_len
  have e := encB_at r i b (by simpa using h)
  simp only [encB, List.flatMap_cons] at e ⊢
  rw [show (i + 1) * 4 = u.enc.length + i * 4 by omega, List.drop_append, List.drop_of_length_le (by omega), List.nil_append, show u.enc.length + i * 4 - u.enc.length = i * 4 by omega]
  exact e
def okB (bs : List Bd) : Prop := bs.length ≤ 9223372036854775807 ∧ ∀ b ∈ bs, b.t.ok
structure AtB (bs : List Bd) (i : Nat) (x v : Int) (fn : ByteArray) (args : List Term) : Prop where
 lt : i < bs.length
 mem : (⟨x, .mk v fn args⟩ : Bd) ∈ bs
 sz : (encB bs).length = bs.length * 4
 cells : ((encB bs).drop (i * 4)).take 4 = [.int .i64 x, .int .i64 v, .str fn, .sl (encL args) args.length false none]
 c0 : (encB bs)[i * 4]? = some (.int .i64 x)
 c1 : ((encB bs).drop (i * 4 + 1)).take 3 = [.int .i64 v, .str fn, .sl (encL args) args.length false none]
 c10 : (encB bs)[i * 4 + 1]? = some (.int .i64 v)
 c11 : (encB bs)[i * 4 + 2]? = some (.str fn)
 e0 : ∀ h : i * 4 < (encB bs).length, (encB bs)[i * 4]'h = .int .i64 x
 e10 : ∀ h : i * 4 + 1 < (encB bs).length, (encB bs)[i * 4 + 1]'h = .int .i64 v
 e11 : ∀ h : i * 4 + 2 < (encB bs).length, (encB bs)[i * 4 + 2]'h = .str fn
 lti : (i : Int) < (bs.length : Int)
 ltm : i * 4 < bs.length * 4
 le4 : 4 ≤ bs.length * 4 - i * 4
 le1 : 1 ≤ bs.length * 4 - i * 4
 le3 : 3 ≤ bs.length * 4 - (i * 4 + 1)
 le2 : 2 ≤ bs.length * 4 - (i * 4 + 1)
 le11 : 1 ≤ bs.length * 4 - (i * 4 + 1)
 dr : bs.drop i = ⟨x, .mk v fn args⟩ :: bs.drop (i + 1)
 w : IntKind.i64.wrap ((i : Int) + 1) = (i : Int) + 1
 w0 : IntKind.i64.wrap (i : Int) = (i : Int)
theorem atB_ok {bs : List Bd} (h : bs.length ≤ 9223372036854775807) {i : Nat} (hil : i < bs.length) : ∃ x v fn args, AtB bs i x v fn args := by
 obtain ⟨b, hb⟩ : ∃ b, bs[i]? = some b := ⟨bs[i], by simp [hil]⟩
 obtain ⟨x, t⟩ := b
 obtain ⟨v, fn, args⟩ := t
 have hc := encB_at bs i _ hb
 simp only [Bd.enc, Term.enc] at hc
 have hg : ∀ j, j < 4 → (encB bs)[i * 4 + j]? = ([.int .i64 x, .int .i64 v, .str fn, .sl (encL args) args.length false none] : List D)[j]? := fun j hj => by
  rw [← hc, List.getElem?_take, if_pos hj, List.getElem?_drop]
 refine ⟨x, v, fn, args, hil, List.mem_of_getElem? hb, encB_len bs, hc, by simpa using hg 0 (by omega), ?_, by simpa using hg 1 (by omega), by simpa using hg 2 (by omega), fun h => by simpa [h] using hg 0 (by omega), fun h => by simpa [h] using hg 1 (by omega), fun h => by simpa [h] using hg 2 (by omega), by omega, by omega, by omega, by omega, by omega, by omega, by omega, ?_, wrap_i64 (by omega) (by omega), wrap_i64 (by omega) (by omega)⟩
 ·have := congrArg (List.drop 1) hc
  rw [List.drop_take, List.drop_drop] at this
  simpa [Nat.add_comm] using this
 ·rw [List.drop_eq_getElem_cons hil]
  congr 1
  rw [List.getElem?_eq_getElem hil] at hb
  exact Option.some.inj hb
def Bd.own : Bd → Bool
 | ⟨x, .mk v fn _⟩ => noName fn && decide (v = x)
def Bd.badB (n : Nat) (last : Int) (b : Bd) : Bool := decide (b.v ≤ last) || decide (1000000 ≤ b.v) || b.own || decide (b.t.rightE ≠ 0) || decide ((4000 : Int) < (n : Int))
def subOk (n : Nat) : Int → List Bd → Bool
 | _, [] => true
 | last, b :: r => !b.badB n last && subOk n b.v r
def prevB (x : Int) : Option Int → Bool
 | some p => decide (x ≤ p)
 | none => false
def Bd.badR (prev : Option Int) (b : Bd) : Bool :=
 decide (b.v < 0) || decide (1000000 ≤ b.v) || prevB b.v prev || decide (b.t.rightE ≠ 0) || b.own
def isOk : Option Int → List Bd → Bool
 | _, [] => true
 | prev, b :: r => !b.badR prev && isOk (some b.v) r
def isB (bs : List Bd) : Bool := decide ((bs.length : Int) ≤ 4000) && isOk none bs
def pairB (a b : Bd) : Bool := decide (a.v = b.v) && a.t.sameB b.t
def allB (p : Bd → Bd → Bool) : List Bd → List Bd → Bool
 | t :: r, u :: s => p t u && allB p r s
 | _, _ => true
theorem isOk_sub (n : Nat) (hn : ¬ (4000 : Int) < (n : Int)) : ∀ (l : List Bd) (prev : Option Int) (last : Int), (prev = none ∧ last = -1 ∨ prev = some last ∧ 0 ≤ last) → isOk prev l = subOk n last l := by
 intro l
 induction l with
 | nil => intro prev last _; rfl
 | cons b r ih =>
  intro prev last hp
  simp only [isOk, subOk]
  have hb : b.badR prev = b.badB n last := by
   rcases hp with ⟨rfl, rfl⟩ | ⟨rfl, h0⟩
   ·simp only [Bd.badR, Bd.badB, prevB, hn, decide_false, Bool.or_false]
    have : decide (b.v < 0) = decide (b.v ≤ -1) := by congr 1; simp; omega
    rw [this]
    cases b.own <;> simp
   ·simp only [Bd.badR, Bd.badB, prevB, hn, decide_false, Bool.or_false]
    by_cases h1 : b.v ≤ last
    ·simp [h1]
    ·have : ¬ b.v < 0 := by omega
     simp only [h1, this, decide_false, Bool.false_or, Bool.or_false]
     cases b.own <;> simp
  rw [hb]
  cases hq : b.badB n last with
  | true => simp
  | false =>
   rw [ih (some b.v) b.v (.inr ⟨rfl, by
    simp only [Bd.badB, Bool.or_eq_false_iff, decide_eq_false_iff_not] at hq
    rcases hp with ⟨_, rfl⟩ | ⟨_, h0⟩ <;> omega⟩)]
theorem isB_sub (bs : List Bd) : isB bs = subOk bs.length (-1) bs := by
 unfold isB
 by_cases h : (bs.length : Int) ≤ 4000
 ·rw [isOk_sub bs.length (by omega) bs none (-1) (.inl ⟨rfl, rfl⟩)]
  simp [h]
 ·cases bs with
  | nil => simp at h
  | cons b r =>
   have h2 : (4000 : Int) < ((b :: r).length : Int) := by omega
   have e1 : decide (((b :: r).length : Int) ≤ 4000) = false := decide_eq_false h
   have e2 : decide ((4000 : Int) < ((b :: r).length : Int)) = true := decide_eq_true h2
   simp only [subOk, Bd.badB, e1, e2, Bool.or_true, Bool.not_true, Bool.false_and]
end Go.Proofs.Ytiafeijkifpfaaa.Am

/-
 Terms as mathematics: sizes, depths, variables, substitutions, parts. No condition.
-/
namespace Go.Proofs.Ytiafeijkifpfaaa.Am
open Go Go.Proofs
set_option linter.unusedSimpArgs false
set_option linter.unusedVariables false
theorem bytes_loop (a : ByteArray) : ∀ (k i : Nat) (r : List UInt8), a.size - i = k → ByteArray.toList.loop a i r = r.reverse ++ a.data.toList.drop i := by
 intro k
 induction k with
 | zero =>
  intro i r h
  rw [ByteArray.toList.loop, if_neg (by omega)]
  have : a.data.toList.drop i = [] := List.drop_of_length_le (by have : a.data.toList.length = a.size := rfl; omega)
  simp [this]
 | succ k ih =>
  intro i r h
  have hi : i < a.size := by omega
  rw [ByteArray.toList.loop, if_pos hi, ih (i + 1) _ (by omega)]
  have hl : i < a.data.toList.length := hi
  rw [List.drop_eq_getElem_cons hl]
  simp only [List.reverse_cons, List.append_assoc, List.singleton_append]
  congr 2
  have hi2 : i < a.data.size := hi
  simp only [ByteArray.get!, Array.getElem_toList]
  exact getElem!_pos a.data i hi2
theorem bytes_toList (a : ByteArray) : a.toList = a.data.toList := by
 have := bytes_loop a a.size 0 [] rfl
 simpa [ByteArray.toList] using this
theorem bytes_ext {a b : ByteArray} (h : a.toList = b.toList) : a = b := by
 rw [bytes_toList, bytes_toList] at h
 cases a; cases b
 simp at h
 simp [h]
theorem sameB_eq (t : Term) : ∀ u, (t.sameB u = true ↔ t = u) := by
 refine Term.ind (p := fun t => ∀ u, (t.sameB u = true ↔ t = u)) (fun v fn args ih u => ?_) t
 obtain ⟨v2, fn2, args2⟩ := u
 have hl : ∀ (a b : List Term), (∀ x ∈ a, ∀ u, (x.sameB u = true ↔ x = u)) → a.length = b.length → (sameBL a b = true ↔ a = b) := by
  intro a
  induction a with
  | nil => intro b _ h; cases b with | nil => simp [sameBL] | cons => simp at h
  | cons x r ih2 =>
   intro b h h2
   cases b with
   | nil => simp at h2
   | cons y s =>
    simp only [sameBL, Bool.and_eq_true, List.cons.injEq]
    rw [h x (by simp), ih2 s (fun z hz => h z (by simp [hz])) (by simpa using h2)]
 simp only [Term.sameB, Bool.and_eq_true, decide_eq_true_eq, beq_iff_eq, Term.mk.injEq]
 constructor
 ·rintro ⟨⟨⟨h1, h2⟩, h3⟩, h4⟩
  exact ⟨h1, bytes_ext h2, (hl args args2 ih h3).1 h4⟩
 ·rintro ⟨h1, h2, h3⟩
  exact ⟨⟨⟨h1, by rw [h2]⟩, by rw [h3]⟩, (hl args args2 ih (by rw [h3])).2 h3⟩
theorem sameB_ff {t u : Term} : t.sameB u = false ↔ t ≠ u := by
 rw [← Bool.not_eq_true, sameB_eq]
mutual
def Term.size : Term → Nat
 | .mk _ _ args => 1 + sizeL args
def sizeL : List Term → Nat
 | [] => 0
 | t :: r => t.size + sizeL r
end
mutual
def Term.occ : Term → List Int
 | .mk v fn args => (if fn.toList = [] then [v] else []) ++ occL args
def occL : List Term → List Int
 | [] => []
 | t :: r => t.occ ++ occL r
end
theorem Term.size_pos (t : Term) : 0 < t.size := by cases t; simp [Term.size]; omega
theorem occ_len (t : Term) : t.occ.length ≤ t.size := by
 refine Term.ind (p := fun t => t.occ.length ≤ t.size) (fun v fn args ih => ?_) t
 have hl : ∀ (a : List Term), (∀ x ∈ a, x.occ.length ≤ x.size) → (occL a).length ≤ sizeL a := by
  intro a
  induction a with
  | nil => intro _; simp [sizeL, occL]
  | cons x r ih2 =>
   intro h
   have h1 := h x (by simp)
   have h2 := ih2 fun z hz => h z (by simp [hz])
   simp only [sizeL, occL, List.length_append]; omega
 have h1 := hl args ih
 simp only [Term.size, Term.occ, List.length_append]
 split <;> simp <;> omega
theorem sizeL_mem : ∀ {a : List Term} {x : Term}, x ∈ a → x.size ≤ sizeL a
 | t :: r, x, h => by
  rcases List.mem_cons.1 h with rfl | h
  ·simp [sizeL]
  ·have := sizeL_mem h; simp [sizeL]; omega
theorem wrap_small {n : Int} (h : -4611686018427387904 ≤ n) (h2 : n ≤ 4611686018427387904) : IntKind.i64.wrap n = n := wrap_i64 (by omega) (by omega)
theorem shapeB_v' {v : Int} {fn : ByteArray} {args : List Term} (h : (Term.mk v fn args).shapeB = true) (hv : fn.toList ≠ []) : v = 0 := by
 have hn : noName fn = false := by simp [noName, hv]
 simp [Term.shapeB, rightB, hn] at h
 exact h.1.1.1
theorem shapeBL_mem' : ∀ {ts : List Term}, shapeBL ts = true → ∀ x ∈ ts, x.shapeB = true
 | [], _, x, hx => by simp at hx
 | t :: r, h, x, hx => by
  simp only [shapeBL, Bool.and_eq_true] at h
  rcases List.mem_cons.1 hx with e | hx
  ·exact e ▸ h.1
  ·exact shapeBL_mem' h.2 x hx
mutual
def Term.depth : Term → Nat
 | .mk _ _ args => depthL args + 1
def depthL : List Term → Nat
 | [] => 0
 | t :: r => max t.depth (depthL r)
end
theorem depth_size (t : Term) : t.depth ≤ t.size := by
 refine Term.ind (p := fun t => t.depth ≤ t.size) (fun v fn args ih => ?_) t
 have hl : ∀ (a : List Term), (∀ x ∈ a, x.depth ≤ x.size) → depthL a ≤ sizeL a := by
  intro a
  induction a with
  | nil => intro _; simp [depthL, sizeL]
  | cons x r ih2 =>
   intro h
   have h1 := h x (by simp)
   have h2 := ih2 fun z hz => h z (by simp [hz])
   simp only [depthL, sizeL]; omega
 have := hl args ih
 simp only [Term.depth, Term.size]; omega
theorem sizeW_eq (t : Term) : (t.size : Int) ≤ 4611686018427387904 → t.sizeW = t.size := by
 refine Term.ind (p := fun t => (t.size : Int) ≤ 4611686018427387904 → t.sizeW = t.size) (fun v fn args ih hs => ?_) t
 have hl : ∀ (a : List Term), (∀ x ∈ a, (x.size : Int) ≤ 4611686018427387904 → x.sizeW = x.size) → ∀ acc : Int, 0 ≤ acc → acc + sizeL a ≤ 4611686018427387904 → sizeWL acc a = acc + sizeL a := by
  intro a
  induction a with
  | nil => intro _ acc _ _; simp [sizeWL, sizeL]
  | cons x r ih2 =>
   intro h acc h0 h1
   simp only [sizeL] at h1
   have hx := h x (by simp) (by omega)
   simp only [sizeWL, hx, sizeL]
   rw [wrap_small (by omega) (by omega), ih2 (fun z hz => h z (by simp [hz])) _ (by omega) (by omega)]
   omega
 simp only [Term.size] at hs
 have := hl args ih 1 (by omega) (by omega)
 simp only [Term.sizeW, Term.size, this]; omega
theorem depthW_eq (t : Term) : (t.size : Int) ≤ 4611686018427387904 → t.depthW = t.depth := by
 refine Term.ind (p := fun t => (t.size : Int) ≤ 4611686018427387904 → t.depthW = t.depth) (fun v fn args ih hs => ?_) t
 have hl : ∀ (a : List Term), (∀ x ∈ a, (x.size : Int) ≤ 4611686018427387904 → x.depthW = x.depth) → (sizeL a : Int) ≤ 4611686018427387904 → ∀ acc : Nat, depthWL acc a = (max acc (depthL a) : Nat) := by
  intro a
  induction a with
  | nil => intro _ _ acc; simp [depthWL, depthL]
  | cons x r ih2 =>
   intro h h1 acc
   simp only [sizeL] at h1
   have hx := h x (by simp) (by omega)
   simp only [depthWL, hx, depthL]
   by_cases hm : (x.depth : Int) > acc
   ·rw [if_pos hm, ih2 (fun z hz => h z (by simp [hz])) (by omega)]
    congr 1; omega
   ·rw [if_neg hm, ih2 (fun z hz => h z (by simp [hz])) (by omega)]
    congr 1; omega
 simp only [Term.size] at hs
 have h1 := hl args ih (by omega) 0
 have h2 : depthL args + 1 ≤ 1 + sizeL args := depth_size (.mk v fn args)
 simp only [Term.depthW, Term.depth]
 rw [show (0 : Int) = ((0 : Nat) : Int) from rfl, h1, Nat.zero_max, wrap_small (by omega) (by omega)]
 omega
theorem rightE_iff (t : Term) (h : (t.size : Int) ≤ 4611686018427387904) : t.rightE = 0 ↔ t.shapeB = true ∧ t.depth ≤ 60 ∧ t.size ≤ 4000 := by
 unfold Term.rightE
 rw [sizeW_eq t h, depthW_eq t h]
 by_cases hs : t.shapeB = true
 ·rw [if_pos hs]
  by_cases hd : (t.depth : Int) > 60
  ·rw [if_pos hd]; simp; omega
  ·rw [if_neg hd]
   by_cases hz : (t.size : Int) > 4000
   ·rw [if_pos hz]; simp; omega
   ·rw [if_neg hz]; simp [hs]; omega
 ·rw [if_neg hs]; simp [hs]
def ofS (s : List Bd) (v : Int) : Term := match s.find? (fun b => decide (b.v = v)) with | some b => b.t | none => .mk v (ByteArray.mk #[]) []
mutual
def Term.putS (s : List Bd) : Term → Term
 | .mk v fn args => if fn.toList = [] then ofS s v else .mk 0 fn (putSL s args)
def putSL (s : List Bd) : List Term → List Term
 | [] => []
 | t :: r => t.putS s :: putSL s r
end
theorem putSL_len (s : List Bd) : ∀ (a : List Term), (putSL s a).length = a.length
 | [] => rfl
 | t :: r => by simp [putSL, putSL_len s r]
theorem shape_var {v : Int} {fn : ByteArray} {args : List Term} (h : (Term.mk v fn args).shapeB = true) (hv : fn.toList = []) : args = [] := by
 have hn : noName fn = true := by simp [noName, hv]
 simp [Term.shapeB, rightB, hn] at h
 exact h.1.2
theorem putS_size (s : List Bd) (B : Nat) (hB : 1 ≤ B) (hs : ∀ b ∈ s, b.t.size ≤ B) (t : Term) : (t.putS s).size ≤ t.size * B := by
 refine Term.ind (p := fun t => (t.putS s).size ≤ t.size * B) (fun v fn args ih => ?_) t
 have hl : ∀ (a : List Term), (∀ x ∈ a, (x.putS s).size ≤ x.size * B) → sizeL (putSL s a) ≤ sizeL a * B := by
  intro a
  induction a with
  | nil => intro _; simp [putSL, sizeL]
  | cons x r ih2 =>
   intro h
   have h1 := h x (by simp)
   have h2 := ih2 fun z hz => h z (by simp [hz])
   simp only [putSL, sizeL, Nat.add_mul]; omega
 have h1 := hl args ih
 by_cases hv : fn.toList = []
 ·simp only [Term.putS, if_pos hv, Term.size, Nat.add_mul, Nat.one_mul]
  have : (ofS s v).size ≤ B := by
   unfold ofS
   cases hf : s.find? (fun b => decide (b.v = v)) with
   | none => simpa [Term.size, sizeL] using hB
   | some b => exact hs b (List.mem_of_find?_eq_some hf)
  omega
 ·simp only [Term.putS, if_neg hv, Term.size, Nat.add_mul, Nat.one_mul]; omega
def Term.at : Term → List Int → Option Term
 | t, [] => some t
 | .mk _ _ args, k :: p => if k < 0 then none else match args[k.toNat]? with
  | some x => x.at p
  | none => none
def Term.putAt : Term → List Int → Term → Option Term
 | _, [], s => some s
 | .mk _ fn args, k :: p, s => if k < 0 then none else match args[k.toNat]? with
  | some x => (x.putAt p s).map fun y => .mk 0 fn (args.set k.toNat y)
  | none => none
theorem depthL_mem : ∀ {a : List Term} {x : Term}, x ∈ a → x.depth ≤ depthL a
 | t :: r, x, h => by
  rcases List.mem_cons.1 h with rfl | h
  ·simp only [depthL]; omega
  ·have := depthL_mem h; simp only [depthL]; omega
theorem at_right : ∀ (p : List Int) (t x : Term), t.at p = some x → t.shapeB = true → x.shapeB = true ∧ x.depth ≤ t.depth ∧ x.size ≤ t.size
 | [], t, x, h, hs => by
  have : t = x := by cases t; simpa [Term.at] using h
  subst this; exact ⟨hs, Nat.le_refl _, Nat.le_refl _⟩
 | k :: p, .mk v fn args, x, h, hs => by
  simp only [Term.at] at h
  split at h
  ·cases h
  ·cases hg : args[k.toNat]? with
   | none => rw [hg] at h; cases h
   | some y =>
    rw [hg] at h
    have hm := List.mem_of_getElem? hg
    simp only [Term.shapeB, Bool.and_eq_true] at hs
    have := at_right p y x h (shapeBL_mem' hs.2 y hm)
    have h1 := sizeL_mem hm
    have h2 := depthL_mem hm
    simp only [Term.size, Term.depth]
    exact ⟨this.1, by omega, by omega⟩
theorem set_size : ∀ (a : List Term) (i : Nat) (y : Term), sizeL (a.set i y) ≤ sizeL a + y.size
 | [], i, y => by simp [sizeL]
 | t :: r, 0, y => by simp only [List.set_cons_zero, sizeL]; omega
 | t :: r, i + 1, y => by have := set_size r i y; simp only [List.set_cons_succ, sizeL]; omega
theorem putAt_size (s : Term) : ∀ (p : List Int) (t u : Term), t.putAt p s = some u → u.size ≤ t.size * (p.length + 1) + s.size
 | [], t, u, hu => by
  have h2 : s = u := by cases t; simpa [Term.putAt] using hu
  subst h2; omega
 | i :: p, .mk v fn args, u, hu => by
  simp only [Term.putAt] at hu
  split at hu
  ·cases hu
  ·cases hg : args[i.toNat]? with
   | none => rw [hg] at hu; cases hu
   | some y =>
    rw [hg] at hu
    simp only [Option.map_eq_some_iff] at hu
    obtain ⟨w, hw, rfl⟩ := hu
    have h1 := putAt_size s p y w hw
    have h2 := sizeL_mem (List.mem_of_getElem? hg)
    have h3 := set_size args i.toNat w
    have h4 : y.size * (p.length + 1) ≤ sizeL args * (p.length + 1) := Nat.mul_le_mul_right _ h2
    simp only [Term.size, List.length_cons, Nat.add_mul, Nat.mul_add, Nat.one_mul, Nat.mul_one] at h4 h1 ⊢
    omega
end Go.Proofs.Ytiafeijkifpfaaa.Am

/-
 Signatures as data: names and weights; names' places, which signatures are right, which name is above. No condition.
-/
namespace Go.Proofs.Ytiafeijkifpfaaa.Am
open Go
structure Sg where
 names : List ByteArray
 weights : List Int
def encS (ns : List ByteArray) : List D := ns.map .str
def encI (ws : List Int) : List D := ws.map (.int .i64)
@[simp] theorem encS_len (ns : List ByteArray) : (encS ns).length = ns.length := by simp [encS]
@[simp] theorem encI_len (ns : List Int) : (encI ns).length = ns.length := by simp [encI]
@[simp] theorem encS_get (ns : List ByteArray) (i : Nat) (h : i < (encS ns).length) : (encS ns)[i] = .str (ns[i]'(by simpa using h)) := by simp [encS]
@[simp] theorem encI_get (ns : List Int) (i : Nat) (h : i < (encI ns).length) : (encI ns)[i] = .int .i64 (ns[i]'(by simpa using h)) := by simp [encI]
def Sg.enc (g : Sg) : List D := [.sl (encS g.names) g.names.length false none, .sl (encI g.weights) g.weights.length false none]
def Sg.ok (g : Sg) : Prop := g.names.length ≤ 9223372036854775807 ∧ g.weights.length ≤ 9223372036854775807
def eqS (a b : ByteArray) : Bool := a.toList == b.toList
def idxS (ns : List ByteArray) (s : ByteArray) : Int := match ns.findIdx? (fun n => eqS n s) with | some k => k | none => -1
def dollarTrue : List UInt8 := [36, 116, 114, 117, 101]
def badN (ns : List ByteArray) (i : Nat) (n : ByteArray) : Bool := n.toList.isEmpty || decide (64 < (n.size : Int)) || (n.toList == dollarTrue) || decide (idxS ns n ≠ (i : Int))
def badW (w : Int) : Bool := decide (w < 1) || decide (1000 < w)
def anyI {α : Type} (p : Nat → α → Bool) (l : List α) (i : Nat) : Bool := (l.drop i).zipIdx i |>.any fun q => p q.2 q.1
theorem anyI_end {α : Type} (p : Nat → α → Bool) (l : List α) : anyI p l l.length = false := by simp [anyI]
theorem anyI_step {α : Type} {p : Nat → α → Bool} {l : List α} {i : Nat} (h : i < l.length) : anyI p l i = (p i l[i] || anyI p l (i + 1)) := by
 unfold anyI
 rw [List.drop_eq_getElem_cons h, List.zipIdx_cons, List.any_cons]
def Sg.right (g : Sg) : Bool :=
 !(decide (200 < (g.names.length : Int)) || decide (g.names.length < g.weights.length) || anyI (badN g.names) g.names 0 || anyI (fun _ => badW) g.weights 0)
def Sg.rank (g : Sg) (s : ByteArray) : Int := if s.toList = dollarTrue then -2 else idxS g.names s
def gtS (a b : ByteArray) : Bool := !(Op.bytesLess a.toList b.toList || a.toList == b.toList)
def Sg.above (g : Sg) (a b : ByteArray) : Bool := if g.rank a ≠ g.rank b then decide (g.rank a > g.rank b) else gtS a b
def Sg.aboveR (g : Sg) (a b : ByteArray) : Bool :=
 if a.toList = b.toList ∨ a.toList = dollarTrue then false else if b.toList = dollarTrue then true
 else if idxS g.names a < 0 ∧ idxS g.names b < 0 then gtS a b else decide (idxS g.names a > idxS g.names b)
def Sg.of (g : Sg) (s : ByteArray) : Int :=
 let i := idxS g.names s
 if s.toList = [] ∨ i < 0 ∨ (g.weights.length : Int) ≤ i then 1 else
 let w := g.weights.getD i.toNat 0
 if w < 1 ∨ 1000 < w then 1 else w
theorem idxS_lt {ns : List ByteArray} {s : ByteArray} : idxS ns s = -1 ∨ ∃ k : Nat, idxS ns s = k ∧ k < ns.length := by
 unfold idxS
 cases h : ns.findIdx? (fun n => eqS n s) with
 | none => exact .inl rfl
 | some k =>
  rw [List.findIdx?_eq_some_iff_getElem] at h
  exact .inr ⟨k, rfl, h.1⟩
end Go.Proofs.Ytiafeijkifpfaaa.Am

/-
 Data of which less is known: terms, binds, names, numbers are that already. No condition.
-/
namespace Go.Proofs.Ytiafeijkifpfaaa.Am
open Go Go.Proofs
set_option linter.unusedSimpArgs false
@[simp] theorem wkL_encL : ∀ (ts : List Term), wkL (encL ts) = encL ts
 | [] => rfl
 | .mk v fn args :: r => by simp [encL, Term.enc, wkL_encL args, wkL_encL r]
@[simp] theorem wkL_encS (l : List ByteArray) : wkL (encS l) = encS l := by induction l <;> simp_all [encS]
@[simp] theorem wkL_encI (l : List Int) : wkL (encI l) = encI l := by induction l <;> simp_all [encI]
@[simp] theorem wkL_encB : ∀ (bs : List Bd), wkL (encB bs) = encB bs
 | [] => rfl
 | ⟨x, .mk v fn args⟩ :: r => by
  have := wkL_encB r
  simp [encB] at this
  simp [encB, Bd.enc, Term.enc, this]
theorem mapD_encT (H : Hp) (n : Nat) : ∀ (l : List D), mapD (reify H n) (l.map .d) = some (l, [])
 | [] => rfl
 | x :: r => by
  have h := mapD_encT H n r
  rw [List.map_cons, mapD, h]
  cases n <;> simp [reify]
end Go.Proofs.Ytiafeijkifpfaaa.Am

/-
 A term's copy, with what is nil told: what the program's function answers. No condition.
-/
namespace Go.Proofs.Ytiafeijkifpfaaa.Am
open Go Go.Proofs
set_option maxHeartbeats 4000000
set_option linter.unusedSimpArgs false
set_option linter.unusedVariables false
def pol0 : Pol := { raw := fun f => f == 87 || f == 65 }
theorem pol0_raw (f : FuncId) : pol0.raw f = (f == 87 || f == 65) := rfl
@[simp] theorem pol0_weak (f : FuncId) : pol0.weak f = false := rfl
noncomputable abbrev C0 := acall Try.prog pol0
theorem clone_nil (H : Hp) (nx : Nat) : acall Try.prog pol0 87 [.d (.sl [] 0 false (some true))] H nx = some (.osl (nx + 3, 1) 0 0 1 0, upd (upd H (nx, 1) .vnil) (nx + 3, 1) .vnil, nx + 4) := by
 refine acall_body code87 ?_
 simp [pol0_raw, Nat.add_assoc]
theorem clone_sl (H : Hp) (nx : Nat) (cs : List D) (n : Nat) (hlen : cs.length = n * 3) (hn : n * 3 ≤ 68719476736) : acall Try.prog pol0 87 [.d (.sl cs n false (some false))] H nx = some (.osl (nx + 3, 0) 0 n 3 (n * 3), upd (upd H (nx, 1) .vnil) (nx + 3, 0) (.grow (cs.map .d)), nx + 7) := by
 refine acall_body code87 ?_
 have hn2 : ¬ 68719476736 < n * 3 := by omega
 cases cs with
 | nil =>
  obtain rfl : n = 0 := by simp at hlen; omega
  simp [pol0_raw, appendO, srcCells, srcRaw, growO, kill, Nat.add_assoc]
 | cons c cs =>
  cases n with
  | zero => simp at hlen
  | succ n =>
   simp at hlen
   simp [pol0_raw, appendO, srcCells, srcRaw, growO, kill, hlen, hn2, reify, Nat.add_assoc]
mutual
inductive Fill : Term → List D → Prop
 | mk (v : Int) (fn : ByteArray) (args : List Term) (cs : List D) (b : Bool) : FillL args cs → (args ≠ [] → b = false) → Fill (.mk v fn args) [.int .i64 v, .str fn, .sl cs args.length false (some b)]
inductive FillL : List Term → List D → Prop
 | nil : FillL [] []
 | cons (t : Term) (r : List Term) (c cs : List D) : Fill t c → FillL r cs → FillL (t :: r) (c ++ cs)
end
theorem Fill.len {t : Term} {c : List D} (h : Fill t c) : c.length = 3 := by cases h; rfl
theorem FillL.len : ∀ {ts : List Term} {cs : List D}, FillL ts cs → cs.length = ts.length * 3
 | [], _, h => by cases h; rfl
 | t :: r, _, h => by
  cases h with
  | cons _ _ c cs h1 h2 => have := FillL.len h2; have := h1.len; simp; omega
theorem FillL.at : ∀ {ts : List Term} {cs : List D}, FillL ts cs → ∀ (i : Nat) (t : Term), ts[i]? = some t → ∃ c, Fill t c ∧ (cs.drop (i * 3)).take 3 = c
 | [], _, h, i, t, hi => by simp at hi
 | u :: r, _, h, i, t, hi => by
  cases h with
  | cons _ _ c cs h1 h2 =>
   have hl := h1.len
   cases i with
   | zero => simp at hi; subst hi; exact ⟨c, h1, by simp [List.take_append, hl]⟩
   | succ i =>
    obtain ⟨c', h3, h4⟩ := FillL.at h2 i t (by simpa using hi)
    refine ⟨c', h3, ?_⟩
    rw [show (i + 1) * 3 = c.length + i * 3 by omega, List.drop_append, List.drop_of_length_le (by omega), List.nil_append, show c.length + i * 3 - c.length = i * 3 by omega]
    exact h4
theorem upd_swap {H : Hp} {a b : Oid} {x x' y : Am.Obj} (h : a ≠ b) : upd (upd (upd H a x) b y) a x' = upd (upd H a x') b y := by
 funext p
 simp only [upd]
 by_cases h1 : p = a
 ·simp [h1, h]
 ·by_cases h2 : p = b
  ·subst h2; simp [h1]
  ·simp [h1, h2]
theorem wkL_append : ∀ (a b : List D), wkL (a ++ b) = wkL a ++ wkL b
 | [], _ => rfl
 | x :: r, b => by simp [wkL_append r b]
theorem encL_append' : ∀ (a b : List Term), encL (a ++ b) = encL a ++ encL b
 | [], _ => rfl
 | t :: r, b => by simp [encL, encL_append' r b]
abbrev cloneB (v : Int) (fn : ByteArray) (cs : List D) (n : Nat) : Hp :=
 upd (upd (upd (upd (fun _ => none) (0, 0) (.cells [.d (.int .i64 v), .d (.str fn), .d (.sl cs n false (some false))])) (1, 3) .vnil) (1, 0) (.cells [.d (.int .i64 0), .d (.str (ByteArray.mk #[])), .osl (1, 3) 0 0 1 0])) (7, 1) .vnil
abbrev cloneH (v : Int) (fn : ByteArray) (cs : List D) (n : Nat) (row : List D) : Hp := upd (upd (cloneB v fn cs n) (10, 0) (.grow (row.map .d))) (0, 0) (.cells [.d (.int .i64 v), .d (.str fn), .osl (10, 0) 0 n 3 (n * 3)])
def CopyEnd (v : Int) (fn : ByteArray) (args : List Term) (cs : List D) (e : Ex) (t : St) : Prop :=
 ∃ row : List D, row.length = args.length * 3 ∧ wkL row = encL args ∧ AtExit 0 [.junk, .ptr (0, 0) 0 3, .ptr (1, 0) 0 3, .junk, .junk, .junk, .junk, .junk, .junk, .junk, .osl (10, 0) 0 args.length 3 (args.length * 3), .d (.int .i64 args.length), .d (.int .i64 args.length), .junk, .junk, .junk, .junk, .junk, .junk, .junk, .junk, .junk, .junk, .junk, .junk] (cloneH v fn cs args.length row) e t
def Copied (t : Term) (c : List D) : Prop := ∃ v fn args zs nl, t = .mk v fn args ∧ pcl C0 66 [.agg c] = some (.agg [.int .i64 v, .str fn, .sl zs args.length false (some nl)]) ∧ wkL zs = encL args
theorem copy0 (t : Term) : ∀ c, Fill t c → t.size ≤ 1048576 → Copied t c := by
 refine Term.ind (p := fun t => ∀ c, Fill t c → t.size ≤ 1048576 → Copied t c) (fun v fn args ih c hc hsz => ?_) t
 simp only [Term.size] at hsz
 cases hc with
 | mk _ _ _ cs b hf hb =>
 have hlen := hf.len
 have hall : args.length ≤ sizeL args := by
  clear ih hf hb hlen hsz
  induction args with
  | nil => simp
  | cons x r ih => have := x.size_pos; simp only [List.length_cons, sizeL]; omega
 cases b
 ·have hloop := loop_rule (P := Try.prog) (pol := pol0) (c := b66_0) (m := ⟨[false, true, true, false, false, false, false, false, false, false, true, true, true, false, false, false, false, false, false, false, false, false, false, false, true], some 18⟩)
   (b := 18) (tm := fun (s : Nat × List D) => [.junk, .ptr (0, 0) 0 3, .ptr (1, 0) 0 3, .junk, .junk, .junk, .junk, .junk, .junk, .junk, .osl (10, 0) 0 args.length 3 (args.length * 3), .d (.int .i64 args.length), .d (.int .i64 s.1), .junk, .junk, .junk, .junk, .junk, .junk, .junk, .junk, .junk, .junk, .junk, .junk]) (Hf := fun s => cloneH v fn cs args.length s.2)
   (I := fun s => s.1 ≤ args.length ∧ s.2.length = args.length * 3 ∧ wkL (s.2.take (s.1 * 3)) = encL (args.take s.1) ∧ s.2.drop (s.1 * 3) = cs.drop (s.1 * 3)) (μ := fun s => args.length - s.1) (res := fun s => ()) (R := fun _ e t => CopyEnd v fn args cs e t)
   (fun s nx hi => by
    obtain ⟨i, row⟩ := s
    obtain ⟨hi, hrl, hwk, hdr⟩ := hi
    simp only at hi hrl hwk hdr ⊢
    rcases Nat.lt_or_ge i args.length with hl | hl
    ·have hget : args[i]? = some args[i] := List.getElem?_eq_getElem hl
     obtain ⟨c, hfc, hc⟩ := hf.at i _ hget
     obtain ⟨v', fn', args', zs, znl, ht', hr, hzs⟩ := ih args[i] (List.getElem_mem hl) c hfc (by have := sizeL_mem (List.getElem_mem hl); omega)
     rw [← hdr] at hc
     have htk : args.take (i + 1) = args.take i ++ [.mk v' fn' args'] := by rw [← ht']; exact (List.take_append_getElem hl).symm
     rw [ht'] at hfc
     cases hfc with
     | mk _ _ _ cs' b' hf' hb' =>
     have hli : (i : Int) < (args.length : Int) := by omega
     have h1 : i * 3 < args.length * 3 := by omega
     have h2 : 3 ≤ args.length * 3 - i * 3 := by omega
     have h3 : i * 3 + 3 ≤ args.length * 3 := by omega
     have hw : IntKind.i64.wrap ((i : Int) + 1) = (i : Int) + 1 := wrap_i64 (by omega) (by omega)
     have hca : List.take 3 (List.drop (i * 3) (List.map AV.d row)) = [.d (.int .i64 v'), .d (.str fn'), .d (.sl cs' args'.length false (some b'))] := by
      rw [← List.map_drop, ← List.map_take, hc]; rfl
     conv => arg 9; arg 4; unfold b66_0
     simp [hli, hl, h1, h2, h3, hw, hrl, hca, pol0_raw, hr]
     have e3 : (row.take (i * 3)).length = i * 3 := by rw [List.length_take]; omega
     refine .next (i + 1, row.take (i * 3) ++ ([.int .i64 v', .str fn', .sl zs args'.length false (some znl)] ++ row.drop (i * 3 + 3))) (by omega) (by simp) ?_ ⟨hl, ?_, ?_, ?_⟩ (by simp; omega) rfl
     ·rw [upd_swap (by simp)]
      simp [cloneH, cloneB, List.map_take, List.map_drop]
     ·simp only [List.length_append, List.length_take, List.length_drop, List.length_cons, List.length_nil]; omega
     ·simp only
      rw [show (i + 1) * 3 = (row.take (i * 3)).length + 3 by omega, List.take_length_add_append, wkL_append, hwk, htk, encL_append']
      simp [encL, Term.enc, hzs]
     ·simp only
      rw [show (i + 1) * 3 = (row.take (i * 3)).length + 3 by omega, List.drop_length_add_append]
      have := congrArg (List.drop 3) hdr
      rw [List.drop_drop, List.drop_drop] at this
      simp only [List.cons_append, List.nil_append, List.drop_succ_cons, List.drop_zero]
      rw [this, show (row.take (i * 3)).length + 3 = i * 3 + 3 by omega]
    ·obtain rfl : i = args.length := Nat.le_antisymm hi hl
     simp [b66_0]
     refine .fin _ _ ⟨row, hrl, ?_, .mk⟩
     rw [List.take_of_length_le (by omega), List.take_length] at hwk
     exact hwk) (0, cs) ⟨Nat.zero_le _, hlen, by simp [encL], by simp⟩
  obtain ⟨e, st, hrun, row, hrl, hrw, rfl, nx, rfl⟩ := hloop
  simp at hrun
  refine ⟨v, fn, args, row, false, rfl, pcl_body code66 ?_, hrw⟩
  have hmd := fun H => mapD_encT H 4 row
  have htk : List.take (args.length * 3) (List.map AV.d row) = List.map AV.d row := List.take_of_length_le (by simp [hrl])
  have hc := fun H nx => clone_sl H nx cs args.length hlen (by omega)
  simp [cloneH, cloneB] at hrun
  simp [pol0_raw, hc, hrun, hmd, htk, hrl]
 ·have ha : args = [] := Classical.byContradiction fun h => by cases hb h
  subst ha
  cases hf
  refine ⟨v, fn, [], [], true, rfl, pcl_body code66 ?_, rfl⟩
  have hloop := loop_rule (P := Try.prog) (pol := pol0) (c := b66_0) (m := ⟨[false, true, true, false, false, false, false, false, false, false, true, true, true, false, false, false, false, false, false, false, false, false, false, false, true], some 15⟩)
   (b := 15) (tm := fun (s : Unit) => [.junk, .ptr (0, 0) 0 3, .ptr (1, 0) 0 3, .junk, .junk, .junk, .junk, .junk, .junk, .junk, .osl (10, 1) 0 0 1 0, .d (.int .i64 0), .d (.int .i64 0), .junk, .junk, .junk, .junk, .junk, .junk, .junk, .junk, .junk, .junk, .junk, .junk]) (Hf := fun _ => upd (upd (upd (upd (upd (upd (fun x => none) (0, 0) (.cells [.d (.int .i64 v), .d (.str fn), .d (.sl [] 0 false (some true))])) (1, 3) .vnil) (1, 0) (.cells [.d (.int .i64 0), .d (.str (ByteArray.mk #[])), .osl (1, 3) 0 0 1 0])) (7, 1) .vnil) (10, 1) .vnil) (0, 0) (.cells [.d (.int .i64 v), .d (.str fn), .osl (10, 1) 0 0 1 0]))
   (I := fun _ => True) (μ := fun _ => 0) (res := fun _ => ()) (R := fun _ e t => AtExit 0 [.junk, .ptr (0, 0) 0 3, .ptr (1, 0) 0 3, .junk, .junk, .junk, .junk, .junk, .junk, .junk, .osl (10, 1) 0 0 1 0, .d (.int .i64 0), .d (.int .i64 0), .junk, .junk, .junk, .junk, .junk, .junk, .junk, .junk, .junk, .junk, .junk, .junk] (upd (upd (upd (upd (upd (upd (fun x => none) (0, 0) (.cells [.d (.int .i64 v), .d (.str fn), .d (.sl [] 0 false (some true))])) (1, 3) .vnil) (1, 0) (.cells [.d (.int .i64 0), .d (.str (ByteArray.mk #[])), .osl (1, 3) 0 0 1 0])) (7, 1) .vnil) (10, 1) .vnil) (0, 0) (.cells [.d (.int .i64 v), .d (.str fn), .osl (10, 1) 0 0 1 0])) e t)
   (fun s nx hi => by
    simp [b66_0]
    exact .fin _ _ .mk) () trivial
  obtain ⟨e, st, hrun, rfl, nx, rfl⟩ := hloop
  simp [pol0_raw, clone_nil, hrun]
end Go.Proofs.Ytiafeijkifpfaaa.Am


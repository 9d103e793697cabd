/-
  Joined texts: AmR, AmPol, AmTerm, AmG, AmGw, AmT, AmKb, AmKbw, AmKc, AmBind, AmTp, AmKp, AmWk, AmWx, AmVa0. No condition.
-/
import Derived.Test.YtajilkmepjhkdaaGreatAmPam
import Derived.Test.YtajilkmepjhkdaaGreatRows
/-
 Arguments that a statement reads, with their bulk. No condition.
-/
namespace Go.Proofs.YtajilkmepjhkdaaGreat.Am
open Go
set_option linter.unusedVariables false
def ReadsB (P : Program) (t : TypeId) (n : Nat) {α : Type} (enc : α → List D) (wf : α → Prop) (sz : α → Nat) : Prop :=
 ∀ (H : Type) (e : TypeId × Value → H) (w : World) (base : Nat) (sp : Nat → Bool) (held : Bool) (fuel : Nat), fuel ≤ n → ∀ (cs : List Value) (d : DataW H × List MemPlace), DataW.trod e P w base sp held fuel t cs = some d →
  ∃ x : α, CD w (enc x) cs ∧ wf x ∧ sz x ≤ Rows.uptoBulk d.1
variable {P : Program} {t : TypeId} {n : Nat} {α β γ : Type}
theorem ReadsB.zero {enc : α → List D} {wf : α → Prop} {sz : α → Nat} : ReadsB P t 0 enc wf sz := by
 intro H e w base sp held fuel hf cs d h
 obtain rfl : fuel = 0 := by omega
 simp [DataW.trod] at h
theorem ReadsB.le {m : Nat} {enc : α → List D} {wf : α → Prop} {sz : α → Nat} (h : ReadsB P t n enc wf sz) (hm : m ≤ n) : ReadsB P t m enc wf sz :=
 fun H e w base sp held fuel hf => h H e w base sp held fuel (by omega)
theorem ReadsB.map {enc : α → List D} {wf : α → Prop} {sz : α → Nat} {enc' : β → List D} {wf' : β → Prop} {sz' : β → Nat} (h : ReadsB P t n enc wf sz) (g : α → β) (he : ∀ x, enc' (g x) = enc x) (hw : ∀ x, wf x → wf' (g x)) (hs : ∀ x, sz' (g x) ≤ sz x) : ReadsB P t n enc' wf' sz' := by
 intro H e w base sp held fuel hf cs d hd
 obtain ⟨x, hx, hx2, hx3⟩ := h H e w base sp held fuel hf cs d hd
 exact ⟨g x, by rw [he]; exact hx, hw x hx2, Nat.le_trans (hs x) hx3⟩
theorem bulk_pos {H : Type} (d : DataW H) : 1 ≤ Rows.uptoBulk d := by
 cases d with
 | lit l => cases l <;> simp [Rows.uptoBulk]
 | _ => simp [Rows.uptoBulk]
theorem ReadsB.int {k : IntKind} (ht : P.underlying t = some (.int k)) : ReadsB P t n (fun x : Int => [D.int k x]) (fun x => (Lit.int k x).wf = true) (fun _ => 1) := by
 intro H e w base sp held fuel hf cs d h
 obtain ⟨m, rfl, _, hw⟩ := DataW.trod_int ht h
 exact ⟨m, .one1 (.int _ _) rfl, hw, bulk_pos _⟩
theorem ReadsB.str (ht : P.underlying t = some .string) : ReadsB P t n (fun x : ByteArray => [D.str x]) (fun x => x.size ≤ maxLen) (fun _ => 1) := by
 intro H e w base sp held fuel hf cs d h
 obtain ⟨m, rfl, _, hm⟩ := DataW.trod_string ht h
 exact ⟨m, .one1 (.str _) rfl, hm, bulk_pos _⟩
theorem bulkAll_append {H : Type} (l r : List (DataW H)) : Rows.uptoBulkAll (l ++ r) = Rows.uptoBulkAll l + Rows.uptoBulkAll r := by
 induction l with
 | nil => simp [Rows.uptoBulkAll]
 | cons x l ih => simp only [List.cons_append, Rows.uptoBulkAll, ih]; omega
theorem sum_le {H : Type} {sz : α → Nat} : ∀ (xs : List α) (ds : List (DataW H)), xs.length = ds.length → (∀ (i : Nat) (x : α) (d : DataW H), xs[i]? = some x → ds[i]? = some d → sz x ≤ Rows.uptoBulk d) → (xs.map sz).sum ≤ Rows.uptoBulkAll ds
 | [], [], _, _ => by simp [Rows.uptoBulkAll]
 | [], _ :: _, h, _ => by simp at h
 | _ :: _, [], h, _ => by simp at h
 | x :: r, d :: s, h, k => by
  have h1 := k 0 x d rfl rfl
  have h2 := sum_le r s (by simpa using h) (fun i y e hy he => k (i + 1) y e (by simpa using hy) (by simpa using he))
  simp only [List.map_cons, List.sum_cons, Rows.uptoBulkAll]; omega
theorem ReadsB.slice {e0 : TypeId} {enc : α → List D} {wf : α → Prop} {sz : α → Nat} (ht : P.underlying t = some (.slice e0)) (hsz : 0 < P.cellsOf e0) (h : ReadsB P e0 n enc wf sz) :
  ReadsB P t (n + 1) (fun xs : List α => [D.sl (xs.flatMap enc) xs.length false none]) (fun xs => xs.length ≤ maxLen ∧ ∀ x ∈ xs, wf x) (fun xs => (xs.map sz).sum + 1) := by
 intro H e w base sp held fuel hf cs d hd
 rcases DataW.trod_slice ht hd with ⟨rfl, rfl⟩ | ⟨a, len, cap, elems, rest, m, rfl, rfl, rfl, hba, hlc, hcm, hel, hat, _⟩
 ·exact ⟨[], .one1 (.sl [] 0 0 false none none (fun _ => undef) (Nat.le_refl _) (fun _ => rfl) (fun j hj => by simp at hj) (fun j x hx => by simp at hx) (fun hne => absurd rfl hne) (fun b hb => by cases hb)) rfl, by simp [maxLen], bulk_pos _⟩
 ·have hone : ∀ i, i < len → ∃ x, (wf x ∧ ∀ y, elems[i]? = some y → sz x ≤ Rows.uptoBulk y.1) ∧ (enc x).length = P.cellsOf e0 ∧ ∀ k d, (enc x)[k]? = some d → ∃ v, w.cell? (a.add (i * P.cellsOf e0 + k)) = some v ∧ v.oneCell' = true ∧ RepD (· < w.heap.size) w d v := by
   intro i hi
   obtain ⟨y, hy⟩ : ∃ y, elems[i]? = some y := ⟨elems[i]'(by omega), by simp [hel, hi]⟩
   have hb := hat i hi
   rw [hy, Option.bind_eq_some_iff] at hb
   obtain ⟨cs', hc, htr⟩ := hb
   obtain ⟨x, hx, hwf, hbk⟩ := h H e w base sp held m (by omega) cs' y htr
   have hcell : cs'.length = P.cellsOf e0 ∧ ∀ k, k < P.cellsOf e0 → w.cell? ((a.add (i * P.cellsOf e0)).add k) = cs'[k]? := by
    unfold World.cells? at hc
    split at hc
    ·exact ⟨by simpa using mapM_some_length hc, fun k hk => mapM_some_get hc k k (by simp [hk])⟩
    ·cases hc
   refine ⟨x, ⟨hwf, fun y' hy' => by rw [hy] at hy'; cases hy'; exact hbk⟩, by rw [← hx.len]; exact hcell.1, fun k d hd => ?_⟩
   have hk : k < cs'.length := by rw [hx.len]; exact (List.getElem?_eq_some_iff.1 hd).1
   have hv : cs'[k]? = some (cs'.getD k undef) := by rw [List.getD_eq_getElem?_getD, List.getElem?_eq_getElem hk]; rfl
   refine ⟨cs'.getD k undef, ?_, hx.one k hk, hx.rep k d hd⟩
   rw [← add_add, hcell.2 k (by omega), hv]
  obtain ⟨xs, hxl, hx⟩ := choose_list len hone
  have hxsz : ∀ x ∈ xs, (enc x).length = P.cellsOf e0 := fun x hm => by
   obtain ⟨i, hi⟩ := List.mem_iff_getElem?.1 hm
   exact (hx i x hi).2.1
  have hget : ∀ j d, (xs.flatMap enc)[j]? = some d → ∃ v, w.cell? (a.add j) = some v ∧ v.oneCell' = true ∧ RepD (· < w.heap.size) w d v := fun j d hj => by
   obtain ⟨i, k, x, rfl, hk, hxi, hd⟩ := flatMap_at xs hxsz j d hj
   exact (hx i x hxi).2.2 k d hd
  have hgd : ∀ j, j < (xs.flatMap enc).length → ∃ v, w.cell? (a.add j) = some v ∧ v.oneCell' = true := fun j hj => by
   obtain ⟨v, h1, h2, _⟩ := hget j _ (List.getElem?_eq_getElem hj)
   exact ⟨v, h1, h2⟩
  refine ⟨xs, .one1 ?_ rfl, ⟨by omega, fun x hm => by
   obtain ⟨i, hi⟩ := List.mem_iff_getElem?.1 hm
   exact (hx i x hi).1.1⟩, ?_⟩
  ·rw [← hxl] at hlc ⊢
   refine .sl _ _ cap false none (some a) (fun j => (w.cell? (a.add j)).getD undef) hlc (fun h => by cases h) (fun j hj => ?_) (fun j d hj => ?_) (fun hne => ?_) (fun b hb => by cases hb)
   ·obtain ⟨v, h1, h2⟩ := hgd j hj
    rw [h1]; exact h2
   ·obtain ⟨v, h1, _, h3⟩ := hget j d hj
    rw [h1]; exact h3
   ·refine ⟨a, rfl, ?_, fun j hj => ?_⟩
    ·obtain ⟨v, h1, _⟩ := hgd 0 (by cases hq : xs.flatMap enc with | nil => exact absurd hq hne | cons => simp)
     have := lt_of_cell h1
     rwa [add_block] at this
    ·obtain ⟨v, h1, _⟩ := hgd j hj
     rw [h1]; rfl
  ·have := sum_le (sz := sz) xs (elems.map (·.1)) (by simp; omega) (fun i x d h1 h2 => by
    simp only [List.getElem?_map, Option.map_eq_some_iff] at h2
    obtain ⟨y, hy, rfl⟩ := h2
    exact (hx i x h1).1.2 y hy)
   simp only [Rows.uptoBulk]; omega
theorem ReadsB.struct2 {f0 f1 : Field} {s0 s1 : Nat} {e0 : α → List D} {w0 : α → Prop} {z0 : α → Nat} {e1 : β → List D} {w1 : β → Prop} {z1 : β → Nat} (ht : P.underlying t = some (.struct #[f0, f1])) (hs : P.cellsOf t = s0 + s1)
  (h0 : P.cellsOf f0.type = s0 ∧ f0.offset = 0) (h1 : P.cellsOf f1.type = s1 ∧ f1.offset = s0) (r0 : ReadsB P f0.type n e0 w0 z0) (r1 : ReadsB P f1.type n e1 w1 z1) :
  ReadsB P t (n + 1) (fun x : α × β => e0 x.1 ++ e1 x.2) (fun x => w0 x.1 ∧ w1 x.2) (fun x => z0 x.1 + z1 x.2 + 1) := by
 intro H e w base sp held fuel hf cs d hd
 obtain ⟨xs, m, rfl, rfl, hl, hn, hat⟩ := DataW.trod_struct ht hd
 match xs, hn with
 | [y0, y1], _ =>
  obtain ⟨x, hx, hwx, hb0⟩ := r0 H e w base sp held m (by omega) _ y0 (hat 0 f0 rfl)
  obtain ⟨y, hy, hwy, hb1⟩ := r1 H e w base sp held m (by omega) _ y1 (hat 1 f1 rfl)
  refine ⟨(x, y), ?_, ⟨hwx, hwy⟩, by simp only [List.map_cons, List.map_nil, Rows.uptoBulk, Rows.uptoBulkAll]; omega⟩
  rw [h0.1, h0.2] at hx
  rw [h1.1, h1.2] at hy
  have e : cs = (cs.drop 0).take s0 ++ (cs.drop s0).take s1 := by
   rw [List.drop_zero, List.take_of_length_le (l := cs.drop s0) (by simp; omega), List.take_append_drop]
  rw [e]
  exact hx.append hy
theorem ReadsB.struct3 {f0 f1 f2 : Field} {s0 s1 s2 : Nat} {e0 : α → List D} {w0 : α → Prop} {z0 : α → Nat} {e1 : β → List D} {w1 : β → Prop} {z1 : β → Nat} {e2 : γ → List D} {w2 : γ → Prop} {z2 : γ → Nat} (ht : P.underlying t = some (.struct #[f0, f1, f2])) (hs : P.cellsOf t = s0 + s1 + s2)
  (h0 : P.cellsOf f0.type = s0 ∧ f0.offset = 0) (h1 : P.cellsOf f1.type = s1 ∧ f1.offset = s0) (h2 : P.cellsOf f2.type = s2 ∧ f2.offset = s0 + s1) (r0 : ReadsB P f0.type n e0 w0 z0) (r1 : ReadsB P f1.type n e1 w1 z1) (r2 : ReadsB P f2.type n e2 w2 z2) :
  ReadsB P t (n + 1) (fun x : α × β × γ => e0 x.1 ++ e1 x.2.1 ++ e2 x.2.2) (fun x => w0 x.1 ∧ w1 x.2.1 ∧ w2 x.2.2) (fun x => z0 x.1 + z1 x.2.1 + z2 x.2.2 + 1) := by
 intro H e w base sp held fuel hf cs d hd
 obtain ⟨xs, m, rfl, rfl, hl, hn, hat⟩ := DataW.trod_struct ht hd
 match xs, hn with
 | [y0, y1, y2], _ =>
  obtain ⟨x, hx, hwx, hb0⟩ := r0 H e w base sp held m (by omega) _ y0 (hat 0 f0 rfl)
  obtain ⟨y, hy, hwy, hb1⟩ := r1 H e w base sp held m (by omega) _ y1 (hat 1 f1 rfl)
  obtain ⟨z, hz, hwz, hb2⟩ := r2 H e w base sp held m (by omega) _ y2 (hat 2 f2 rfl)
  refine ⟨(x, y, z), ?_, ⟨hwx, hwy, hwz⟩, by simp only [List.map_cons, List.map_nil, Rows.uptoBulk, Rows.uptoBulkAll]; omega⟩
  rw [h0.1, h0.2] at hx
  rw [h1.1, h1.2] at hy
  rw [h2.1, h2.2] at hz
  have e : cs = ((cs.drop 0).take s0 ++ (cs.drop s0).take s1) ++ (cs.drop (s0 + s1)).take s2 := by
   rw [List.drop_zero, List.take_of_length_le (l := cs.drop (s0 + s1)) (by simp; omega), ← List.drop_drop, List.append_assoc, List.take_append_drop, List.take_append_drop]
  rw [e]
  exact (hx.append hy).append hz
end Go.Proofs.YtajilkmepjhkdaaGreat.Am

/-
 Which functions of this seat run on the caller's objects. No condition.
-/
namespace Go.Proofs.YtajilkmepjhkdaaGreat.Am
open Go Go.Proofs
def valsOf : List (D × AV × Nat) → Option (List Int)
 | [] => some []
 | (_, .d (.int .i64 n), _) :: r => (valsOf r).map (n :: ·)
 | _ => none
def holeG (st : St) : Option (Ex × St) :=
 match st.tm with
 | y0 :: y1 :: y2 :: y3 :: y4 :: y5 :: y6 :: y7 :: y8 :: y9 :: y10 :: r =>
  match y7, y9, y10 with
  | .map o, .d (.bool false), .d (.bool false) =>
   match st.hp o with
   | some (.mp _ es c) => if r.length = 105 ∧ es.map (·.2.2) = List.range es.length ∧ es.length ≤ c then
     (valsOf es).map fun ns => (.normal, ⟨y0 :: y1 :: y2 :: y3 :: y4 :: y5 :: y6 :: y7 :: y8 :: .d (.bool (ns.any fun n => decide (0 < n))) :: .d (.bool (ns.any fun n => decide (n < 0))) :: List.replicate 105 .junk, st.hp, st.nx⟩)
    else none
   | _ => none
  | _, _, _ => none
 | _ => none
open Classical in
noncomputable def plc : Pol := { deep := fun f => if f == 29 then 70 else 6, raw := fun f => f == 74 || f == 96 || f == 75 || f == 76 || f == 78 || f == 80 || f == 77 || f == 89 || f == 70 || f == 58 || f == 73 || f == 61, weak := fun f => f == 30 || f == 29 || f == 12 || f == 88 || f == 10 || f == 42 || f == 11 || f == 8 || f == 4 || f == 40, hole := fun c => if c = h54_0 then some holeG else none }
theorem plc_hole : plc.hole h54_0 = some holeG := if_pos rfl
theorem plc_raw (f : FuncId) : plc.raw f = (f == 74 || f == 96 || f == 75 || f == 76 || f == 78 || f == 80 || f == 77 || f == 89 || f == 70 || f == 58 || f == 73 || f == 61) := rfl
@[simp] theorem plc_weak (f : FuncId) : plc.weak f = (f == 30 || f == 29 || f == 12 || f == 88 || f == 10 || f == 42 || f == 11 || f == 8 || f == 4 || f == 40) := rfl
@[simp] theorem plc_deep (f : FuncId) : plc.deep f = if f == 29 then 70 else 6 := rfl
@[simp] theorem plc_ext (f : FuncId) : plc.ext f = none := rfl
noncomputable abbrev Cp := acall Tryz.prog plc
end Go.Proofs.YtajilkmepjhkdaaGreat.Am

/-
 Terms as data of the abstract machine. No condition.
-/
namespace Go.Proofs.YtajilkmepjhkdaaGreat.Am
open Go
inductive Term where
 | mk (v : Int) (fn : ByteArray) (args : List Term)
mutual
def Term.enc : Term → List D
 | .mk v fn args => [.int .i64 v, .str fn, .sl (encL args) args.length false none]
def encL : List Term → List D
 | [] => []
 | t :: r => t.enc ++ encL r
end
theorem Term.enc_len (t : Term) : t.enc.length = 3 := by cases t; rfl
theorem encL_len : ∀ (ts : List Term), (encL ts).length = ts.length * 3
 | [] => rfl
 | t :: r => by simp [encL, Term.enc_len, encL_len r]; omega
theorem encL_at : ∀ (ts : List Term) (i : Nat) (t : Term), ts[i]? = some t → ((encL ts).drop (i * 3)).take 3 = t.enc
 | [], i, t, h => by simp at h
 | u :: r, 0, t, h => by
  simp at h; subst h
  have := u.enc_len
  simp [encL, this]
 | u :: r, i + 1, t, h => by
  have := u.enc_len
  have e := encL_at r i t (by simpa using h)
  simp only [encL]
  rw [show (i + 1) * 3 = u.enc.length + i * 3 by omega, List.drop_append, List.drop_of_length_le (by omega), List.nil_append, show u.enc.length + i * 3 - u.enc.length = i * 3 by omega]
  exact e
mutual
def Term.ok : Term → Prop
 | .mk _ _ args => args.length ≤ 9223372036854775807 ∧ okL args
def okL : List Term → Prop
 | [] => True
 | t :: r => t.ok ∧ okL r
end
theorem okL_mem : ∀ {ts : List Term}, okL ts → ∀ x ∈ ts, x.ok
 | [], _, x, hx => by simp at hx
 | t :: r, h, x, hx => by
  rcases List.mem_cons.1 hx with e | hx
  ·exact e ▸ h.1
  ·exact okL_mem h.2 x hx
theorem Term.ind {p : Term → Prop} (h : ∀ v fn args, (∀ x ∈ args, p x) → p (.mk v fn args)) (t : Term) : p t :=
 Term.rec (motive_1 := p) (motive_2 := fun l => ∀ x ∈ l, p x) h (fun x hx => by simp at hx) (fun t r ht hr x hx => by
  rcases List.mem_cons.1 hx with e | hx
  ·exact e ▸ ht
  ·exact hr x hx) t
structure At (ts : List Term) (i : Nat) (v : Int) (fn : ByteArray) (args : List Term) : Prop where
 lt : i < ts.length
 mem : Term.mk v fn args ∈ ts
 sz : (encL ts).length = ts.length * 3
 cells : ((encL ts).drop (i * 3)).take 3 = [.int .i64 v, .str fn, .sl (encL args) args.length false none]
 lti : (i : Int) < (ts.length : Int)
 ltm : i * 3 < ts.length * 3
 le3 : 3 ≤ ts.length * 3 - i * 3
 dr : ts.drop i = .mk v fn args :: ts.drop (i + 1)
 w : IntKind.i64.wrap ((i : Int) + 1) = (i : Int) + 1
 get : ts[i] = .mk v fn args
theorem at_ok {ts : List Term} (h : ts.length ≤ 9223372036854775807) {i : Nat} (hil : i < ts.length) : ∃ v fn args, At ts i v fn args := by
 obtain ⟨t, ht⟩ : ∃ t, ts[i]? = some t := ⟨ts[i], by simp [hil]⟩
 obtain ⟨v, fn, args⟩ := t
 refine ⟨v, fn, args, hil, List.mem_of_getElem? ht, encL_len ts, encL_at ts i _ ht, by omega, by omega, by omega, ?_, wrap_i64 (by omega) (by omega), by rw [List.getElem?_eq_getElem hil] at ht; exact Option.some.inj ht⟩
 rw [List.drop_eq_getElem_cons hil]
 congr 1
 rw [List.getElem?_eq_getElem hil] at ht
 exact Option.some.inj ht
mutual
def Term.sizeW : Term → Int
 | .mk _ _ args => sizeWL 1 args
def sizeWL (acc : Int) : List Term → Int
 | [] => acc
 | t :: r => sizeWL (IntKind.i64.wrap (acc + t.sizeW)) r
end
mutual
def Term.depthW : Term → Int
 | .mk _ _ args => IntKind.i64.wrap (depthWL 0 args + 1)
def depthWL (acc : Int) : List Term → Int
 | [] => acc
 | t :: r => depthWL (if t.depthW > acc then t.depthW else acc) r
end
def noName (fn : ByteArray) : Bool := fn.toList.isEmpty
def rightB (v : Int) (fn : ByteArray) (n : Nat) : Bool :=
 if noName fn then decide (0 ≤ v) && decide (v < 1000000) && decide (n = 0) else decide (v = 0) && decide ((fn.size : Int) ≤ 64) && decide ((n : Int) ≤ 16)
mutual
def Term.shapeB : Term → Bool
 | .mk v fn args => rightB v fn args.length && shapeBL args
def shapeBL : List Term → Bool
 | [] => true
 | t :: r => t.shapeB && shapeBL r
end
def all2 (p : Term → Term → Bool) : List Term → List Term → Bool
 | t :: r, u :: s => p t u && all2 p r s
 | _, _ => true
mutual
def Term.sameB : Term → Term → Bool
 | .mk v fn args, .mk v2 fn2 args2 => decide (v = v2) && (fn.toList == fn2.toList) && decide (args.length = args2.length) && sameBL args args2
def sameBL : List Term → List Term → Bool
 | t :: r, u :: s => t.sameB u && sameBL r s
 | _, _ => true
end
def Term.rightE (t : Term) : Int :=
 if t.shapeB then (if t.depthW > 60 then 22 else if t.sizeW > 4000 then 3 else 0) else 1
theorem sameBL_all2 : ∀ (ts us : List Term), sameBL ts us = all2 Term.sameB ts us
 | t :: r, u :: s => by simp [sameBL, all2, sameBL_all2 r s]
 | [], _ => by simp [sameBL, all2]
 | _ :: _, [] => by simp [sameBL, all2]
end Go.Proofs.YtajilkmepjhkdaaGreat.Am

/-
 Signatures as data: names and weights; names' places, which signatures are right, which name is above. No condition.
-/
namespace Go.Proofs.YtajilkmepjhkdaaGreat.Am
open Go
structure Sg where
 names : List ByteArray
 weights : List Int
def encS (ns : List ByteArray) : List D := ns.map .str
def encI (ws : List Int) : List D := ws.map (.int .i64)
@[simp] theorem encS_len (ns : List ByteArray) : (encS ns).length = ns.length := by simp [encS]
@[simp] theorem encI_len (ns : List Int) : (encI ns).length = ns.length := by simp [encI]
@[simp] theorem encS_get (ns : List ByteArray) (i : Nat) (h : i < (encS ns).length) : (encS ns)[i] = .str (ns[i]'(by simpa using h)) := by simp [encS]
@[simp] theorem encI_get (ns : List Int) (i : Nat) (h : i < (encI ns).length) : (encI ns)[i] = .int .i64 (ns[i]'(by simpa using h)) := by simp [encI]
def Sg.enc (g : Sg) : List D := [.sl (encS g.names) g.names.length false none, .sl (encI g.weights) g.weights.length false none]
def Sg.ok (g : Sg) : Prop := g.names.length ≤ 9223372036854775807 ∧ g.weights.length ≤ 9223372036854775807
def eqS (a b : ByteArray) : Bool := a.toList == b.toList
def idxS (ns : List ByteArray) (s : ByteArray) : Int := match ns.findIdx? (fun n => eqS n s) with | some k => k | none => -1
def dollarTrue : List UInt8 := [36, 116, 114, 117, 101]
def badN (ns : List ByteArray) (i : Nat) (n : ByteArray) : Bool := n.toList.isEmpty || decide (64 < (n.size : Int)) || (n.toList == dollarTrue) || decide (idxS ns n ≠ (i : Int))
def badW (w : Int) : Bool := decide (w < 1) || decide (1000 < w)
def anyI {α : Type} (p : Nat → α → Bool) (l : List α) (i : Nat) : Bool := (l.drop i).zipIdx i |>.any fun q => p q.2 q.1
theorem anyI_end {α : Type} (p : Nat → α → Bool) (l : List α) : anyI p l l.length = false := by simp [anyI]
theorem anyI_step {α : Type} {p : Nat → α → Bool} {l : List α} {i : Nat} (h : i < l.length) : anyI p l i = (p i l[i] || anyI p l (i + 1)) := by
 unfold anyI
 rw [List.drop_eq_getElem_cons h, List.zipIdx_cons, List.any_cons]
def Sg.right (g : Sg) : Bool :=
 !(decide (200 < (g.names.length : Int)) || decide (g.names.length < g.weights.length) || anyI (badN g.names) g.names 0 || anyI (fun _ => badW) g.weights 0)
def Sg.rank (g : Sg) (s : ByteArray) : Int := if s.toList = dollarTrue then -2 else idxS g.names s
def gtS (a b : ByteArray) : Bool := !(Op.bytesLess a.toList b.toList || a.toList == b.toList)
def Sg.above (g : Sg) (a b : ByteArray) : Bool := if g.rank a ≠ g.rank b then decide (g.rank a > g.rank b) else gtS a b
def Sg.aboveR (g : Sg) (a b : ByteArray) : Bool :=
 if a.toList = b.toList ∨ a.toList = dollarTrue then false else if b.toList = dollarTrue then true
 else if idxS g.names a < 0 ∧ idxS g.names b < 0 then gtS a b else decide (idxS g.names a > idxS g.names b)
def Sg.of (g : Sg) (s : ByteArray) : Int :=
 let i := idxS g.names s
 if s.toList = [] ∨ i < 0 ∨ (g.weights.length : Int) ≤ i then 1 else
 let w := g.weights.getD i.toNat 0
 if w < 1 ∨ 1000 < w then 1 else w
theorem idxS_lt {ns : List ByteArray} {s : ByteArray} : idxS ns s = -1 ∨ ∃ k : Nat, idxS ns s = k ∧ k < ns.length := by
 unfold idxS
 cases h : ns.findIdx? (fun n => eqS n s) with
 | none => exact .inl rfl
 | some k =>
  rw [List.findIdx?_eq_some_iff_getElem] at h
  exact .inr ⟨k, rfl, h.1⟩
end Go.Proofs.YtajilkmepjhkdaaGreat.Am

/-
 Signatures: what the program's functions and the document's compute of them, as the abstract machine runs them. No condition.
-/
namespace Go.Proofs.YtajilkmepjhkdaaGreat.Am
open Go Go.Proofs
set_option maxHeartbeats 4000000
set_option linter.unusedSimpArgs false
theorem eqS_comm (a b : ByteArray) : eqS a b = eqS b a := by unfold eqS; rw [Bool.eq_iff_iff, beq_iff_eq, beq_iff_eq]; exact ⟨Eq.symm, Eq.symm⟩
theorem sindex_ok (ns : List ByteArray) (hn : ns.length ≤ 9223372036854775807) (s : ByteArray) : pcl Cp 46 [.sl (encS ns) ns.length false none, .str s] = some (.int .i64 (idxS ns s)) := by
 have hloop := loop_rule (P := Tryz.prog) (pol := plc) (c := b46_0) (m := ⟨[true, true, false, false, true, false, false, true, true, false, false, false, false, false, false, false, false, false, false], some 4⟩)
  (b := 4) (tm := fun (i : Nat) => [.d (.sl (encS ns) ns.length false none), .d (.str s), .junk, .junk, .d (.int .i64 0), .junk, .junk, .d (.int .i64 ns.length), .d (.int .i64 i), .junk, .junk, .junk, .junk, .junk, .junk, .junk, .junk, .junk, .junk]) (Hf := fun _ => fun _ => none)
  (I := fun i => i ≤ ns.length) (μ := fun i => ns.length - i) (res := fun i => fromI (fun n => eqS n s) ns i)
  (R := fun o e t => match o with | some k => AtRet 4 (.d (.int .i64 k)) e t | none => AtExit 0 [.d (.sl (encS ns) ns.length false none), .d (.str s), .junk, .junk, .d (.int .i64 0), .junk, .junk, .d (.int .i64 ns.length), .d (.int .i64 ns.length), .junk, .junk, .junk, .junk, .junk, .junk, .junk, .junk, .junk, .junk] (fun _ => none) e t)
  (fun i nx hi => by
   conv => arg 9; arg 4; unfold b46_0
   rcases Nat.lt_or_ge i ns.length with hl | hl
   ·have hw : IntKind.i64.wrap ((i : Int) + 1) = (i : Int) + 1 := wrap_i64 (by omega) (by omega)
    simp [hl, hw]
    simp only [condP_ite]
    split <;> simp only [holdE] <;> simp [*]
    ·rename_i hq
     exact .fin _ _ (by rw [fromI_step hl, if_pos (by simp [eqS, hq])]; exact ⟨rfl, rfl⟩)
    ·rename_i hq
     exact .next (i + 1) (by omega) rfl rfl hl (by omega) (by rw [fromI_step hl, if_neg (by simp only [eqS, beq_iff_eq]; exact fun e => hq e.symm)])
   ·obtain rfl : i = ns.length := Nat.le_antisymm hi hl
    simp
    exact .fin _ _ (by rw [fromI_end]; exact .mk)) 0 (Nat.zero_le _)
 obtain ⟨e, t, h1, h2⟩ := hloop
 refine pcl_body code46 ?_
 simp [fromI_zero] at h1 h2
 simp [h1]
 unfold idxS
 revert h2
 cases ns.findIdx? (fun n => eqS n s) with
 | some k => rintro ⟨rfl, h⟩; simp [h]
 | none => rintro ⟨rfl, nx, rfl⟩; simp
theorem rat_ok (ns : List ByteArray) (ws : List Int) (hn : ns.length ≤ 9223372036854775807) (s : ByteArray) : pcl Cp 39 [.agg [.sl (encS ns) ns.length false none, .sl (encI ws) ws.length false none], .str s] = some (.int .i64 (idxS ns s)) := by
 have hloop := loop_rule (P := Tryz.prog) (pol := plc) (c := b39_0) (m := ⟨[false, true, true, false, true, true, false, false, false, false, false, false, false, false, false, false, false, false, false, false, false], some 3⟩)
  (b := 3) (tm := fun (i : Nat) => [.junk, .d (.str s), .ptr (0, 0) 0 2, .junk, .d (.int .i64 0), .d (.int .i64 i), .junk, .junk, .junk, .junk, .junk, .junk, .junk, .junk, .junk, .junk, .junk, .junk, .junk, .junk, .junk]) (Hf := fun _ => upd (fun _ => none) (0, 0) (.cells [.d (.sl (encS ns) ns.length false none), .d (.sl (encI ws) ws.length false none)]))
  (I := fun i => i ≤ ns.length) (μ := fun i => ns.length - i) (res := fun i => fromI (fun n => eqS n s) ns i)
  (R := fun o e t => match o with | some k => AtRet 4 (.d (.int .i64 k)) e t | none => AtExit 0 [.junk, .d (.str s), .ptr (0, 0) 0 2, .junk, .d (.int .i64 0), .d (.int .i64 ns.length), .junk, .junk, .junk, .junk, .junk, .junk, .junk, .junk, .junk, .junk, .junk, .junk, .junk, .junk, .junk] (upd (fun _ => none) (0, 0) (.cells [.d (.sl (encS ns) ns.length false none), .d (.sl (encI ws) ws.length false none)])) e t)
  (fun i nx hi => by
   conv => arg 9; arg 4; unfold b39_0
   rcases Nat.lt_or_ge i ns.length with hl | hl
   ·have hw : IntKind.i64.wrap ((i : Int) + 1) = (i : Int) + 1 := wrap_i64 (by omega) (by omega)
    simp [hl, hw]
    simp only [condP_ite]
    split <;> simp only [holdE] <;> simp [*]
    ·exact .fin _ _ (by rw [fromI_step hl]; simp [eqS, *, AtRet])
    ·exact .next (i + 1) (by omega) rfl rfl hl (by omega) (by simp only [fromI_step hl]; simp [eqS, *])
   ·obtain rfl : i = ns.length := Nat.le_antisymm hi hl
    simp
    exact .fin _ _ (by rw [fromI_end]; exact .mk)) 0 (Nat.zero_le _)
 obtain ⟨e, t, h1, h2⟩ := hloop
 refine pcl_body code39 ?_
 simp [fromI_zero] at h1 h2
 simp [h1]
 unfold idxS
 revert h2
 cases ns.findIdx? (fun n => eqS n s) with
 | some k => rintro ⟨rfl, h⟩; simp [h]
 | none => rintro ⟨rfl, nx, rfl⟩; simp
theorem rank_ok (g : Sg) (hg : g.ok) (s : ByteArray) : pcl Cp 91 [.agg g.enc, .str s] = some (.int .i64 (g.rank s)) := by
 have h := sindex_ok g.names hg.1 s
 refine pcl_body code91 ?_
 simp [Sg.enc, plc_raw, h]
 repeat' ((try simp only [condP_ite]); split <;> (try simp only [holdE]) <;> (try simp [*, plc_raw]))
 all_goals simp_all [Sg.rank, dollarTrue]
theorem above_ok (g : Sg) (hg : g.ok) (a b : ByteArray) : pcl Cp 83 [.agg g.enc, .str a, .str b] = some (.bool (g.above a b)) := by
 have h1 := rank_ok g hg a
 have h2 := rank_ok g hg b
 refine pcl_body code83 ?_
 simp [Sg.enc] at h1 h2
 simp [Sg.enc, plc_raw, h1, h2]
 repeat' ((try simp only [condP_ite]); split <;> (try simp only [holdE]) <;> (try simp [*, plc_raw]))
 all_goals simp_all [Sg.above, gtS]
theorem rabove_ok (g : Sg) (hg : g.ok) (a b : ByteArray) : pcl Cp 103 [.agg g.enc, .str a, .str b] = some (.bool (g.aboveR a b)) := by
 have h1 := rat_ok g.names g.weights hg.1 a
 have h2 := rat_ok g.names g.weights hg.1 b
 refine pcl_body code103 ?_
 simp [Sg.enc, plc_raw, h1, h2]
 repeat' ((try simp only [condP_ite]); split <;> (try simp only [holdE]) <;> (try simp [*, plc_raw]))
 all_goals simp_all [Sg.aboveR, gtS, dollarTrue]
 all_goals (first | omega | grind)
theorem of_ok (g : Sg) (hg : g.ok) (s : ByteArray) : pcl Cp 90 [.agg g.enc, .str s] = some (.int .i64 (g.of s)) := by
 have h1 := sindex_ok g.names hg.1 s
 refine pcl_body code90 ?_
 simp [Sg.enc, plc_raw, h1]
 rcases idxS_lt (ns := g.names) (s := s) with hi | ⟨k, hi, hk⟩
 ·simp [hi]
  repeat' ((try simp only [condP_ite]); split <;> (try simp only [holdE]) <;> (try simp [*, plc_raw]))
  all_goals simp_all [Sg.of]
 ·simp [hi]
  by_cases hw : k < g.weights.length
  ·have hw' : ¬ (g.weights.length : Int) ≤ (k : Int) := by omega
   repeat' ((try simp only [condP_ite]); split <;> (try simp only [holdE]) <;> (try simp [*, plc_raw]))
   all_goals simp_all [Sg.of]
   all_goals (first | omega | grind)
  ·have hw' : (g.weights.length : Int) ≤ (k : Int) := by omega
   repeat' ((try simp only [condP_ite]); split <;> (try simp only [holdE]) <;> (try simp [*, plc_raw]))
   all_goals simp_all [Sg.of]
   all_goals (first | omega | grind)
abbrev sgH (g : Sg) : Hp := upd (fun _ => none) (0, 0) (.cells [.d (.sl (encS g.names) g.names.length false none), .d (.sl (encI g.weights) g.weights.length false none)])
theorem gright_ok (g : Sg) (hg : g.ok) : pcl Cp 23 [.agg g.enc] = some (.int .i64 (if g.right then 0 else 1)) := by
 have hloop := fun w => loop_rule (P := Tryz.prog) (pol := plc) (c := b23_1) (m := ⟨[false, true, true, true, false, false, false, true, false, false, false, false, false, false, false, false, false, false, false, false, false, false, true, true, true, false, false, false, false, false, false, false, false, false, false, false, false, false, false, false, false, false, false, false, false, false, false, false, false, false, false, false, true, true, true, true, true, true, true, true, true, true, true, true, true, true, true, true, true, true], some 20⟩)
  (b := 20) (tm := fun (s : Nat × Bool) => [.junk, .ptr (0, 0) 0 2, .d (.int .i64 0), .d (.bool s.2), .junk, .junk, .junk, .junk, .junk, .junk, .junk, .junk, .junk, .junk, .junk, .junk, .junk, .junk, .junk, .junk, .junk, .junk, .d (.sl (encS g.names) g.names.length false none), .d (.int .i64 g.names.length), .d (.int .i64 s.1), .junk, .junk, .junk, .junk, .junk, .junk, .junk, .junk, .junk, .junk, .junk, .junk, .junk, .junk, .junk, .junk, .junk, .junk, .junk, .junk, .junk, .junk, .junk, .junk, .junk, .junk, .junk, .junk, .junk, .junk, .junk, .junk, .junk, .junk, .junk, .junk, .junk, .junk, .junk, .junk, .junk, .junk, .junk, .junk, .junk]) (Hf := fun _ => sgH g)
  (I := fun s => s.1 ≤ g.names.length) (μ := fun s => g.names.length - s.1) (res := fun s => s.2 || anyI (badN g.names) g.names s.1)
  (R := fun r e t => AtExit 0 [.junk, .ptr (0, 0) 0 2, .d (.int .i64 0), .d (.bool r), .junk, .junk, .junk, .junk, .junk, .junk, .junk, .junk, .junk, .junk, .junk, .junk, .junk, .junk, .junk, .junk, .junk, .junk, .d (.sl (encS g.names) g.names.length false none), .d (.int .i64 g.names.length), .d (.int .i64 g.names.length), .junk, .junk, .junk, .junk, .junk, .junk, .junk, .junk, .junk, .junk, .junk, .junk, .junk, .junk, .junk, .junk, .junk, .junk, .junk, .junk, .junk, .junk, .junk, .junk, .junk, .junk, .junk, .junk, .junk, .junk, .junk, .junk, .junk, .junk, .junk, .junk, .junk, .junk, .junk, .junk, .junk, .junk, .junk, .junk, .junk] (sgH g) e t)
  (fun s nx hi => by
   obtain ⟨i, w⟩ := s
   conv => arg 9; arg 4; unfold b23_1
   rcases Nat.lt_or_ge i g.names.length with hl | hl
   ·have hlt := hg.1
    have hw : IntKind.i64.wrap ((i : Int) + 1) = (i : Int) + 1 := wrap_i64 (by omega) (by omega)
    have hidx := sindex_ok g.names hlt g.names[i]
    simp [hl, hw, plc_raw, hidx]
    repeat' ((try simp only [condP_ite]); split <;> (try simp only [holdE]) <;> (try simp [*, plc_raw]))
    all_goals exact .next (i + 1, w || badN g.names i g.names[i]) (by omega) (by simp_all [badN, dollarTrue]; try omega) rfl hl (by simp; omega) (by simp [anyI_step hl, Bool.or_assoc, *])
   ·obtain rfl : i = g.names.length := Nat.le_antisymm hi hl
    simp
    exact .fin _ _ (by simp only [anyI_end, Bool.or_false]; exact .mk)) (0, w) (Nat.zero_le _)
 have hloop2 := fun w k => loop_rule (P := Tryz.prog) (pol := plc) (c := b23_0) (m := ⟨[false, false, true, true, false, false, false, false, false, false, false, false, false, false, false, false, false, false, false, false, false, false, false, false, false, false, false, false, false, false, false, false, false, false, false, false, false, false, false, false, false, false, false, false, false, false, false, false, false, false, false, false, false, true, true, true, false, false, false, false, false, false, false, false, false, false, false, false, false, true], some (k + 4)⟩)
  (b := k + 4) (tm := fun (s : Nat × Bool) => [.junk, .junk, .d (.int .i64 0), .d (.bool s.2), .junk, .junk, .junk, .junk, .junk, .junk, .junk, .junk, .junk, .junk, .junk, .junk, .junk, .junk, .junk, .junk, .junk, .junk, .junk, .junk, .junk, .junk, .junk, .junk, .junk, .junk, .junk, .junk, .junk, .junk, .junk, .junk, .junk, .junk, .junk, .junk, .junk, .junk, .junk, .junk, .junk, .junk, .junk, .junk, .junk, .junk, .junk, .junk, .junk, .d (.sl (encI g.weights) g.weights.length false none), .d (.int .i64 g.weights.length), .d (.int .i64 s.1), .junk, .junk, .junk, .junk, .junk, .junk, .junk, .junk, .junk, .junk, .junk, .junk, .junk, .junk]) (Hf := fun _ => sgH g)
  (I := fun s => s.1 ≤ g.weights.length) (μ := fun s => g.weights.length - s.1) (res := fun s => s.2 || anyI (fun _ => badW) g.weights s.1)
  (R := fun r e t => AtExit 2 [.junk, .junk, .d (.int .i64 0), .d (.bool r), .junk, .junk, .junk, .junk, .junk, .junk, .junk, .junk, .junk, .junk, .junk, .junk, .junk, .junk, .junk, .junk, .junk, .junk, .junk, .junk, .junk, .junk, .junk, .junk, .junk, .junk, .junk, .junk, .junk, .junk, .junk, .junk, .junk, .junk, .junk, .junk, .junk, .junk, .junk, .junk, .junk, .junk, .junk, .junk, .junk, .junk, .junk, .junk, .junk, .d (.sl (encI g.weights) g.weights.length false none), .d (.int .i64 g.weights.length), .d (.int .i64 g.weights.length), .junk, .junk, .junk, .junk, .junk, .junk, .junk, .junk, .junk, .junk, .junk, .junk, .junk, .junk] (sgH g) e t)
  (fun s nx hi => by
   clear hloop
   obtain ⟨i, w⟩ := s
   conv => arg 9; arg 4; unfold b23_0
   rcases Nat.lt_or_ge i g.weights.length with hl | hl
   ·have hlt := hg.2
    have hw : IntKind.i64.wrap ((i : Int) + 1) = (i : Int) + 1 := wrap_i64 (by omega) (by omega)
    simp [hl, hw, plc_raw]
    repeat' ((try simp only [condP_ite]); split <;> (try simp only [holdE]) <;> (try simp [*, plc_raw]))
    all_goals exact .next (i + 1, w || badW g.weights[i]) (by omega) (by simp_all [badW]; try omega) (by simp) hl (by simp; omega) (by simp [anyI_step hl, Bool.or_assoc, *])
   ·obtain rfl : i = g.weights.length := Nat.le_antisymm hi hl
    simp
    exact .fin _ _ (by simp only [anyI_end, Bool.or_false]; exact .mk)) (0, w) (Nat.zero_le _)
 obtain ⟨e1, t1, hrun1, rfl, nx1, rfl⟩ := hloop true
 obtain ⟨e2, t2, hrun2, rfl, nx2, rfl⟩ := hloop (decide (g.names.length < g.weights.length))
 obtain ⟨e3, t3, hrun3, rfl, nx3, rfl⟩ := hloop2 true nx1
 obtain ⟨e4, t4, hrun4, rfl, nx4, rfl⟩ := hloop2 (decide (g.names.length < g.weights.length) || anyI (badN g.names) g.names 0) nx2
 simp at hrun1 hrun2 hrun3 hrun4
 refine pcl_body code23 ?_
 simp [Sg.enc]
 repeat' ((try simp only [condP_ite]); split <;> (try simp only [holdE]) <;> (try simp [*, plc_raw]))
 all_goals (clear hloop hloop2 hrun1 hrun2 hrun3 hrun4; simp_all [Sg.right]; try grind)
theorem size_nil (b : ByteArray) : ((b.size : Int) < 1) ↔ b.toList = [] := by
 rw [ByteArray.toList_eq]
 have : b.data.toList.length = b.size := rfl
 constructor
 ·intro h; exact List.eq_nil_of_length_eq_zero (by omega)
 ·intro h; rw [h] at this; simp at this; omega
theorem grright_ok (g : Sg) (hg : g.ok) : pcl Cp 17 [.agg g.enc] = some (.bool g.right) := by
 have hloop := loop_rule (P := Tryz.prog) (pol := plc) (c := b17_1) (m := ⟨[false, true, true, true, true, false, false, false, false, false, false, false, false, false, false, false, false, false, false, false, false, false, false, false, false, false, false, false, false, false, false, false, false, false, false, false, false, false, false, false, false, false, false, false, false, false, false, false, false, false, false, false, false, false, false, false, false, false, false, false, true, true, true, true, true, true, true, true, true, true, true, true, true, true, true, true, true, true, true, true, true], some 16⟩)
  (b := 16) (tm := fun (i : Nat) => [.junk, .ptr (0, 0) 0 2, .d (.bool false), .d (.int .i64 i), .junk, .junk, .junk, .junk, .junk, .junk, .junk, .junk, .junk, .junk, .junk, .junk, .junk, .junk, .junk, .junk, .junk, .junk, .junk, .junk, .junk, .junk, .junk, .junk, .junk, .junk, .junk, .junk, .junk, .junk, .junk, .junk, .junk, .junk, .junk, .junk, .junk, .junk, .junk, .junk, .junk, .junk, .junk, .junk, .junk, .junk, .junk, .junk, .junk, .junk, .junk, .junk, .junk, .junk, .junk, .junk, .junk, .junk, .junk, .junk, .junk, .junk, .junk, .junk, .junk, .junk, .junk, .junk, .junk, .junk, .junk, .junk, .junk, .junk, .junk, .junk, .junk]) (Hf := fun _ => sgH g)
  (I := fun i => i ≤ g.names.length) (μ := fun i => g.names.length - i) (res := fun i => anyI (badN g.names) g.names i)
  (R := fun r e t => if r then AtRet 2 (.d (.bool false)) e t else AtExit 0 [.junk, .ptr (0, 0) 0 2, .d (.bool false), .d (.int .i64 g.names.length), .junk, .junk, .junk, .junk, .junk, .junk, .junk, .junk, .junk, .junk, .junk, .junk, .junk, .junk, .junk, .junk, .junk, .junk, .junk, .junk, .junk, .junk, .junk, .junk, .junk, .junk, .junk, .junk, .junk, .junk, .junk, .junk, .junk, .junk, .junk, .junk, .junk, .junk, .junk, .junk, .junk, .junk, .junk, .junk, .junk, .junk, .junk, .junk, .junk, .junk, .junk, .junk, .junk, .junk, .junk, .junk, .junk, .junk, .junk, .junk, .junk, .junk, .junk, .junk, .junk, .junk, .junk, .junk, .junk, .junk, .junk, .junk, .junk, .junk, .junk, .junk, .junk] (sgH g) e t)
  (fun i nx hi => by
   conv => arg 9; arg 4; unfold b17_1
   rcases Nat.lt_or_ge i g.names.length with hl | hl
   ·have hlt := hg.1
    have hw : IntKind.i64.wrap ((i : Int) + 1) = (i : Int) + 1 := wrap_i64 (by omega) (by omega)
    have hidx := rat_ok g.names g.weights hlt g.names[i]
    have hz := size_nil g.names[i]
    simp [hl, hw, plc_raw, hidx]
    repeat' ((try simp only [condP_ite]); split <;> (try simp only [holdE]) <;> (try simp [*, plc_raw]))
    all_goals first
     | exact .fin _ _ (by rw [anyI_step hl, if_pos (by simp_all [badN, dollarTrue])]; exact ⟨rfl, rfl⟩)
     | (exfalso; simp_all; done)
     | exact .next (i + 1) (by omega) rfl rfl hl (by omega) (by rw [anyI_step hl]; simp_all [badN, dollarTrue]; try omega)
   ·obtain rfl : i = g.names.length := Nat.le_antisymm hi hl
    simp
    exact .fin _ _ (by rw [anyI_end]; exact .mk)) 0 (Nat.zero_le _)
 obtain ⟨e1, t1, hrun1, hR⟩ := hloop
 simp at hrun1
 refine pcl_body code17 ?_
 simp [Sg.enc]
 cases ha : anyI (badN g.names) g.names 0 <;> simp only [ha, Bool.false_eq_true, if_true, if_false] at hR
 ·obtain ⟨rfl, nx1, rfl⟩ := hR
  have hloop2 := loop_rule (P := Tryz.prog) (pol := plc) (c := b17_0) (m := ⟨[false, true, true, false, true, false, false, false, false, false, false, false, false, false, false, false, false, false, false, false, false, false, false, false, false, false, false, false, false, false, false, false, false, false, false, false, false, false, false, false, false, false, false, false, false, false, false, false, false, false, false, false, false, false, false, false, false, false, false, false, false, false, false, false, false, false, false, false, false, false, false, false, false, false, false, false, false, false, false, false, false], some (nx1 + 1)⟩)
   (b := nx1 + 1) (tm := fun (i : Nat) => [.junk, .ptr (0, 0) 0 2, .d (.bool false), .junk, .d (.int .i64 i), .junk, .junk, .junk, .junk, .junk, .junk, .junk, .junk, .junk, .junk, .junk, .junk, .junk, .junk, .junk, .junk, .junk, .junk, .junk, .junk, .junk, .junk, .junk, .junk, .junk, .junk, .junk, .junk, .junk, .junk, .junk, .junk, .junk, .junk, .junk, .junk, .junk, .junk, .junk, .junk, .junk, .junk, .junk, .junk, .junk, .junk, .junk, .junk, .junk, .junk, .junk, .junk, .junk, .junk, .junk, .junk, .junk, .junk, .junk, .junk, .junk, .junk, .junk, .junk, .junk, .junk, .junk, .junk, .junk, .junk, .junk, .junk, .junk, .junk, .junk, .junk]) (Hf := fun _ => sgH g)
   (I := fun i => i ≤ g.weights.length) (μ := fun i => g.weights.length - i) (res := fun i => anyI (fun _ => badW) g.weights i)
   (R := fun r e t => if r then AtRet 2 (.d (.bool false)) e t else AtExit 2 [.junk, .ptr (0, 0) 0 2, .d (.bool false), .junk, .d (.int .i64 g.weights.length), .junk, .junk, .junk, .junk, .junk, .junk, .junk, .junk, .junk, .junk, .junk, .junk, .junk, .junk, .junk, .junk, .junk, .junk, .junk, .junk, .junk, .junk, .junk, .junk, .junk, .junk, .junk, .junk, .junk, .junk, .junk, .junk, .junk, .junk, .junk, .junk, .junk, .junk, .junk, .junk, .junk, .junk, .junk, .junk, .junk, .junk, .junk, .junk, .junk, .junk, .junk, .junk, .junk, .junk, .junk, .junk, .junk, .junk, .junk, .junk, .junk, .junk, .junk, .junk, .junk, .junk, .junk, .junk, .junk, .junk, .junk, .junk, .junk, .junk, .junk, .junk] (sgH g) e t)
   (fun i nx hi => by
    clear hrun1
    conv => arg 9; arg 4; unfold b17_0
    rcases Nat.lt_or_ge i g.weights.length with hl | hl
    ·have hlt := hg.2
     have hw : IntKind.i64.wrap ((i : Int) + 1) = (i : Int) + 1 := wrap_i64 (by omega) (by omega)
     simp [hl, hw, plc_raw]
     repeat' ((try simp only [condP_ite]); split <;> (try simp only [holdE]) <;> (try simp [*, plc_raw]))
     all_goals first
      | exact .fin _ _ (by rw [anyI_step hl, if_pos (by simp_all [badW])]; exact ⟨rfl, rfl⟩)
      | (exfalso; simp_all; done)
      | exact .next (i + 1) (by omega) rfl (by simp) hl (by omega) (by rw [anyI_step hl]; simp_all [badW]; try omega)
    ·obtain rfl : i = g.weights.length := Nat.le_antisymm hi hl
     simp
     exact .fin _ _ (by rw [anyI_end]; exact .mk)) 0 (Nat.zero_le _)
  obtain ⟨e2, t2, hrun2, hR2⟩ := hloop2
  simp at hrun2
  cases hb : anyI (fun _ => badW) g.weights 0 <;> simp only [hb, Bool.false_eq_true, if_true, if_false] at hR2
  ·obtain ⟨rfl, nx2, rfl⟩ := hR2
   repeat' ((try simp only [condP_ite]); split <;> (try simp only [holdE]) <;> (try simp [*, plc_raw]))
   all_goals (clear hrun1 hrun2; simp_all [Sg.right]; try grind)
  ·obtain ⟨rfl, hv⟩ := hR2
   repeat' ((try simp only [condP_ite]); split <;> (try simp only [holdE]) <;> (try simp [*, plc_raw]))
   all_goals (clear hrun1 hrun2; simp_all [Sg.right]; try grind)
 ·obtain ⟨rfl, hv⟩ := hR
  repeat' ((try simp only [condP_ite]); split <;> (try simp only [holdE]) <;> (try simp [*, plc_raw]))
  all_goals (clear hrun1; simp_all [Sg.right]; try grind)
end Go.Proofs.YtajilkmepjhkdaaGreat.Am

/-
 Terms: what the program's functions and the document's compute of them, as the abstract machine runs them. No condition.
-/
namespace Go.Proofs.YtajilkmepjhkdaaGreat.Am
open Go Go.Proofs
set_option maxHeartbeats 4000000
set_option linter.unusedSimpArgs false
def termH (v : Int) (fn : ByteArray) (args : List Term) : Hp := upd (fun _ => none) (0, 0) (.cells [.d (.int .i64 v), .d (.str fn), .d (.sl (encL args) args.length false none)])
theorem size_loop (ts : List Term) (hn : ts.length ≤ 9223372036854775807) (H : Hp) (hH : below 7 H = H) (hrec : ∀ x ∈ ts, pcl Cp 45 [.agg x.enc] = some (.int .i64 x.sizeW)) :
  ∃ e t, aloop Tryz.prog plc b45_0 ⟨[false, false, true, true, false, false, false, true, true, true, false, false, false, false, false, false, false, false, true], some 7⟩ ⟨[.junk, .junk, .d (.int .i64 0), .d (.int .i64 1), .junk, .junk, .junk, .d (.sl (encL ts) ts.length false none), .d (.int .i64 ts.length), .d (.int .i64 0), .junk, .junk, .junk, .junk, .junk, .junk, .junk, .junk, .junk], H, 7⟩ = some (e, t) ∧
   AtExit 0 [.junk, .junk, .d (.int .i64 0), .d (.int .i64 (sizeWL 1 ts)), .junk, .junk, .junk, .d (.sl (encL ts) ts.length false none), .d (.int .i64 ts.length), .d (.int .i64 ts.length), .junk, .junk, .junk, .junk, .junk, .junk, .junk, .junk, .junk] H e t := by
 refine loop_rule (b := 7) (tm := fun (s : Nat × Int) => [.junk, .junk, .d (.int .i64 0), .d (.int .i64 s.2), .junk, .junk, .junk, .d (.sl (encL ts) ts.length false none), .d (.int .i64 ts.length), .d (.int .i64 s.1), .junk, .junk, .junk, .junk, .junk, .junk, .junk, .junk, .junk]) (Hf := fun _ => H)
  (I := fun s => s.1 ≤ ts.length) (μ := fun s => ts.length - s.1) (res := fun s => sizeWL s.2 (ts.drop s.1)) (R := fun r => AtExit 0 [.junk, .junk, .d (.int .i64 0), .d (.int .i64 r), .junk, .junk, .junk, .d (.sl (encL ts) ts.length false none), .d (.int .i64 ts.length), .d (.int .i64 ts.length), .junk, .junk, .junk, .junk, .junk, .junk, .junk, .junk, .junk] H) (fun s nx hi => ?_) (0, 1) (Nat.zero_le _)
 obtain ⟨i, acc⟩ := s
 rcases Nat.lt_or_ge i ts.length with hl | hl
 ·obtain ⟨v, fn, args, a⟩ := at_ok hn hl
  have hcall := hrec _ a.mem
  simp [Term.enc] at hcall
  conv => arg 9; arg 4; unfold b45_0
  simp [a.lti, a.sz, a.ltm, a.cells, a.le3, plc_raw, hcall, a.w, hH]
  exact .next (i + 1, IntKind.i64.wrap (acc + (Term.mk v fn args).sizeW)) (by omega) rfl rfl hl (by simp; omega) (by simp only [a.dr, sizeWL])
 ·obtain rfl : i = ts.length := Nat.le_antisymm hi hl
  simp [b45_0, hH]
  exact .fin _ _ (by simp [sizeWL]; exact .mk)
theorem size_ok (t : Term) : t.ok → pcl Cp 45 [.agg t.enc] = some (.int .i64 t.sizeW) := by
 refine Term.ind (p := fun t => t.ok → pcl Cp 45 [.agg t.enc] = some (.int .i64 t.sizeW)) (fun v fn args ih h => ?_) t
 obtain ⟨e, t, hrun, rfl, nx, rfl⟩ := size_loop args h.1 (termH v fn args) (by simp [termH]) (fun x hx => ih x hx (okL_mem h.2 x hx))
 refine pcl_body code45 ?_
 simp [Term.enc, termH] at hrun ⊢
 simp [hrun, Term.sizeW]
theorem rsize_loop (v0 : Int) (fn0 : ByteArray) (ts : List Term) (hn : ts.length ≤ 9223372036854775807) (hrec : ∀ x ∈ ts, pcl Cp 21 [.agg x.enc] = some (.int .i64 x.sizeW)) :
  ∃ e t, aloop Tryz.prog plc b21_0 ⟨[false, true, true, true, true, false, false, false, false, false, false, false, false, false, false, false, false, false, false, false, true], some 4⟩ ⟨[.junk, .ptr (0, 0) 0 3, .d (.int .i64 0), .d (.int .i64 1), .d (.int .i64 0), .junk, .junk, .junk, .junk, .junk, .junk, .junk, .junk, .junk, .junk, .junk, .junk, .junk, .junk, .junk, .junk], termH v0 fn0 ts, 4⟩ = some (e, t) ∧
   AtExit 0 [.junk, .ptr (0, 0) 0 3, .d (.int .i64 0), .d (.int .i64 (sizeWL 1 ts)), .d (.int .i64 ts.length), .junk, .junk, .junk, .junk, .junk, .junk, .junk, .junk, .junk, .junk, .junk, .junk, .junk, .junk, .junk, .junk] (termH v0 fn0 ts) e t := by
 refine loop_rule (b := 4) (tm := fun (s : Nat × Int) => [.junk, .ptr (0, 0) 0 3, .d (.int .i64 0), .d (.int .i64 s.2), .d (.int .i64 s.1), .junk, .junk, .junk, .junk, .junk, .junk, .junk, .junk, .junk, .junk, .junk, .junk, .junk, .junk, .junk, .junk]) (Hf := fun _ => termH v0 fn0 ts)
  (I := fun s => s.1 ≤ ts.length) (μ := fun s => ts.length - s.1) (res := fun s => sizeWL s.2 (ts.drop s.1)) (R := fun r => AtExit 0 [.junk, .ptr (0, 0) 0 3, .d (.int .i64 0), .d (.int .i64 r), .d (.int .i64 ts.length), .junk, .junk, .junk, .junk, .junk, .junk, .junk, .junk, .junk, .junk, .junk, .junk, .junk, .junk, .junk, .junk] (termH v0 fn0 ts)) (fun s nx hi => ?_) (0, 1) (Nat.zero_le _)
 obtain ⟨i, acc⟩ := s
 rcases Nat.lt_or_ge i ts.length with hl | hl
 ·obtain ⟨v, fn, args, a⟩ := at_ok hn hl
  have hcall := hrec _ a.mem
  simp [Term.enc] at hcall
  conv => arg 9; arg 4; unfold b21_0
  simp [a.lti, a.sz, a.ltm, a.cells, a.le3, plc_raw, hcall, a.w, termH]
  exact .next (i + 1, IntKind.i64.wrap (acc + (Term.mk v fn args).sizeW)) (by omega) rfl rfl hl (by simp; omega) (by simp only [a.dr, sizeWL])
 ·obtain rfl : i = ts.length := Nat.le_antisymm hi hl
  simp [b21_0, termH]
  exact .fin _ _ (by simp [sizeWL, termH]; exact .mk)
theorem rsize_ok (t : Term) : t.ok → pcl Cp 21 [.agg t.enc] = some (.int .i64 t.sizeW) := by
 refine Term.ind (p := fun t => t.ok → pcl Cp 21 [.agg t.enc] = some (.int .i64 t.sizeW)) (fun v fn args ih h => ?_) t
 obtain ⟨e, t, hrun, rfl, nx, rfl⟩ := rsize_loop v fn args h.1 (fun x hx => ih x hx (okL_mem h.2 x hx))
 refine pcl_body code21 ?_
 simp [Term.enc, termH] at hrun ⊢
 simp [hrun, Term.sizeW]
theorem depth_loop (ts : List Term) (hn : ts.length ≤ 9223372036854775807) (H : Hp) (hH : below 7 H = H) (hrec : ∀ x ∈ ts, pcl Cp 44 [.agg x.enc] = some (.int .i64 x.depthW)) :
  ∃ e t, aloop Tryz.prog plc b44_0 ⟨[false, false, true, true, false, false, false, true, true, true, false, false, false, false, false, false, false, false, true, true], some 7⟩ ⟨[.junk, .junk, .d (.int .i64 0), .d (.int .i64 0), .junk, .junk, .junk, .d (.sl (encL ts) ts.length false none), .d (.int .i64 ts.length), .d (.int .i64 0), .junk, .junk, .junk, .junk, .junk, .junk, .junk, .junk, .junk, .junk], H, 7⟩ = some (e, t) ∧
   AtExit 0 [.junk, .junk, .d (.int .i64 0), .d (.int .i64 (depthWL 0 ts)), .junk, .junk, .junk, .d (.sl (encL ts) ts.length false none), .d (.int .i64 ts.length), .d (.int .i64 ts.length), .junk, .junk, .junk, .junk, .junk, .junk, .junk, .junk, .junk, .junk] H e t := by
 refine loop_rule (b := 7) (tm := fun (s : Nat × Int) => [.junk, .junk, .d (.int .i64 0), .d (.int .i64 s.2), .junk, .junk, .junk, .d (.sl (encL ts) ts.length false none), .d (.int .i64 ts.length), .d (.int .i64 s.1), .junk, .junk, .junk, .junk, .junk, .junk, .junk, .junk, .junk, .junk]) (Hf := fun _ => H)
  (I := fun s => s.1 ≤ ts.length) (μ := fun s => ts.length - s.1) (res := fun s => depthWL s.2 (ts.drop s.1)) (R := fun r => AtExit 0 [.junk, .junk, .d (.int .i64 0), .d (.int .i64 r), .junk, .junk, .junk, .d (.sl (encL ts) ts.length false none), .d (.int .i64 ts.length), .d (.int .i64 ts.length), .junk, .junk, .junk, .junk, .junk, .junk, .junk, .junk, .junk, .junk] H) (fun s nx hi => ?_) (0, 0) (Nat.zero_le _)
 obtain ⟨i, acc⟩ := s
 rcases Nat.lt_or_ge i ts.length with hl | hl
 ·obtain ⟨v, fn, args, a⟩ := at_ok hn hl
  have hcall := hrec _ a.mem
  simp [Term.enc] at hcall
  conv => arg 9; arg 4; unfold b44_0
  simp [a.lti, a.sz, a.ltm, a.cells, a.le3, plc_raw, hcall, a.w, hH]
  exact .next (i + 1, if (Term.mk v fn args).depthW > acc then (Term.mk v fn args).depthW else acc) (by omega) rfl rfl hl (by simp; omega) (by simp only [a.dr, depthWL])
 ·obtain rfl : i = ts.length := Nat.le_antisymm hi hl
  simp [b44_0, hH]
  exact .fin _ _ (by simp [depthWL]; exact .mk)
theorem depth_ok (t : Term) : t.ok → pcl Cp 44 [.agg t.enc] = some (.int .i64 t.depthW) := by
 refine Term.ind (p := fun t => t.ok → pcl Cp 44 [.agg t.enc] = some (.int .i64 t.depthW)) (fun v fn args ih h => ?_) t
 obtain ⟨e, t, hrun, rfl, nx, rfl⟩ := depth_loop args h.1 (termH v fn args) (by simp [termH]) (fun x hx => ih x hx (okL_mem h.2 x hx))
 refine pcl_body code44 ?_
 simp [Term.enc, termH] at hrun ⊢
 simp [hrun, Term.depthW]
theorem rdepth_loop (v0 : Int) (fn0 : ByteArray) (ts : List Term) (hn : ts.length ≤ 9223372036854775807) (hrec : ∀ x ∈ ts, pcl Cp 87 [.agg x.enc] = some (.int .i64 x.depthW)) :
  ∃ e t, aloop Tryz.prog plc b87_0 ⟨[false, true, true, true, true, false, false, false, false, false, false, false, false, false, false, false, false, false, false, false, true, true], some 4⟩ ⟨[.junk, .ptr (0, 0) 0 3, .d (.int .i64 0), .d (.int .i64 0), .d (.int .i64 0), .junk, .junk, .junk, .junk, .junk, .junk, .junk, .junk, .junk, .junk, .junk, .junk, .junk, .junk, .junk, .junk, .junk], termH v0 fn0 ts, 4⟩ = some (e, t) ∧
   AtExit 0 [.junk, .ptr (0, 0) 0 3, .d (.int .i64 0), .d (.int .i64 (depthWL 0 ts)), .d (.int .i64 ts.length), .junk, .junk, .junk, .junk, .junk, .junk, .junk, .junk, .junk, .junk, .junk, .junk, .junk, .junk, .junk, .junk, .junk] (termH v0 fn0 ts) e t := by
 refine loop_rule (b := 4) (tm := fun (s : Nat × Int) => [.junk, .ptr (0, 0) 0 3, .d (.int .i64 0), .d (.int .i64 s.2), .d (.int .i64 s.1), .junk, .junk, .junk, .junk, .junk, .junk, .junk, .junk, .junk, .junk, .junk, .junk, .junk, .junk, .junk, .junk, .junk]) (Hf := fun _ => termH v0 fn0 ts)
  (I := fun s => s.1 ≤ ts.length) (μ := fun s => ts.length - s.1) (res := fun s => depthWL s.2 (ts.drop s.1)) (R := fun r => AtExit 0 [.junk, .ptr (0, 0) 0 3, .d (.int .i64 0), .d (.int .i64 r), .d (.int .i64 ts.length), .junk, .junk, .junk, .junk, .junk, .junk, .junk, .junk, .junk, .junk, .junk, .junk, .junk, .junk, .junk, .junk, .junk] (termH v0 fn0 ts)) (fun s nx hi => ?_) (0, 0) (Nat.zero_le _)
 obtain ⟨i, acc⟩ := s
 rcases Nat.lt_or_ge i ts.length with hl | hl
 ·obtain ⟨v, fn, args, a⟩ := at_ok hn hl
  have hcall := hrec _ a.mem
  simp [Term.enc] at hcall
  conv => arg 9; arg 4; unfold b87_0
  simp [a.lti, a.sz, a.ltm, a.cells, a.le3, plc_raw, hcall, a.w, termH]
  exact .next (i + 1, if (Term.mk v fn args).depthW > acc then (Term.mk v fn args).depthW else acc) (by omega) rfl rfl hl (by simp; omega) (by simp only [a.dr, depthWL])
 ·obtain rfl : i = ts.length := Nat.le_antisymm hi hl
  simp [b87_0, termH]
  exact .fin _ _ (by simp [depthWL, termH]; exact .mk)
theorem rdepth_ok (t : Term) : t.ok → pcl Cp 87 [.agg t.enc] = some (.int .i64 t.depthW) := by
 refine Term.ind (p := fun t => t.ok → pcl Cp 87 [.agg t.enc] = some (.int .i64 t.depthW)) (fun v fn args ih h => ?_) t
 obtain ⟨e, t, hrun, rfl, nx, rfl⟩ := rdepth_loop v fn args h.1 (fun x hx => ih x hx (okL_mem h.2 x hx))
 refine pcl_body code87 ?_
 simp [Term.enc, termH] at hrun ⊢
 simp [hrun, Term.depthW]
theorem right_ok (v : Int) (fn : ByteArray) (cs : List D) (n : Nat) : pcl Cp 68 [.agg [.int .i64 v, .str fn, .sl cs n false none]] = some (.bool (rightB v fn n)) := by
 refine pcl_body code68 ?_
 simp
 repeat' ((try simp only [condP_ite]); split <;> (try simp only [holdE]) <;> (try simp [*, plc_raw]))
 all_goals (simp_all [rightB, noName])
 all_goals (first | omega | grind)
theorem index_loop (g : FuncId) (p : Term → Bool) (ts : List Term) (hn : ts.length ≤ 9223372036854775807) (hg : plc.raw g = false ∧ plc.weak g = false ∧ g < 1000000000) (hrec : ∀ x ∈ ts, pcl Cp g [.agg x.enc] = some (.bool (p x))) :
  ∃ e t, aloop Tryz.prog plc b71_0 ⟨[true, true, false, false, true, false, false, true, true, false, false, false, false, false, false, false, false, false, false], some 4⟩ ⟨[.d (.sl (encL ts) ts.length false none), .d (.fn g []), .junk, .junk, .d (.int .i64 0), .junk, .junk, .d (.int .i64 ts.length), .d (.int .i64 0), .junk, .junk, .junk, .junk, .junk, .junk, .junk, .junk, .junk, .junk], fun _ => none, 4⟩ = some (e, t) ∧
   (match fromI p ts 0 with | some k => AtRet 4 (.d (.int .i64 k)) e t | none => AtExit 0 [.d (.sl (encL ts) ts.length false none), .d (.fn g []), .junk, .junk, .d (.int .i64 0), .junk, .junk, .d (.int .i64 ts.length), .d (.int .i64 ts.length), .junk, .junk, .junk, .junk, .junk, .junk, .junk, .junk, .junk, .junk] (fun _ => none) e t) := by
 refine loop_rule (b := 4) (tm := fun (i : Nat) => [.d (.sl (encL ts) ts.length false none), .d (.fn g []), .junk, .junk, .d (.int .i64 0), .junk, .junk, .d (.int .i64 ts.length), .d (.int .i64 i), .junk, .junk, .junk, .junk, .junk, .junk, .junk, .junk, .junk, .junk]) (Hf := fun _ => fun _ => none)
  (I := fun i => i ≤ ts.length) (μ := fun i => ts.length - i) (res := fun i => fromI p ts i) (R := fun o e t => match o with | some k => AtRet 4 (.d (.int .i64 k)) e t | none => AtExit 0 [.d (.sl (encL ts) ts.length false none), .d (.fn g []), .junk, .junk, .d (.int .i64 0), .junk, .junk, .d (.int .i64 ts.length), .d (.int .i64 ts.length), .junk, .junk, .junk, .junk, .junk, .junk, .junk, .junk, .junk, .junk] (fun _ => none) e t)
  (fun i nx hi => ?_) 0 (Nat.zero_le _)
 rcases Nat.lt_or_ge i ts.length with hl | hl
 ·obtain ⟨v, fn, args, a⟩ := at_ok hn hl
  have hcall := hrec _ a.mem
  have hget : ts[i] = .mk v fn args := a.get
  simp [Term.enc] at hcall
  conv => arg 9; arg 4; unfold b71_0
  cases hp : p (.mk v fn args) <;> rw [hp] at hcall <;> simp [a.lti, a.sz, a.ltm, a.cells, a.le3, hg.1, hg.2.1, hg.2.2, -plc_weak, hcall, a.w]
  ·exact .next (i + 1) (by omega) rfl rfl hl (by omega) (by rw [fromI_step hl, hget, hp]; rfl)
  ·exact .fin _ _ (by rw [fromI_step hl, hget, hp]; exact ⟨rfl, rfl⟩)
 ·obtain rfl : i = ts.length := Nat.le_antisymm hi hl
  simp [b71_0]
  exact .fin _ _ (by rw [fromI_end]; exact .mk)
theorem index_ok {g : FuncId} {p : Term → Bool} {ts : List Term} (hn : ts.length ≤ 9223372036854775807) (hg : plc.raw g = false ∧ plc.weak g = false ∧ g < 1000000000) (hrec : ∀ x ∈ ts, pcl Cp g [.agg x.enc] = some (.bool (p x))) :
  pcl Cp 71 [.sl (encL ts) ts.length false none, .fn g []] = some (.int .i64 (match ts.findIdx? p with | some k => k | none => -1)) := by
 obtain ⟨e, t, h1, h2⟩ := index_loop g p ts hn hg hrec
 refine pcl_body code71 ?_
 simp [fromI_zero] at h1 h2
 simp [h1]
 revert h2
 cases ts.findIdx? p with
 | some k => rintro ⟨rfl, h⟩; simp [h]
 | none => rintro ⟨rfl, nx, rfl⟩; simp
theorem any_findIdx {α : Type} (p : α → Bool) (l : List α) : l.any p = (l.findIdx? p).isSome := by
 induction l with
 | nil => rfl
 | cons x l ih => rw [List.any_cons, List.findIdx?_cons, ih]; cases p x <;> simp
theorem contains_ok {g : FuncId} {p : Term → Bool} {ts : List Term} (hn : ts.length ≤ 9223372036854775807) (hg : plc.raw g = false ∧ plc.weak g = false ∧ g < 1000000000) (hrec : ∀ x ∈ ts, pcl Cp g [.agg x.enc] = some (.bool (p x))) :
  pcl Cp 49 [.sl (encL ts) ts.length false none, .fn g []] = some (.bool (ts.any p)) := by
 refine pcl_body code49 ?_
 have h := index_ok hn hg hrec
 rw [any_findIdx]
 cases hq : ts.findIdx? p <;> rw [hq] at h <;> simp [plc_raw, h]
theorem shapeBL_all : ∀ (ts : List Term), shapeBL ts = !ts.any (fun x => !x.shapeB)
 | [] => rfl
 | t :: r => by simp [shapeBL, shapeBL_all r]
theorem shaped_ok (t : Term) : t.ok → pcl Cp 43 [.agg t.enc] = some (.bool t.shapeB) := by
 refine Term.ind (p := fun t => t.ok → pcl Cp 43 [.agg t.enc] = some (.bool t.shapeB)) (fun v fn args ih h => ?_) t
 have hc := contains_ok (g := 69) (p := fun x => !x.shapeB) h.1 ⟨rfl, rfl, by decide⟩ (fun x hx => by
  have := ih x hx (okL_mem h.2 x hx)
  refine pcl_body code69 ?_
  obtain ⟨v, fn, a⟩ := x
  simp [Term.enc] at this
  simp [Term.enc, plc_raw, this])
 have hr := right_ok v fn (encL args) args.length
 refine pcl_body code43 ?_
 cases hb : rightB v fn args.length <;> rw [hb] at hr <;> simp [Term.enc, plc_raw, hr, hc, Term.shapeB, hb, shapeBL_all]
theorem rshape_loop (v0 : Int) (fn0 : ByteArray) (ts : List Term) (hn : ts.length ≤ 9223372036854775807) (hrec : ∀ x ∈ ts, pcl Cp 86 [.agg x.enc] = some (.bool x.shapeB)) :
  ∃ e t, aloop Tryz.prog plc b86_0 ⟨[false, true, true, true, false, false, false, false, false, false, false, false, false, false, false, false, false, false, false, false, false, false, false, false, false, false, false, false, false, false, false, false, false, false, false, false, false, false, false, false, false, false, false, false, false, false, false, false, false, false], some 21⟩ ⟨[.junk, .ptr (0, 0) 0 3, .d (.bool false), .d (.int .i64 0), .junk, .junk, .junk, .junk, .junk, .junk, .junk, .junk, .junk, .junk, .junk, .junk, .junk, .junk, .junk, .junk, .junk, .junk, .junk, .junk, .junk, .junk, .junk, .junk, .junk, .junk, .junk, .junk, .junk, .junk, .junk, .junk, .junk, .junk, .junk, .junk, .junk, .junk, .junk, .junk, .junk, .junk, .junk, .junk, .junk, .junk], termH v0 fn0 ts, 21⟩ = some (e, t) ∧
   (if shapeBL ts then AtExit 0 [.junk, .ptr (0, 0) 0 3, .d (.bool false), .d (.int .i64 ts.length), .junk, .junk, .junk, .junk, .junk, .junk, .junk, .junk, .junk, .junk, .junk, .junk, .junk, .junk, .junk, .junk, .junk, .junk, .junk, .junk, .junk, .junk, .junk, .junk, .junk, .junk, .junk, .junk, .junk, .junk, .junk, .junk, .junk, .junk, .junk, .junk, .junk, .junk, .junk, .junk, .junk, .junk, .junk, .junk, .junk, .junk] (termH v0 fn0 ts) e t else AtRet 2 (.d (.bool false)) e t) := by
 refine loop_rule (b := 21) (tm := fun (i : Nat) => [.junk, .ptr (0, 0) 0 3, .d (.bool false), .d (.int .i64 i), .junk, .junk, .junk, .junk, .junk, .junk, .junk, .junk, .junk, .junk, .junk, .junk, .junk, .junk, .junk, .junk, .junk, .junk, .junk, .junk, .junk, .junk, .junk, .junk, .junk, .junk, .junk, .junk, .junk, .junk, .junk, .junk, .junk, .junk, .junk, .junk, .junk, .junk, .junk, .junk, .junk, .junk, .junk, .junk, .junk, .junk]) (Hf := fun _ => termH v0 fn0 ts)
  (I := fun i => i ≤ ts.length) (μ := fun i => ts.length - i) (res := fun i => shapeBL (ts.drop i)) (R := fun b e t => if b then AtExit 0 [.junk, .ptr (0, 0) 0 3, .d (.bool false), .d (.int .i64 ts.length), .junk, .junk, .junk, .junk, .junk, .junk, .junk, .junk, .junk, .junk, .junk, .junk, .junk, .junk, .junk, .junk, .junk, .junk, .junk, .junk, .junk, .junk, .junk, .junk, .junk, .junk, .junk, .junk, .junk, .junk, .junk, .junk, .junk, .junk, .junk, .junk, .junk, .junk, .junk, .junk, .junk, .junk, .junk, .junk, .junk, .junk] (termH v0 fn0 ts) e t else AtRet 2 (.d (.bool false)) e t)
  (fun i nx hi => ?_) 0 (Nat.zero_le _)
 rcases Nat.lt_or_ge i ts.length with hl | hl
 ·obtain ⟨v, fn, args, a⟩ := at_ok hn hl
  have hcall := hrec _ a.mem
  simp [Term.enc] at hcall
  conv => arg 9; arg 4; unfold b86_0
  cases hp : (Term.mk v fn args).shapeB <;> rw [hp] at hcall <;> simp [a.lti, a.sz, a.ltm, a.cells, a.le3, plc_raw, hcall, a.w, termH]
  ·exact .fin _ _ (by simp only [a.dr, shapeBL, hp]; exact ⟨rfl, rfl⟩)
  ·exact .next (i + 1) (by omega) rfl rfl hl (by omega) (by simp [a.dr, shapeBL, hp])
 ·obtain rfl : i = ts.length := Nat.le_antisymm hi hl
  simp [b86_0, termH]
  exact .fin _ _ (by simp [shapeBL, termH]; exact .mk)
theorem rshape_ok (t : Term) : t.ok → pcl Cp 86 [.agg t.enc] = some (.bool t.shapeB) := by
 refine Term.ind (p := fun t => t.ok → pcl Cp 86 [.agg t.enc] = some (.bool t.shapeB)) (fun v fn args ih h => ?_) t
 refine pcl_body code86 ?_
 obtain ⟨e, t, hrun, hR⟩ := rshape_loop v fn args h.1 (fun x hx => ih x hx (okL_mem h.2 x hx))
 simp [Term.enc, termH] at hrun ⊢
 have hz : args.length = 0 → args = [] := List.eq_nil_of_length_eq_zero
 cases hs : shapeBL args <;> simp only [hs, if_true, Bool.false_eq_true, if_false] at hR
 ·obtain ⟨rfl, hv⟩ := hR
  have hne : args ≠ [] := by rintro rfl; simp [shapeBL] at hs
  repeat' ((try simp only [condP_ite]); split <;> (try simp only [holdE]) <;> (try simp [*, plc_raw]))
  all_goals (simp_all [Term.shapeB, rightB, noName, shapeBL])
  all_goals (clear hrun ih; first | omega | grind)
 ·obtain ⟨rfl, nx, rfl⟩ := hR
  repeat' ((try simp only [condP_ite]); split <;> (try simp only [holdE]) <;> (try simp [*, plc_raw]))
  all_goals (simp_all [Term.shapeB, rightB, noName, shapeBL])
  all_goals (clear hrun ih; first | omega | grind)
theorem equal_loop (g : FuncId) (p : Term → Term → Bool) (hg : plc.raw g = false ∧ plc.weak g = false ∧ g < 1000000000) (ts us : List Term) (hn : ts.length ≤ 9223372036854775807) (hlen : us.length = ts.length) (hrec : ∀ x ∈ ts, ∀ y ∈ us, pcl Cp g [.agg x.enc, .agg y.enc] = some (.bool (p x y))) :
  ∃ e t, aloop Tryz.prog plc b52_0 ⟨[false, true, true, false, false, false, true, false, false, false, false, false, false, false, false, true, true, true, false, false, false, false, false, false, false, false, false, false, false, false, false, false], some 9⟩ ⟨[.junk, .d (.sl (encL us) us.length false none), .d (.fn g []), .junk, .junk, .junk, .d (.bool false), .junk, .junk, .junk, .junk, .junk, .junk, .junk, .junk, .d (.sl (encL ts) us.length false none), .d (.int .i64 us.length), .d (.int .i64 0), .junk, .junk, .junk, .junk, .junk, .junk, .junk, .junk, .junk, .junk, .junk, .junk, .junk, .junk], fun _ => none, 9⟩ = some (e, t) ∧
   (if all2 p ts us then AtExit 0 [.junk, .d (.sl (encL us) us.length false none), .d (.fn g []), .junk, .junk, .junk, .d (.bool false), .junk, .junk, .junk, .junk, .junk, .junk, .junk, .junk, .d (.sl (encL ts) us.length false none), .d (.int .i64 us.length), .d (.int .i64 ts.length), .junk, .junk, .junk, .junk, .junk, .junk, .junk, .junk, .junk, .junk, .junk, .junk, .junk, .junk] (fun _ => none) e t else AtRet 6 (.d (.bool false)) e t) := by
 refine loop_rule (b := 9) (tm := fun (i : Nat) => [.junk, .d (.sl (encL us) us.length false none), .d (.fn g []), .junk, .junk, .junk, .d (.bool false), .junk, .junk, .junk, .junk, .junk, .junk, .junk, .junk, .d (.sl (encL ts) us.length false none), .d (.int .i64 us.length), .d (.int .i64 i), .junk, .junk, .junk, .junk, .junk, .junk, .junk, .junk, .junk, .junk, .junk, .junk, .junk, .junk]) (Hf := fun _ => fun _ => none)
  (I := fun i => i ≤ ts.length) (μ := fun i => ts.length - i) (res := fun i => all2 p (ts.drop i) (us.drop i)) (R := fun b e t => if b then AtExit 0 [.junk, .d (.sl (encL us) us.length false none), .d (.fn g []), .junk, .junk, .junk, .d (.bool false), .junk, .junk, .junk, .junk, .junk, .junk, .junk, .junk, .d (.sl (encL ts) us.length false none), .d (.int .i64 us.length), .d (.int .i64 ts.length), .junk, .junk, .junk, .junk, .junk, .junk, .junk, .junk, .junk, .junk, .junk, .junk, .junk, .junk] (fun _ => none) e t else AtRet 6 (.d (.bool false)) e t)
  (fun i nx hi => ?_) 0 (Nat.zero_le _)
 rcases Nat.lt_or_ge i ts.length with hl | hl
 ·obtain ⟨v, fn, args, a⟩ := at_ok hn hl
  obtain ⟨v2, fn2, args2, b⟩ := at_ok (ts := us) (by omega) (i := i) (by omega)
  have hcall := hrec _ a.mem _ b.mem
  simp [Term.enc] at hcall
  have asz := a.sz
  have altm := a.ltm
  have ale3 := a.le3
  have alti := a.lti
  rw [← hlen] at asz altm ale3 alti
  conv => arg 9; arg 4; unfold b52_0
  cases hp : p (.mk v fn args) (.mk v2 fn2 args2) <;> rw [hp] at hcall <;> simp [alti, asz, altm, a.cells, ale3, b.cells, b.sz, b.ltm, b.le3, hg.1, hg.2.1, hg.2.2, -plc_weak, hcall, a.w]
  ·exact .fin _ _ (by simp only [a.dr, b.dr, all2, hp]; exact ⟨rfl, rfl⟩)
  ·exact .next (i + 1) (by omega) rfl rfl hl (by omega) (by simp [a.dr, b.dr, all2, hp])
 ·obtain rfl : i = ts.length := Nat.le_antisymm hi hl
  simp [b52_0, hlen]
  exact .fin _ _ (by simp [all2, hlen]; exact .mk)
theorem equal_ok {g : FuncId} {p : Term → Term → Bool} (hg : plc.raw g = false ∧ plc.weak g = false ∧ g < 1000000000) {ts us : List Term} (hn : ts.length ≤ 9223372036854775807) (hrec : ∀ x ∈ ts, ∀ y ∈ us, pcl Cp g [.agg x.enc, .agg y.enc] = some (.bool (p x y))) :
  pcl Cp 52 [.sl (encL ts) ts.length false none, .sl (encL us) us.length false none, .fn g []] = some (.bool (decide (ts.length = us.length) && all2 p ts us)) := by
 refine pcl_body code52 ?_
 by_cases hl : ts.length = us.length
 ·obtain ⟨e, t, hrun, hR⟩ := equal_loop g p hg ts us hn hl.symm hrec
  try simp at hrun
  simp [hl, hrun]
  cases hs : all2 p ts us <;> simp only [hs, if_true, Bool.false_eq_true, if_false] at hR
  ·obtain ⟨rfl, hv⟩ := hR; simp [hv]
  ·obtain ⟨rfl, nx, rfl⟩ := hR; simp
 ·have : ¬ ((ts.length : Int) = (us.length : Int)) := by omega
  simp [hl, this]
theorem same_ok (t : Term) : t.ok → ∀ u : Term, u.ok → pcl Cp 26 [.agg t.enc, .agg u.enc] = some (.bool (t.sameB u)) := by
 refine Term.ind (p := fun t => t.ok → ∀ u : Term, u.ok → pcl Cp 26 [.agg t.enc, .agg u.enc] = some (.bool (t.sameB u))) (fun v fn args ih h => ?_) t
 intro u hu
 obtain ⟨v2, fn2, args2⟩ := u
 have he := equal_ok (g := 26) (p := Term.sameB) ⟨rfl, rfl, by decide⟩ (ts := args) (us := args2) h.1 (fun x hx y hy => ih x hx (okL_mem h.2 x hx) y (okL_mem hu.2 y hy))
 refine pcl_body code26 ?_
 simp [Term.enc, plc_raw, he]
 repeat' ((try simp only [condP_ite]); split <;> (try simp only [holdE]) <;> (try simp [*, plc_raw]))
 all_goals (simp_all [Term.sameB, sameBL_all2])
def termH2 (v : Int) (fn : ByteArray) (args : List Term) (v2 : Int) (fn2 : ByteArray) (args2 : List Term) : Hp :=
 upd (upd (fun _ => none) (0, 0) (.cells [.d (.int .i64 v), .d (.str fn), .d (.sl (encL args) args.length false none)])) (1, 0) (.cells [.d (.int .i64 v2), .d (.str fn2), .d (.sl (encL args2) args2.length false none)])
theorem rsame_loop (v0 : Int) (fn0 : ByteArray) (v00 : Int) (fn00 : ByteArray) (ts us : List Term) (hn : ts.length ≤ 9223372036854775807) (hlen : us.length = ts.length) (hrec : ∀ x ∈ ts, ∀ y ∈ us, pcl Cp 63 [.agg x.enc, .agg y.enc] = some (.bool (x.sameB y))) :
  ∃ e t, aloop Tryz.prog plc b63_0 ⟨[false, false, true, true, true, true, false, false, false, false, false, false, false, false, false, false, false, false, false, false, false, false, false, false, false, false, false, false, false, false, false, false, false, false, false, false, false, false, false, false, false, false, false, false, false, false], some 25⟩ ⟨[.junk, .junk, .ptr (0, 0) 0 3, .ptr (1, 0) 0 3, .d (.bool false), .d (.int .i64 0), .junk, .junk, .junk, .junk, .junk, .junk, .junk, .junk, .junk, .junk, .junk, .junk, .junk, .junk, .junk, .junk, .junk, .junk, .junk, .junk, .junk, .junk, .junk, .junk, .junk, .junk, .junk, .junk, .junk, .junk, .junk, .junk, .junk, .junk, .junk, .junk, .junk, .junk, .junk, .junk], termH2 v0 fn0 ts v00 fn00 us, 25⟩ = some (e, t) ∧
   (if sameBL ts us then AtExit 0 [.junk, .junk, .ptr (0, 0) 0 3, .ptr (1, 0) 0 3, .d (.bool false), .d (.int .i64 ts.length), .junk, .junk, .junk, .junk, .junk, .junk, .junk, .junk, .junk, .junk, .junk, .junk, .junk, .junk, .junk, .junk, .junk, .junk, .junk, .junk, .junk, .junk, .junk, .junk, .junk, .junk, .junk, .junk, .junk, .junk, .junk, .junk, .junk, .junk, .junk, .junk, .junk, .junk, .junk, .junk] (termH2 v0 fn0 ts v00 fn00 us) e t else AtRet 4 (.d (.bool false)) e t) := by
 refine loop_rule (b := 25) (tm := fun (i : Nat) => [.junk, .junk, .ptr (0, 0) 0 3, .ptr (1, 0) 0 3, .d (.bool false), .d (.int .i64 i), .junk, .junk, .junk, .junk, .junk, .junk, .junk, .junk, .junk, .junk, .junk, .junk, .junk, .junk, .junk, .junk, .junk, .junk, .junk, .junk, .junk, .junk, .junk, .junk, .junk, .junk, .junk, .junk, .junk, .junk, .junk, .junk, .junk, .junk, .junk, .junk, .junk, .junk, .junk, .junk]) (Hf := fun _ => termH2 v0 fn0 ts v00 fn00 us)
  (I := fun i => i ≤ ts.length) (μ := fun i => ts.length - i) (res := fun i => sameBL (ts.drop i) (us.drop i)) (R := fun b e t => if b then AtExit 0 [.junk, .junk, .ptr (0, 0) 0 3, .ptr (1, 0) 0 3, .d (.bool false), .d (.int .i64 ts.length), .junk, .junk, .junk, .junk, .junk, .junk, .junk, .junk, .junk, .junk, .junk, .junk, .junk, .junk, .junk, .junk, .junk, .junk, .junk, .junk, .junk, .junk, .junk, .junk, .junk, .junk, .junk, .junk, .junk, .junk, .junk, .junk, .junk, .junk, .junk, .junk, .junk, .junk, .junk, .junk] (termH2 v0 fn0 ts v00 fn00 us) e t else AtRet 4 (.d (.bool false)) e t)
  (fun i nx hi => ?_) 0 (Nat.zero_le _)
 rcases Nat.lt_or_ge i ts.length with hl | hl
 ·obtain ⟨v, fn, args, a⟩ := at_ok hn hl
  obtain ⟨v2, fn2, args2, b⟩ := at_ok (ts := us) (by omega) (i := i) (by omega)
  have hcall := hrec _ a.mem _ b.mem
  simp [Term.enc] at hcall
  have bsz := b.sz
  have bltm := b.ltm
  have ble3 := b.le3
  rw [hlen] at bsz bltm ble3
  conv => arg 9; arg 4; unfold b63_0
  cases hp : (Term.mk v fn args).sameB (.mk v2 fn2 args2) <;> rw [hp] at hcall <;> simp [a.lti, a.sz, a.ltm, a.cells, a.le3, b.cells, bsz, bltm, ble3, hlen, plc_raw, hcall, a.w, termH2]
  ·exact .fin _ _ (by simp only [a.dr, b.dr, sameBL, hp]; exact ⟨rfl, rfl⟩)
  ·exact .next (i + 1) (by simp) (by simp) (by simp [termH2, hlen]) hl (by omega) (by simp [a.dr, b.dr, sameBL, hp])
 ·obtain rfl : i = ts.length := Nat.le_antisymm hi hl
  simp [b63_0, termH2, hlen]
  exact .fin _ _ (by simp [sameBL, termH2, hlen]; exact .mk)
theorem rsame_ok (t : Term) : t.ok → ∀ u : Term, u.ok → pcl Cp 63 [.agg t.enc, .agg u.enc] = some (.bool (t.sameB u)) := by
 refine Term.ind (p := fun t => t.ok → ∀ u : Term, u.ok → pcl Cp 63 [.agg t.enc, .agg u.enc] = some (.bool (t.sameB u))) (fun v fn args ih h => ?_) t
 intro u hu
 obtain ⟨v2, fn2, args2⟩ := u
 refine pcl_body code63 ?_
 by_cases h3 : args.length = args2.length
 ·obtain ⟨e, t, hrun, hR⟩ := rsame_loop v fn v2 fn2 args args2 h.1 h3.symm (fun x hx y hy => ih x hx (okL_mem h.2 x hx) y (okL_mem hu.2 y hy))
  simp [Term.enc, termH2, h3] at hrun ⊢
  cases hs : sameBL args args2 <;> simp only [hs, if_true, Bool.false_eq_true, if_false] at hR
  ·obtain ⟨rfl, hv⟩ := hR
   repeat' ((try simp only [condP_ite]); split <;> (try simp only [holdE]) <;> (try simp [*, plc_raw]))
   all_goals (simp_all [Term.sameB])
  ·obtain ⟨rfl, nx, rfl⟩ := hR
   repeat' ((try simp only [condP_ite]); split <;> (try simp only [holdE]) <;> (try simp [*, plc_raw]))
   all_goals (simp_all [Term.sameB])
 ·have h3' : ¬ ((args.length : Int) = (args2.length : Int)) := by omega
  simp [Term.enc, h3, h3']
  repeat' ((try simp only [condP_ite]); split <;> (try simp only [holdE]) <;> (try simp [*, plc_raw]))
  all_goals (simp_all [Term.sameB])
theorem tright_ok (t : Term) (h : t.ok) : pcl Cp 22 [.agg t.enc] = some (.int .i64 t.rightE) := by
 have h1 := shaped_ok t h
 have h2 := depth_ok t h
 have h3 := size_ok t h
 refine pcl_body code22 ?_
 unfold Term.rightE
 generalize hs : t.shapeB = b at h1
 generalize hd : t.depthW = d at h2
 generalize hz : t.sizeW = z at h3
 obtain ⟨v, fn, args⟩ := t
 simp [Term.enc] at h1 h2 h3 ⊢
 simp [plc_raw, h1, h2, h3]
 repeat' ((try simp only [condP_ite]); split <;> (try simp only [holdE]) <;> (try simp [*, plc_raw]))
 all_goals (simp_all)
theorem rright_ok (t : Term) (h : t.ok) : pcl Cp 62 [.agg t.enc] = some (.int .i64 t.rightE) := by
 have h1 := rshape_ok t h
 have h2 := rdepth_ok t h
 have h3 := rsize_ok t h
 refine pcl_body code62 ?_
 unfold Term.rightE
 generalize hs : t.shapeB = b at h1
 generalize hd : t.depthW = d at h2
 generalize hz : t.sizeW = z at h3
 obtain ⟨v, fn, args⟩ := t
 simp [Term.enc] at h1 h2 h3 ⊢
 simp [plc_raw, h1, h2, h3]
 repeat' ((try simp only [condP_ite]); split <;> (try simp only [holdE]) <;> (try simp [*, plc_raw]))
 all_goals (simp_all)
end Go.Proofs.YtajilkmepjhkdaaGreat.Am

/-
 Maps of counts; weights. No condition.
-/
namespace Go.Proofs.YtajilkmepjhkdaaGreat.Am
open Go
def encMi (i : Nat) : List (Int × Int) → List (D × AV × Nat)
 | [] => []
 | (u, n) :: r => (.int .i64 u, .d (.int .i64 n), i) :: encMi (i + 1) r
@[simp] theorem encMi_len : ∀ (i : Nat) (m : List (Int × Int)), (encMi i m).length = m.length
 | _, [] => rfl
 | i, _ :: r => by simp [encMi, encMi_len]
def encM (m : List (Int × Int)) : Am.Obj := .mp (false, [.int .i64]) (encMi 0 m) m.length
def bump : List (Int × Int) → Int → Int → List (Int × Int)
 | [], v, k => [(v, IntKind.i64.wrap (0 + k))]
 | (u, n) :: r, v, k => if v = u then (v, IntKind.i64.wrap (n + k)) :: r else (u, n) :: bump r v k
theorem bump_spec (v k : Int) : ∀ (m : List (Int × Int)) (i : Nat),
  (∃ j n, findK (.int .i64 v) (encMi i m) i = some (i + j, .d (.int .i64 n), i + j) ∧ stampAt ((i + j : Nat) : Int) (encMi i m) i = some (i + j, .int .i64 v) ∧ (encMi i m).set j (.int .i64 v, .d (.int .i64 (IntKind.i64.wrap (n + k))), i + j) = encMi i (bump m v k) ∧ (bump m v k).length = m.length) ∨
  (findK (.int .i64 v) (encMi i m) i = none ∧ (∀ z, stampAt ((i + m.length : Nat) : Int) (encMi i m ++ [(.int .i64 v, z, i + m.length)]) i = some (i + m.length, .int .i64 v)) ∧
   (∀ z, (encMi i m ++ [((D.int .i64 v), z, i + m.length)]).set m.length (.int .i64 v, .d (.int .i64 (IntKind.i64.wrap (0 + k))), i + m.length) = encMi i (bump m v k)) ∧ (bump m v k).length = m.length + 1)
 | [], i => .inr ⟨rfl, fun z => by simp [encMi, stampAt], fun z => by simp [encMi, bump], rfl⟩
 | (u, n) :: r, i => by
  by_cases h : v = u
  ·subst h
   exact .inl ⟨0, n, by simp [encMi, findK, eqD, eq1], by simp [encMi, stampAt], by simp [encMi, bump], by simp [bump]⟩
  ·have h2 : ¬ (((i : Int)) = ((i + 1 + r.length : Nat) : Int)) := by omega
   rcases bump_spec v k r (i + 1) with ⟨j, n', h1, h3, h4, h5⟩ | ⟨h1, h3, h4, h5⟩
   ·refine .inl ⟨j + 1, n', ?_, ?_, ?_, ?_⟩
    ·have he : ¬ eqD (D.int .i64 v) (D.int .i64 u) = true := by simpa [eqD, eq1] using h
     simp only [encMi, findK, if_neg he, h1]
     simp; omega
    ·simp only [encMi, stampAt]
     rw [if_neg (by omega)]
     rw [show i + (j + 1) = i + 1 + j by omega]
     exact h3
    ·simp only [encMi, List.set_cons_succ, bump, if_neg h]
     rw [show i + (j + 1) = i + 1 + j by omega, h4]
    ·simp [bump, if_neg h, h5]
   ·refine .inr ⟨?_, fun z => ?_, fun z => ?_, ?_⟩
    ·have he : ¬ eqD (D.int .i64 v) (D.int .i64 u) = true := by simpa [eqD, eq1] using h
     simp only [encMi, findK, if_neg he, h1]
    ·simp only [encMi, List.cons_append, stampAt, List.length_cons]
     rw [if_neg (by omega)]
     rw [show i + (r.length + 1) = i + 1 + r.length by omega]
     exact h3 z
    ·simp only [encMi, List.cons_append, List.length_cons, List.set_cons_succ, bump, if_neg h]
     rw [show i + (r.length + 1) = i + 1 + r.length by omega, h4]
    ·simp [bump, if_neg h, h5]
mutual
def Term.loadW (g : Sg) (k : Int) : Term → List (Int × Int) → Int × List (Int × Int)
 | .mk v fn args, m => loadWL g k (g.of fn) (if fn.toList = [] then bump m v k else m) args
def loadWL (g : Sg) (k : Int) (acc : Int) (m : List (Int × Int)) : List Term → Int × List (Int × Int)
 | [] => (acc, m)
 | t :: r => loadWL g k (IntKind.i64.wrap (acc + (t.loadW g k m).1)) (t.loadW g k m).2 r
end
end Go.Proofs.YtajilkmepjhkdaaGreat.Am

/-
 Weights and counts: what the program's function does to a map, as the abstract machine runs it. No condition.
-/
namespace Go.Proofs.YtajilkmepjhkdaaGreat.Am
open Go Go.Proofs
set_option maxHeartbeats 4000000
set_option linter.unusedSimpArgs false
theorem upd_old {o : Oid} {i : Nat} (h : o.1 < i) (j : Nat) (x : Am.Obj) (H : Hp) : upd H (i, j) x o = H o := by
 simp only [upd]; rw [if_neg]; intro e; rw [e] at h; simp at h
def Does (f : FuncId) (args : List AV) (o : Oid) (x y : Am.Obj) (v : AV) : Prop :=
 ∀ H nx, o.1 < nx → H o = some x → ∃ q : Hp × Nat, acall Tryz.prog plc f args H nx = some (v, q.1, q.2) ∧ nx ≤ q.2 ∧ q.1 o = some y ∧ ∀ p, p.1 < nx → p ≠ o → q.1 p = H p
theorem Does.fn {f : FuncId} {args : List AV} {o : Oid} {x y : Am.Obj} {v : AV} (h : Does f args o x y v) :
  ∃ (F : Hp → Nat → Hp) (N : Hp → Nat → Nat), ∀ H nx, o.1 < nx → H o = some x → acall Tryz.prog plc f args H nx = some (v, F H nx, N H nx) ∧ nx ≤ N H nx ∧ F H nx o = some y ∧ ∀ p, p.1 < nx → p ≠ o → F H nx p = H p := by
 have h2 : ∀ z : Hp × Nat, ∃ q : Hp × Nat, o.1 < z.2 → z.1 o = some x → acall Tryz.prog plc f args z.1 z.2 = some (v, q.1, q.2) ∧ z.2 ≤ q.2 ∧ q.1 o = some y ∧ ∀ p, p.1 < z.2 → p ≠ o → q.1 p = z.1 p := fun z => by
  by_cases h1 : o.1 < z.2 ∧ z.1 o = some x
  ·obtain ⟨q, hq⟩ := h z.1 z.2 h1.1 h1.2
   exact ⟨q, fun _ _ => hq⟩
  ·exact ⟨default, fun a b => absurd ⟨a, b⟩ h1⟩
 obtain ⟨G, hG⟩ := Classical.skolem.1 h2
 exact ⟨fun H nx => (G (H, nx)).1, fun H nx => (G (H, nx)).2, fun H nx a b => hG (H, nx) a b⟩
theorem below_lt {k : Nat} {H : Hp} {p : Oid} (h : p.1 < k) : below k H p = H p := by simp only [below]; rw [if_pos h]
theorem load_ok (g : Sg) (hg : g.ok) (k : Int) (o : Oid) (t : Term) : t.ok → ∀ m, Does 81 [.d (.agg g.enc), .d (.agg t.enc), .d (.int .i64 k), .map o] o (encM m) (encM (t.loadW g k m).2) (.d (.int .i64 (t.loadW g k m).1)) := by
 refine Term.ind (p := fun t => t.ok → ∀ m, Does 81 [.d (.agg g.enc), .d (.agg t.enc), .d (.int .i64 k), .map o] o (encM m) (encM (t.loadW g k m).2) (.d (.int .i64 (t.loadW g k m).1))) (fun v fn ts ih h m => ?_) t
 intro H nx hlt ho
 have hn := h.1
 have hof := of_ok g hg fn
 simp only [Sg.enc] at hof
 have hne : ∀ k j x H', upd H' (nx + k, j) x o = H' o := fun k j x H' => upd_old (by omega) j x H'
 have hne0 : ∀ j x H', upd H' (nx, j) x o = H' o := fun j x H' => upd_old hlt j x H'
 have hloop := fun (b : Nat) (hb : nx + 1 < b) (H1 : Hp) (hH1 : H1 (nx, 0) = some (.cells [.d (.sl (encS g.names) g.names.length false none), .d (.sl (encI g.weights) g.weights.length false none)])) (m0 : List (Int × Int)) (h0 : H1 o = some (encM m0)) =>
  loop_rule (P := Tryz.prog) (pol := plc) (c := b81_0) (m := ⟨[false, false, true, true, true, false, false, false, true, true, false, false, false, false, false, false, false, false, false, false, false, false, false, false, false, false, true, true, true, false, false, false, false, false, false, false, false, false, false, false, true], some b⟩)
  (b := b) (tm := fun (s : Nat × Int × List (Int × Int) × Hp) => [.junk, .junk, .d (.int .i64 k), .map o, .ptr (nx, 0) 0 2, .junk, .junk, .junk, .d (.int .i64 0), .d (.int .i64 s.2.1), .junk, .junk, .junk, .junk, .junk, .junk, .junk, .junk, .junk, .junk, .junk, .junk, .junk, .junk, .junk, .junk, .d (.sl (encL ts) ts.length false none), .d (.int .i64 ts.length), .d (.int .i64 s.1), .junk, .junk, .junk, .junk, .junk, .junk, .junk, .junk, .junk, .junk, .junk, .junk]) (Hf := fun s => s.2.2.2)
  (I := fun s => s.1 ≤ ts.length ∧ s.2.2.2 o = some (encM s.2.2.1) ∧ ∀ p, p.1 < b → p ≠ o → s.2.2.2 p = H1 p) (μ := fun s => ts.length - s.1) (res := fun s => loadWL g k s.2.1 s.2.2.1 (ts.drop s.1))
  (R := fun r e t => ∃ H2 nx2, e = .exit 0 ∧ t = ⟨[.junk, .junk, .d (.int .i64 k), .map o, .ptr (nx, 0) 0 2, .junk, .junk, .junk, .d (.int .i64 0), .d (.int .i64 r.1), .junk, .junk, .junk, .junk, .junk, .junk, .junk, .junk, .junk, .junk, .junk, .junk, .junk, .junk, .junk, .junk, .d (.sl (encL ts) ts.length false none), .d (.int .i64 ts.length), .d (.int .i64 ts.length), .junk, .junk, .junk, .junk, .junk, .junk, .junk, .junk, .junk, .junk, .junk, .junk], H2, nx2⟩ ∧ b ≤ nx2 ∧ H2 o = some (encM r.2) ∧ ∀ p, p.1 < b → p ≠ o → H2 p = H1 p)
  (fun s nx1 hi => by
   obtain ⟨i, acc, m1, HH⟩ := s
   obtain ⟨hi, hHo, hHH⟩ := hi
   simp only at hi hHo hHH
   have hnx : (nx, 0) ≠ o := fun e => by rw [← e] at hlt; simp at hlt
   have hHn := (hHH (nx, 0) (by simp; omega) hnx).trans hH1
   rcases Nat.lt_or_ge i ts.length with hl | hl
   ·obtain ⟨v1, fn1, args, a⟩ := at_ok hn hl
    obtain ⟨F, N, hF⟩ := (ih _ a.mem (okL_mem h.2 _ a.mem) m1).fn
    have hne1 : ∀ k j x H', upd H' (nx1 + (b + k), j) x o = H' o := fun k j x H' => upd_old (by omega) j x H'
    have hne2 : ∀ j x H', upd H' (nx1 + b, j) x o = H' o := fun j x H' => upd_old (by omega) j x H'
    have hlo : ∀ k, o.1 < nx1 + (b + k) := fun k => by omega
    have hnx1 : ∀ k j x H', upd H' (nx1 + (b + k), j) x (nx, 0) = H' (nx, 0) := fun k j x H' => upd_old (o := (nx, 0)) (by simp; omega) j x H'
    simp [Term.enc, Sg.enc] at hF
    have hFc := fun H nx h1 h2 => (hF H nx h1 h2).1
    conv => arg 9; arg 4; unfold b81_0
    simp [a.lti, a.sz, a.ltm, a.cells, a.le3, plc_raw, a.w, Nat.add_assoc, hne1, hne2, hlo, hnx1, hHn, hFc, hHo]
    have h4 := hF _ (nx1 + (b + 13)) (hlo 13) (show (upd (upd HH (nx1 + (b + 3), 3) .vnil) (nx1 + (b + 3), 0) (.cells [.d (.int .i64 v1), .d (.str fn1), .d (.sl (encL args) args.length false none)])) o = _ by simp [hne1, hHo])
    refine .next (i + 1, IntKind.i64.wrap (acc + ((Term.mk v1 fn1 args).loadW g k m1).1), ((Term.mk v1 fn1 args).loadW g k m1).2, _) ?_ rfl rfl ⟨hl, ?_, ?_⟩ (by simp; omega) (by simp only [a.dr, loadWL])
    ·refine Nat.le_trans (Nat.le_trans ?_ h4.2.1) (Nat.le_add_right _ _)
     omega
    ·exact (below_lt (by omega)).trans h4.2.2.1
    ·intro a c hp hpo
     refine (below_lt (p := (a, c)) hp).trans ((h4.2.2.2 a c (by omega) hpo).trans ?_)
     rw [upd_old (o := (a, c)) (by simp; omega), upd_old (o := (a, c)) (by simp; omega)]
     exact hHH (a, c) hp hpo
   ·obtain rfl : i = ts.length := Nat.le_antisymm hi hl
    have hr : loadWL g k acc m1 (ts.drop ts.length) = (acc, m1) := by simp only [List.drop_length, loadWL]
    simp [b81_0]
    refine .fin _ _ ?_
    simp only [hr]
    exact ⟨trivial, _, _, rfl, by omega, (below_lt (by omega)).trans hHo, fun a c hp hpo => (below_lt (p := (a, c)) hp).trans (hHH (a, c) hp hpo)⟩) (0, g.of fn, m0, H1) ⟨Nat.zero_le _, h0, fun _ _ _ => rfl⟩
 have hno : ∀ k j x H', upd H' o x (nx + k, j) = H' (nx + k, j) := fun k j x H' => by
  simp only [upd]; rw [if_neg]; rintro rfl; simp at hlt; omega
 have hno0 : ∀ j x H', upd H' o x (nx, j) = H' (nx, j) := fun j x H' => by
  simp only [upd]; rw [if_neg]; rintro rfl; simp at hlt
 by_cases hv : fn.toList = []
 ·have hr : Term.loadW g k (Term.mk v fn ts) m = loadWL g k (g.of fn) (bump m v k) (ts.drop 0) := by simp [Term.loadW, hv]
  rw [hr]
  obtain ⟨e, t, hrun, H2, nx2, rfl, rfl, hnx2, hH2, hHf⟩ := hloop (nx + 22) (by omega) (upd (upd (upd H (nx, 0) (.cells [.d (.sl (encS g.names) g.names.length false none), .d (.sl (encI g.weights) g.weights.length false none)])) (nx + 1, 0) (.cells [.d (.int .i64 v), .d (.str fn), .d (.sl (encL ts) ts.length false none)])) o (encM (bump m v k))) (by rw [hno0]; simp [upd]) (bump m v k) (by simp)
  refine ⟨(H2, nx2 + 2), acall_body code81 ?_, by simp; omega, hH2, fun p hp hpo => (hHf p (by omega) hpo).trans (by rw [show upd _ o (encM (bump m v k)) p = _ from if_neg hpo, upd_old (by omega), upd_old (by omega)])⟩
  simp [encM] at hrun
  rcases bump_spec v k m 0 with ⟨j, n, h1, h2, h3, h4⟩ | ⟨h1, h2, h3, h4⟩
  ·simp at h3
   rw [h4] at hrun
   simp [plc_raw, hv, hof, hlt, Term.enc, Sg.enc, Nat.add_assoc, hne, hne0, ho, hno, hno0, encM, h1, h2, h3, hrun]
  ·simp at h3
   rw [h4] at hrun
   simp [plc_raw, hv, hof, hlt, Term.enc, Sg.enc, Nat.add_assoc, hne, hne0, ho, hno, hno0, encM, h1, h2, h3, hrun]
 ·obtain ⟨e, t, hrun, H2, nx2, rfl, rfl, hnx2, hH2, hHf⟩ := hloop (nx + 15) (by omega) (upd (upd H (nx, 0) (.cells [.d (.sl (encS g.names) g.names.length false none), .d (.sl (encI g.weights) g.weights.length false none)])) (nx + 1, 0) (.cells [.d (.int .i64 v), .d (.str fn), .d (.sl (encL ts) ts.length false none)])) (by simp [upd]) m (by rw [hne, hne0]; exact ho)
  have hr : Term.loadW g k (Term.mk v fn ts) m = loadWL g k (g.of fn) m (ts.drop 0) := by simp [Term.loadW, hv]
  rw [hr]
  refine ⟨(H2, nx2 + 2), acall_body code81 ?_, by simp; omega, hH2, fun p hp hpo => ?_⟩
  ·simp at hrun
   simp [plc_raw, hv, hof, hlt, Term.enc, Sg.enc, Nat.add_assoc, hrun]
  ·exact (hHf p (by omega) hpo).trans (by rw [upd_old (by omega), upd_old (by omega)])
end Go.Proofs.YtajilkmepjhkdaaGreat.Am

/-
 The order of Knuth and Bendix: what the program's function computes. No condition.
-/
namespace Go.Proofs.YtajilkmepjhkdaaGreat.Am
open Go Go.Proofs
set_option maxHeartbeats 4000000
set_option linter.unusedSimpArgs false
theorem encMi_stamps : ∀ (m : List (Int × Int)) (i : Nat), (encMi i m).map (·.2.2) = List.range' i m.length
 | [], _ => rfl
 | (u, n) :: r, i => by simp [encMi, encMi_stamps r (i + 1), List.range'_succ]
theorem valsOf_enc : ∀ (m : List (Int × Int)) (i : Nat), valsOf (encMi i m) = some (m.map (·.2))
 | [], _ => rfl
 | (u, n) :: r, i => by simp [encMi, valsOf, valsOf_enc r (i + 1)]
theorem holeG_ok {o : Oid} {m : List (Int × Int)} {H : Hp} {nx : Nat} (h : H o = some (encM m)) (y0 y1 y2 y3 y4 y5 y6 y8 : AV) (r : List AV) (hr : r.length = 105) :
  holeG ⟨y0 :: y1 :: y2 :: y3 :: y4 :: y5 :: y6 :: .map o :: y8 :: .d (.bool false) :: .d (.bool false) :: r, H, nx⟩ =
   some (.normal, ⟨y0 :: y1 :: y2 :: y3 :: y4 :: y5 :: y6 :: .map o :: y8 :: .d (.bool (m.any fun q => decide (0 < q.2))) :: .d (.bool (m.any fun q => decide (q.2 < 0))) :: List.replicate 105 .junk, H, nx⟩) := by
 simp only [holeG, h, encM, hr, encMi_stamps, encMi_len, List.range_eq_range', valsOf_enc, Nat.le_refl, and_self, if_true, Option.map_some, List.any_map]
 rfl
def firstL : List Term → List Term → Option Nat
 | t :: r, u :: s => if t.sameB u then (firstL r s).map (· + 1) else some 0
 | _, _ => none
def sideI (b : Bool) : Int := if b then 1 else -1
mutual
def Term.kcmp (g : Sg) : Term → Term → Int
 | .mk v1 f1 a1, .mk v2 f2 a2 =>
  if (Term.mk v1 f1 a1).sameB (.mk v2 f2 a2) then 0 else
  let x := (Term.mk v1 f1 a1).loadW g 1 []
  let y := (Term.mk v2 f2 a2).loadW g (-1) x.2
  let d := IntKind.i64.wrap (x.1 - y.1)
  let out : Int := if 0 < d then 1 else if d < 0 then -1 else if f1.toList = [] ∨ f2.toList = [] then 2 else if f1.toList ≠ f2.toList then sideI (g.above f1 f2)
   else if a1.length ≠ a2.length then sideI (decide (a1.length > a2.length)) else kcmpL g a1 a2
  if (out = 1 ∧ y.2.any (fun q => decide (q.2 < 0)) = true) ∨ (out = -1 ∧ y.2.any (fun q => decide (0 < q.2)) = true) then 2 else out
def kcmpL (g : Sg) : List Term → List Term → Int
 | t :: r, u :: s => if t.sameB u then kcmpL g r s else t.kcmp g u
 | _, _ => 2
end
theorem kcmpL_first (g : Sg) : ∀ (a b : List Term) (i : Nat), firstL a b = some i → ∃ t u, a[i]? = some t ∧ b[i]? = some u ∧ kcmpL g a b = t.kcmp g u
 | t :: r, u :: s, i, h => by
  simp only [firstL] at h
  by_cases hs : t.sameB u = true
  ·rw [if_pos hs] at h
   simp only [Option.map_eq_some_iff] at h
   obtain ⟨j, hj, rfl⟩ := h
   obtain ⟨t', u', h1, h2, h3⟩ := kcmpL_first g r s j hj
   exact ⟨t', u', by simpa using h1, by simpa using h2, by simp only [kcmpL, if_pos hs, h3]⟩
  ·rw [if_neg hs] at h
   cases h
   exact ⟨t, u, rfl, rfl, by simp only [kcmpL, if_neg hs]⟩
 | [], _, _, h => by simp [firstL] at h
 | _ :: _, [], _, h => by simp [firstL] at h
theorem side_ok (b : Bool) : pcl Cp 82 [.bool b] = some (.int .i64 (sideI b)) := by
 refine pcl_body code82 ?_
 cases b <;> simp [sideI]
def optI : Option Nat → Int
 | some i => i
 | none => -1
def firstI (a b : List Term) (i : Nat) : Int := optI ((firstL (a.drop i) (b.drop i)).map (· + i))
theorem first_loop (v0 : Int) (fn0 : ByteArray) (v00 : Int) (fn00 : ByteArray) (ts us : List Term) (hn : ts.length ≤ 9223372036854775807) (hlen : us.length = ts.length) (hok : okL ts) (hok2 : okL us) :
  ∃ e t, aloop Tryz.prog plc b84_0 ⟨[false, false, true, true, true, true, false, false, false, true, true, false, false, false, false, false, false, false, false, false, false, false, false, false, false, false, false, true], some 8⟩ ⟨[.junk, .junk, .ptr (0, 0) 0 3, .ptr (1, 0) 0 3, .d (.int .i64 0), .d (.int .i64 (-1)), .junk, .junk, .junk, .d (.int .i64 ts.length), .d (.int .i64 0), .junk, .junk, .junk, .junk, .junk, .junk, .junk, .junk, .junk, .junk, .junk, .junk, .junk, .junk, .junk, .junk, .junk], termH2 v0 fn0 ts v00 fn00 us, 8⟩ = some (e, t) ∧
   ∃ i' : Int, AtExit 0 [.junk, .junk, .ptr (0, 0) 0 3, .ptr (1, 0) 0 3, .d (.int .i64 0), .d (.int .i64 (firstI ts us 0)), .junk, .junk, .junk, .d (.int .i64 ts.length), .d (.int .i64 i'), .junk, .junk, .junk, .junk, .junk, .junk, .junk, .junk, .junk, .junk, .junk, .junk, .junk, .junk, .junk, .junk, .junk] (termH2 v0 fn0 ts v00 fn00 us) e t := by
 refine loop_rule (b := 8) (tm := fun (i : Nat) => [.junk, .junk, .ptr (0, 0) 0 3, .ptr (1, 0) 0 3, .d (.int .i64 0), .d (.int .i64 (-1)), .junk, .junk, .junk, .d (.int .i64 ts.length), .d (.int .i64 i), .junk, .junk, .junk, .junk, .junk, .junk, .junk, .junk, .junk, .junk, .junk, .junk, .junk, .junk, .junk, .junk, .junk]) (Hf := fun _ => termH2 v0 fn0 ts v00 fn00 us)
  (I := fun i => i ≤ ts.length) (μ := fun i => ts.length - i) (res := fun i => firstI ts us i) (R := fun r e t => ∃ i' : Int, AtExit 0 [.junk, .junk, .ptr (0, 0) 0 3, .ptr (1, 0) 0 3, .d (.int .i64 0), .d (.int .i64 r), .junk, .junk, .junk, .d (.int .i64 ts.length), .d (.int .i64 i'), .junk, .junk, .junk, .junk, .junk, .junk, .junk, .junk, .junk, .junk, .junk, .junk, .junk, .junk, .junk, .junk, .junk] (termH2 v0 fn0 ts v00 fn00 us) e t)
  (fun i nx hi => ?_) 0 (Nat.zero_le _)
 rcases Nat.lt_or_ge i ts.length with hl | hl
 ·obtain ⟨v, fn, args, a⟩ := at_ok hn hl
  obtain ⟨v2, fn2, args2, b⟩ := at_ok (ts := us) (by omega) (i := i) (by omega)
  have hcall := same_ok _ (okL_mem hok _ a.mem) _ (okL_mem hok2 _ b.mem)
  simp [Term.enc] at hcall
  have bsz := b.sz
  have bltm := b.ltm
  have ble3 := b.le3
  rw [hlen] at bsz bltm ble3
  conv => arg 9; arg 4; unfold b84_0
  cases hp : (Term.mk v fn args).sameB (.mk v2 fn2 args2) <;> rw [hp] at hcall <;> simp [a.lti, a.sz, a.ltm, a.cells, a.le3, b.cells, bsz, bltm, ble3, hlen, plc_raw, hcall, a.w, termH2]
  ·refine .fin _ _ ⟨i, ?_⟩
   rw [show firstI ts us i = i by simp [firstI, a.dr, b.dr, firstL, hp, optI]]
   exact .mk
  ·refine .next (i + 1) (by simp) (by simp) (by simp [termH2, hlen]) hl (by omega) ?_
   simp only [firstI, a.dr, b.dr, firstL, hp, if_true]
   cases firstL (ts.drop (i + 1)) (us.drop (i + 1)) <;> simp [optI]; omega
 ·obtain rfl : i = ts.length := Nat.le_antisymm hi hl
  simp [b84_0, termH2, hlen]
  refine .fin _ _ ⟨ts.length, ?_⟩
  rw [show firstI ts us ts.length = -1 by simp [firstI, firstL, optI]]
  exact .mk
theorem first_ok (v1 : Int) (f1 : ByteArray) (a1 : List Term) (h1 : (Term.mk v1 f1 a1).ok) (v2 : Int) (f2 : ByteArray) (a2 : List Term) (h2 : (Term.mk v2 f2 a2).ok) (hl : a2.length = a1.length) :
  pcl Cp 84 [.agg (Term.mk v1 f1 a1).enc, .agg (Term.mk v2 f2 a2).enc] = some (.int .i64 (optI (firstL a1 a2))) := by
 refine pcl_body code84 ?_
 obtain ⟨e, t, hrun, i', rfl, nx, rfl⟩ := first_loop v1 f1 v2 f2 a1 a2 h1.1 hl h1.2 h2.2
 simp [Term.enc, termH2, hl] at hrun ⊢
 simp [hrun, firstI]
end Go.Proofs.YtajilkmepjhkdaaGreat.Am

/-
 Binds as data of the abstract machine; substitutions. No condition.
-/
namespace Go.Proofs.YtajilkmepjhkdaaGreat.Am
open Go
structure Bd where
 v : Int
 t : Term
def Bd.enc (b : Bd) : List D := .int .i64 b.v :: b.t.enc
def encB (bs : List Bd) : List D := bs.flatMap Bd.enc
theorem Bd.enc_len (b : Bd) : b.enc.length = 4 := by simp [Bd.enc, Term.enc_len]
theorem encB_len : ∀ (bs : List Bd), (encB bs).length = bs.length * 4
 | [] => rfl
 | b :: r => by have := encB_len r; simp [encB, Bd.enc_len] at this ⊢; omega
theorem encB_at : ∀ (bs : List Bd) (i : Nat) (b : Bd), bs[i]? = some b → ((encB bs).drop (i * 4)).take 4 = b.enc
 | [], i, b, h => by simp at h
 | u :: r, 0, b, h => by
  simp at h; subst h
  have := u.enc_len
  simp [encB, this]
 | u :: r, i + 1, b, h => by
  have := u.enc_len
  have e := encB_at r i b (by simpa using h)
  simp only [encB, List.flatMap_cons] at e ⊢
  rw [show (i + 1) * 4 = u.enc.length + i * 4 by omega, List.drop_append, List.drop_of_length_le (by omega), List.nil_append, show u.enc.length + i * 4 - u.enc.length = i * 4 by omega]
  exact e
def okB (bs : List Bd) : Prop := bs.length ≤ 9223372036854775807 ∧ ∀ b ∈ bs, b.t.ok
structure AtB (bs : List Bd) (i : Nat) (x v : Int) (fn : ByteArray) (args : List Term) : Prop where
 lt : i < bs.length
 mem : (⟨x, .mk v fn args⟩ : Bd) ∈ bs
 sz : (encB bs).length = bs.length * 4
 cells : ((encB bs).drop (i * 4)).take 4 = [.int .i64 x, .int .i64 v, .str fn, .sl (encL args) args.length false none]
 c0 : (encB bs)[i * 4]? = some (.int .i64 x)
 c1 : ((encB bs).drop (i * 4 + 1)).take 3 = [.int .i64 v, .str fn, .sl (encL args) args.length false none]
 c10 : (encB bs)[i * 4 + 1]? = some (.int .i64 v)
 c11 : (encB bs)[i * 4 + 2]? = some (.str fn)
 e0 : ∀ h : i * 4 < (encB bs).length, (encB bs)[i * 4]'h = .int .i64 x
 e10 : ∀ h : i * 4 + 1 < (encB bs).length, (encB bs)[i * 4 + 1]'h = .int .i64 v
 e11 : ∀ h : i * 4 + 2 < (encB bs).length, (encB bs)[i * 4 + 2]'h = .str fn
 lti : (i : Int) < (bs.length : Int)
 ltm : i * 4 < bs.length * 4
 le4 : 4 ≤ bs.length * 4 - i * 4
 le1 : 1 ≤ bs.length * 4 - i * 4
 le3 : 3 ≤ bs.length * 4 - (i * 4 + 1)
 le2 : 2 ≤ bs.length * 4 - (i * 4 + 1)
 le11 : 1 ≤ bs.length * 4 - (i * 4 + 1)
 dr : bs.drop i = ⟨x, .mk v fn args⟩ :: bs.drop (i + 1)
 w : IntKind.i64.wrap ((i : Int) + 1) = (i : Int) + 1
 w0 : IntKind.i64.wrap (i : Int) = (i : Int)
theorem atB_ok {bs : List Bd} (h : bs.length ≤ 9223372036854775807) {i : Nat} (hil : i < bs.length) : ∃ x v fn args, AtB bs i x v fn args := by
 obtain ⟨b, hb⟩ : ∃ b, bs[i]? = some b := ⟨bs[i], by simp [hil]⟩
 obtain ⟨x, t⟩ := b
 obtain ⟨v, fn, args⟩ := t
 have hc := encB_at bs i _ hb
 simp only [Bd.enc, Term.enc] at hc
 have hg : ∀ j, j < 4 → (encB bs)[i * 4 + j]? = ([.int .i64 x, .int .i64 v, .str fn, .sl (encL args) args.length false none] : List D)[j]? := fun j hj => by
  rw [← hc, List.getElem?_take, if_pos hj, List.getElem?_drop]
 refine ⟨x, v, fn, args, hil, List.mem_of_getElem? hb, encB_len bs, hc, by simpa using hg 0 (by omega), ?_, by simpa using hg 1 (by omega), by simpa using hg 2 (by omega), fun h => by simpa [h] using hg 0 (by omega), fun h => by simpa [h] using hg 1 (by omega), fun h => by simpa [h] using hg 2 (by omega), by omega, by omega, by omega, by omega, by omega, by omega, by omega, ?_, wrap_i64 (by omega) (by omega), wrap_i64 (by omega) (by omega)⟩
 ·have := congrArg (List.drop 1) hc
  rw [List.drop_take, List.drop_drop] at this
  simpa [Nat.add_comm] using this
 ·rw [List.drop_eq_getElem_cons hil]
  congr 1
  rw [List.getElem?_eq_getElem hil] at hb
  exact Option.some.inj hb
def Bd.own : Bd → Bool
 | ⟨x, .mk v fn _⟩ => noName fn && decide (v = x)
def Bd.badB (n : Nat) (last : Int) (b : Bd) : Bool := decide (b.v ≤ last) || decide (1000000 ≤ b.v) || b.own || decide (b.t.rightE ≠ 0) || decide ((4000 : Int) < (n : Int))
def subOk (n : Nat) : Int → List Bd → Bool
 | _, [] => true
 | last, b :: r => !b.badB n last && subOk n b.v r
def prevB (x : Int) : Option Int → Bool
 | some p => decide (x ≤ p)
 | none => false
def Bd.badR (prev : Option Int) (b : Bd) : Bool :=
 decide (b.v < 0) || decide (1000000 ≤ b.v) || prevB b.v prev || decide (b.t.rightE ≠ 0) || b.own
def isOk : Option Int → List Bd → Bool
 | _, [] => true
 | prev, b :: r => !b.badR prev && isOk (some b.v) r
def isB (bs : List Bd) : Bool := decide ((bs.length : Int) ≤ 4000) && isOk none bs
def pairB (a b : Bd) : Bool := decide (a.v = b.v) && a.t.sameB b.t
def allB (p : Bd → Bd → Bool) : List Bd → List Bd → Bool
 | t :: r, u :: s => p t u && allB p r s
 | _, _ => true
theorem isOk_sub (n : Nat) (hn : ¬ (4000 : Int) < (n : Int)) : ∀ (l : List Bd) (prev : Option Int) (last : Int), (prev = none ∧ last = -1 ∨ prev = some last ∧ 0 ≤ last) → isOk prev l = subOk n last l := by
 intro l
 induction l with
 | nil => intro prev last _; rfl
 | cons b r ih =>
  intro prev last hp
  simp only [isOk, subOk]
  have hb : b.badR prev = b.badB n last := by
   rcases hp with ⟨rfl, rfl⟩ | ⟨rfl, h0⟩
   ·simp only [Bd.badR, Bd.badB, prevB, hn, decide_false, Bool.or_false]
    have : decide (b.v < 0) = decide (b.v ≤ -1) := by congr 1; simp; omega
    rw [this]
    cases b.own <;> simp
   ·simp only [Bd.badR, Bd.badB, prevB, hn, decide_false, Bool.or_false]
    by_cases h1 : b.v ≤ last
    ·simp [h1]
    ·have : ¬ b.v < 0 := by omega
     simp only [h1, this, decide_false, Bool.false_or, Bool.or_false]
     cases b.own <;> simp
  rw [hb]
  cases hq : b.badB n last with
  | true => simp
  | false =>
   rw [ih (some b.v) b.v (.inr ⟨rfl, by
    simp only [Bd.badB, Bool.or_eq_false_iff, decide_eq_false_iff_not] at hq
    rcases hp with ⟨_, rfl⟩ | ⟨_, h0⟩ <;> omega⟩)]
theorem isB_sub (bs : List Bd) : isB bs = subOk bs.length (-1) bs := by
 unfold isB
 by_cases h : (bs.length : Int) ≤ 4000
 ·rw [isOk_sub bs.length (by omega) bs none (-1) (.inl ⟨rfl, rfl⟩)]
  simp [h]
 ·cases bs with
  | nil => simp at h
  | cons b r =>
   have h2 : (4000 : Int) < ((b :: r).length : Int) := by omega
   have e1 : decide (((b :: r).length : Int) ≤ 4000) = false := decide_eq_false h
   have e2 : decide ((4000 : Int) < ((b :: r).length : Int)) = true := decide_eq_true h2
   simp only [subOk, Bd.badB, e1, e2, Bool.or_true, Bool.not_true, Bool.false_and]
end Go.Proofs.YtajilkmepjhkdaaGreat.Am

/-
 Terms as mathematics: sizes, depths, variables, substitutions, parts. No condition.
-/
namespace Go.Proofs.YtajilkmepjhkdaaGreat.Am
open Go Go.Proofs
set_option linter.unusedSimpArgs false
set_option linter.unusedVariables false
theorem bytes_loop (a : ByteArray) : ∀ (k i : Nat) (r : List UInt8), a.size - i = k → ByteArray.toList.loop a i r = r.reverse ++ a.data.toList.drop i := by
 intro k
 induction k with
 | zero =>
  intro i r h
  rw [ByteArray.toList.loop, if_neg (by omega)]
  have : a.data.toList.drop i = [] := List.drop_of_length_le (by have : a.data.toList.length = a.size := rfl; omega)
  simp [this]
 | succ k ih =>
  intro i r h
  have hi : i < a.size := by omega
  rw [ByteArray.toList.loop, if_pos hi, ih (i + 1) _ (by omega)]
  have hl : i < a.data.toList.length := hi
  rw [List.drop_eq_getElem_cons hl]
  simp only [List.reverse_cons, List.append_assoc, List.singleton_append]
  congr 2
  have hi2 : i < a.data.size := hi
  simp only [ByteArray.get!, Array.getElem_toList]
  exact getElem!_pos a.data i hi2
theorem bytes_toList (a : ByteArray) : a.toList = a.data.toList := by
 have := bytes_loop a a.size 0 [] rfl
 simpa [ByteArray.toList] using this
theorem bytes_ext {a b : ByteArray} (h : a.toList = b.toList) : a = b := by
 rw [bytes_toList, bytes_toList] at h
 cases a; cases b
 simp at h
 simp [h]
theorem sameB_eq (t : Term) : ∀ u, (t.sameB u = true ↔ t = u) := by
 refine Term.ind (p := fun t => ∀ u, (t.sameB u = true ↔ t = u)) (fun v fn args ih u => ?_) t
 obtain ⟨v2, fn2, args2⟩ := u
 have hl : ∀ (a b : List Term), (∀ x ∈ a, ∀ u, (x.sameB u = true ↔ x = u)) → a.length = b.length → (sameBL a b = true ↔ a = b) := by
  intro a
  induction a with
  | nil => intro b _ h; cases b with | nil => simp [sameBL] | cons => simp at h
  | cons x r ih2 =>
   intro b h h2
   cases b with
   | nil => simp at h2
   | cons y s =>
    simp only [sameBL, Bool.and_eq_true, List.cons.injEq]
    rw [h x (by simp), ih2 s (fun z hz => h z (by simp [hz])) (by simpa using h2)]
 simp only [Term.sameB, Bool.and_eq_true, decide_eq_true_eq, beq_iff_eq, Term.mk.injEq]
 constructor
 ·rintro ⟨⟨⟨h1, h2⟩, h3⟩, h4⟩
  exact ⟨h1, bytes_ext h2, (hl args args2 ih h3).1 h4⟩
 ·rintro ⟨h1, h2, h3⟩
  exact ⟨⟨⟨h1, by rw [h2]⟩, by rw [h3]⟩, (hl args args2 ih (by rw [h3])).2 h3⟩
theorem sameB_ff {t u : Term} : t.sameB u = false ↔ t ≠ u := by
 rw [← Bool.not_eq_true, sameB_eq]
mutual
def Term.size : Term → Nat
 | .mk _ _ args => 1 + sizeL args
def sizeL : List Term → Nat
 | [] => 0
 | t :: r => t.size + sizeL r
end
mutual
def Term.occ : Term → List Int
 | .mk v fn args => (if fn.toList = [] then [v] else []) ++ occL args
def occL : List Term → List Int
 | [] => []
 | t :: r => t.occ ++ occL r
end
theorem Term.size_pos (t : Term) : 0 < t.size := by cases t; simp [Term.size]; omega
theorem occ_len (t : Term) : t.occ.length ≤ t.size := by
 refine Term.ind (p := fun t => t.occ.length ≤ t.size) (fun v fn args ih => ?_) t
 have hl : ∀ (a : List Term), (∀ x ∈ a, x.occ.length ≤ x.size) → (occL a).length ≤ sizeL a := by
  intro a
  induction a with
  | nil => intro _; simp [sizeL, occL]
  | cons x r ih2 =>
   intro h
   have h1 := h x (by simp)
   have h2 := ih2 fun z hz => h z (by simp [hz])
   simp only [sizeL, occL, List.length_append]; omega
 have h1 := hl args ih
 simp only [Term.size, Term.occ, List.length_append]
 split <;> simp <;> omega
theorem sizeL_mem : ∀ {a : List Term} {x : Term}, x ∈ a → x.size ≤ sizeL a
 | t :: r, x, h => by
  rcases List.mem_cons.1 h with rfl | h
  ·simp [sizeL]
  ·have := sizeL_mem h; simp [sizeL]; omega
theorem wrap_small {n : Int} (h : -4611686018427387904 ≤ n) (h2 : n ≤ 4611686018427387904) : IntKind.i64.wrap n = n := wrap_i64 (by omega) (by omega)
theorem shapeB_v' {v : Int} {fn : ByteArray} {args : List Term} (h : (Term.mk v fn args).shapeB = true) (hv : fn.toList ≠ []) : v = 0 := by
 have hn : noName fn = false := by simp [noName, hv]
 simp [Term.shapeB, rightB, hn] at h
 exact h.1.1.1
theorem shapeBL_mem' : ∀ {ts : List Term}, shapeBL ts = true → ∀ x ∈ ts, x.shapeB = true
 | [], _, x, hx => by simp at hx
 | t :: r, h, x, hx => by
  simp only [shapeBL, Bool.and_eq_true] at h
  rcases List.mem_cons.1 hx with e | hx
  ·exact e ▸ h.1
  ·exact shapeBL_mem' h.2 x hx
mutual
def Term.depth : Term → Nat
 | .mk _ _ args => depthL args + 1
def depthL : List Term → Nat
 | [] => 0
 | t :: r => max t.depth (depthL r)
end
theorem depth_size (t : Term) : t.depth ≤ t.size := by
 refine Term.ind (p := fun t => t.depth ≤ t.size) (fun v fn args ih => ?_) t
 have hl : ∀ (a : List Term), (∀ x ∈ a, x.depth ≤ x.size) → depthL a ≤ sizeL a := by
  intro a
  induction a with
  | nil => intro _; simp [depthL, sizeL]
  | cons x r ih2 =>
   intro h
   have h1 := h x (by simp)
   have h2 := ih2 fun z hz => h z (by simp [hz])
   simp only [depthL, sizeL]; omega
 have := hl args ih
 simp only [Term.depth, Term.size]; omega
theorem sizeW_eq (t : Term) : (t.size : Int) ≤ 4611686018427387904 → t.sizeW = t.size := by
 refine Term.ind (p := fun t => (t.size : Int) ≤ 4611686018427387904 → t.sizeW = t.size) (fun v fn args ih hs => ?_) t
 have hl : ∀ (a : List Term), (∀ x ∈ a, (x.size : Int) ≤ 4611686018427387904 → x.sizeW = x.size) → ∀ acc : Int, 0 ≤ acc → acc + sizeL a ≤ 4611686018427387904 → sizeWL acc a = acc + sizeL a := by
  intro a
  induction a with
  | nil => intro _ acc _ _; simp [sizeWL, sizeL]
  | cons x r ih2 =>
   intro h acc h0 h1
   simp only [sizeL] at h1
   have hx := h x (by simp) (by omega)
   simp only [sizeWL, hx, sizeL]
   rw [wrap_small (by omega) (by omega), ih2 (fun z hz => h z (by simp [hz])) _ (by omega) (by omega)]
   omega
 simp only [Term.size] at hs
 have := hl args ih 1 (by omega) (by omega)
 simp only [Term.sizeW, Term.size, this]; omega
theorem depthW_eq (t : Term) : (t.size : Int) ≤ 4611686018427387904 → t.depthW = t.depth := by
 refine Term.ind (p := fun t => (t.size : Int) ≤ 4611686018427387904 → t.depthW = t.depth) (fun v fn args ih hs => ?_) t
 have hl : ∀ (a : List Term), (∀ x ∈ a, (x.size : Int) ≤ 4611686018427387904 → x.depthW = x.depth) → (sizeL a : Int) ≤ 4611686018427387904 → ∀ acc : Nat, depthWL acc a = (max acc (depthL a) : Nat) := by
  intro a
  induction a with
  | nil => intro _ _ acc; simp [depthWL, depthL]
  | cons x r ih2 =>
   intro h h1 acc
   simp only [sizeL] at h1
   have hx := h x (by simp) (by omega)
   simp only [depthWL, hx, depthL]
   by_cases hm : (x.depth : Int) > acc
   ·rw [if_pos hm, ih2 (fun z hz => h z (by simp [hz])) (by omega)]
    congr 1; omega
   ·rw [if_neg hm, ih2 (fun z hz => h z (by simp [hz])) (by omega)]
    congr 1; omega
 simp only [Term.size] at hs
 have h1 := hl args ih (by omega) 0
 have h2 : depthL args + 1 ≤ 1 + sizeL args := depth_size (.mk v fn args)
 simp only [Term.depthW, Term.depth]
 rw [show (0 : Int) = ((0 : Nat) : Int) from rfl, h1, Nat.zero_max, wrap_small (by omega) (by omega)]
 omega
theorem rightE_iff (t : Term) (h : (t.size : Int) ≤ 4611686018427387904) : t.rightE = 0 ↔ t.shapeB = true ∧ t.depth ≤ 60 ∧ t.size ≤ 4000 := by
 unfold Term.rightE
 rw [sizeW_eq t h, depthW_eq t h]
 by_cases hs : t.shapeB = true
 ·rw [if_pos hs]
  by_cases hd : (t.depth : Int) > 60
  ·rw [if_pos hd]; simp; omega
  ·rw [if_neg hd]
   by_cases hz : (t.size : Int) > 4000
   ·rw [if_pos hz]; simp; omega
   ·rw [if_neg hz]; simp [hs]; omega
 ·rw [if_neg hs]; simp [hs]
def ofS (s : List Bd) (v : Int) : Term := match s.find? (fun b => decide (b.v = v)) with | some b => b.t | none => .mk v (ByteArray.mk #[]) []
mutual
def Term.putS (s : List Bd) : Term → Term
 | .mk v fn args => if fn.toList = [] then ofS s v else .mk 0 fn (putSL s args)
def putSL (s : List Bd) : List Term → List Term
 | [] => []
 | t :: r => t.putS s :: putSL s r
end
theorem putSL_len (s : List Bd) : ∀ (a : List Term), (putSL s a).length = a.length
 | [] => rfl
 | t :: r => by simp [putSL, putSL_len s r]
theorem shape_var {v : Int} {fn : ByteArray} {args : List Term} (h : (Term.mk v fn args).shapeB = true) (hv : fn.toList = []) : args = [] := by
 have hn : noName fn = true := by simp [noName, hv]
 simp [Term.shapeB, rightB, hn] at h
 exact h.1.2
theorem putS_size (s : List Bd) (B : Nat) (hB : 1 ≤ B) (hs : ∀ b ∈ s, b.t.size ≤ B) (t : Term) : (t.putS s).size ≤ t.size * B := by
 refine Term.ind (p := fun t => (t.putS s).size ≤ t.size * B) (fun v fn args ih => ?_) t
 have hl : ∀ (a : List Term), (∀ x ∈ a, (x.putS s).size ≤ x.size * B) → sizeL (putSL s a) ≤ sizeL a * B := by
  intro a
  induction a with
  | nil => intro _; simp [putSL, sizeL]
  | cons x r ih2 =>
   intro h
   have h1 := h x (by simp)
   have h2 := ih2 fun z hz => h z (by simp [hz])
   simp only [putSL, sizeL, Nat.add_mul]; omega
 have h1 := hl args ih
 by_cases hv : fn.toList = []
 ·simp only [Term.putS, if_pos hv, Term.size, Nat.add_mul, Nat.one_mul]
  have : (ofS s v).size ≤ B := by
   unfold ofS
   cases hf : s.find? (fun b => decide (b.v = v)) with
   | none => simpa [Term.size, sizeL] using hB
   | some b => exact hs b (List.mem_of_find?_eq_some hf)
  omega
 ·simp only [Term.putS, if_neg hv, Term.size, Nat.add_mul, Nat.one_mul]; omega
def Term.at : Term → List Int → Option Term
 | t, [] => some t
 | .mk _ _ args, k :: p => if k < 0 then none else match args[k.toNat]? with
  | some x => x.at p
  | none => none
def Term.putAt : Term → List Int → Term → Option Term
 | _, [], s => some s
 | .mk _ fn args, k :: p, s => if k < 0 then none else match args[k.toNat]? with
  | some x => (x.putAt p s).map fun y => .mk 0 fn (args.set k.toNat y)
  | none => none
theorem depthL_mem : ∀ {a : List Term} {x : Term}, x ∈ a → x.depth ≤ depthL a
 | t :: r, x, h => by
  rcases List.mem_cons.1 h with rfl | h
  ·simp only [depthL]; omega
  ·have := depthL_mem h; simp only [depthL]; omega
theorem at_right : ∀ (p : List Int) (t x : Term), t.at p = some x → t.shapeB = true → x.shapeB = true ∧ x.depth ≤ t.depth ∧ x.size ≤ t.size
 | [], t, x, h, hs => by
  have : t = x := by cases t; simpa [Term.at] using h
  subst this; exact ⟨hs, Nat.le_refl _, Nat.le_refl _⟩
 | k :: p, .mk v fn args, x, h, hs => by
  simp only [Term.at] at h
  split at h
  ·cases h
  ·cases hg : args[k.toNat]? with
   | none => rw [hg] at h; cases h
   | some y =>
    rw [hg] at h
    have hm := List.mem_of_getElem? hg
    simp only [Term.shapeB, Bool.and_eq_true] at hs
    have := at_right p y x h (shapeBL_mem' hs.2 y hm)
    have h1 := sizeL_mem hm
    have h2 := depthL_mem hm
    simp only [Term.size, Term.depth]
    exact ⟨this.1, by omega, by omega⟩
theorem set_size : ∀ (a : List Term) (i : Nat) (y : Term), sizeL (a.set i y) ≤ sizeL a + y.size
 | [], i, y => by simp [sizeL]
 | t :: r, 0, y => by simp only [List.set_cons_zero, sizeL]; omega
 | t :: r, i + 1, y => by have := set_size r i y; simp only [List.set_cons_succ, sizeL]; omega
theorem putAt_size (s : Term) : ∀ (p : List Int) (t u : Term), t.putAt p s = some u → u.size ≤ t.size * (p.length + 1) + s.size
 | [], t, u, hu => by
  have h2 : s = u := by cases t; simpa [Term.putAt] using hu
  subst h2; omega
 | i :: p, .mk v fn args, u, hu => by
  simp only [Term.putAt] at hu
  split at hu
  ·cases hu
  ·cases hg : args[i.toNat]? with
   | none => rw [hg] at hu; cases hu
   | some y =>
    rw [hg] at hu
    simp only [Option.map_eq_some_iff] at hu
    obtain ⟨w, hw, rfl⟩ := hu
    have h1 := putAt_size s p y w hw
    have h2 := sizeL_mem (List.mem_of_getElem? hg)
    have h3 := set_size args i.toNat w
    have h4 : y.size * (p.length + 1) ≤ sizeL args * (p.length + 1) := Nat.mul_le_mul_right _ h2
    simp only [Term.size, List.length_cons, Nat.add_mul, Nat.mul_add, Nat.one_mul, Nat.mul_one] at h4 h1 ⊢
    omega
end Go.Proofs.YtajilkmepjhkdaaGreat.Am

/-
 The order of Knuth and Bendix as mathematics: what the program's function computes is it; through a third term; never both ways. No condition.
-/
namespace Go.Proofs.YtajilkmepjhkdaaGreat.Am
open Go Go.Proofs
set_option linter.unusedSimpArgs false
set_option linter.unusedVariables false
theorem bless_irrefl : ∀ (a : List UInt8), Op.bytesLess a a = false
 | [] => rfl
 | x :: r => by simp [Op.bytesLess, bless_irrefl r]
theorem bless_trans : ∀ (a b c : List UInt8), Op.bytesLess a b = true → Op.bytesLess b c = true → Op.bytesLess a c = true
 | [], [], _, h, _ => by simp [Op.bytesLess] at h
 | [], _ :: _, [], _, h => by simp [Op.bytesLess] at h
 | [], _ :: _, _ :: _, _, _ => by simp [Op.bytesLess]
 | _ :: _, [], _, h, _ => by simp [Op.bytesLess] at h
 | _ :: _, _ :: _, [], _, h => by simp [Op.bytesLess] at h
 | x :: r, y :: s, z :: t, h, k => by
  simp only [Op.bytesLess, Bool.or_eq_true, Bool.and_eq_true, decide_eq_true_eq, beq_iff_eq] at h k ⊢
  rcases h with h | ⟨rfl, h⟩ <;> rcases k with k | ⟨rfl, k⟩
  ·exact .inl (UInt8.lt_trans h k)
  ·exact .inl h
  ·exact .inl k
  ·exact .inr ⟨rfl, bless_trans r s t h k⟩
theorem bless_total : ∀ (a b : List UInt8), a ≠ b → Op.bytesLess a b = !Op.bytesLess b a
 | [], [], h => absurd rfl h
 | [], _ :: _, _ => rfl
 | _ :: _, [], _ => rfl
 | x :: r, y :: s, h => by
  by_cases hxy : x = y
  ·subst hxy
   have := bless_total r s (fun e => h (by rw [e]))
   simp [Op.bytesLess, this]
  ·have h1 : (y == x) = false := by simpa using fun e => hxy e.symm
   simp only [Op.bytesLess, beq_eq_false_iff_ne.2 hxy, h1, Bool.false_and, Bool.or_false]
   rcases UInt8.lt_or_lt_of_ne hxy with h | h
   ·have := UInt8.lt_asymm h
    simp [h, this]
   ·have := UInt8.lt_asymm h
    simp [h, this]
theorem bless_asymm {a b : List UInt8} (h : Op.bytesLess a b = true) : Op.bytesLess b a = false := by
 cases hb : Op.bytesLess b a with
 | false => rfl
 | true => have := bless_trans _ _ _ h hb; rw [bless_irrefl] at this; cases this
theorem gtS_eq (a b : ByteArray) : gtS a b = Op.bytesLess b.toList a.toList := by
 unfold gtS
 by_cases h : a.toList = b.toList
 ·simp [h, bless_irrefl]
 ·have := bless_total _ _ h
  simp [this, h]
theorem above_irrefl (g : Sg) (a : ByteArray) : g.above a a = false := by simp [Sg.above, gtS_eq, bless_irrefl]
theorem above_total (g : Sg) {a b : ByteArray} (h : a.toList ≠ b.toList) : g.above a b = !g.above b a := by
 unfold Sg.above
 rw [gtS_eq, gtS_eq]
 by_cases hr : g.rank a = g.rank b
 ·rw [if_neg (by simpa using hr), if_neg (by simpa using hr.symm)]
  exact bless_total _ _ (Ne.symm h)
 ·rw [if_pos hr, if_pos (Ne.symm hr)]
  by_cases h2 : g.rank a > g.rank b
  ·have : ¬ g.rank b > g.rank a := by omega
   simp [h2, this]
  ·have : g.rank b > g.rank a := by omega
   simp [h2, this]
theorem above_trans (g : Sg) {a b c : ByteArray} (h : g.above a b = true) (k : g.above b c = true) : g.above a c = true := by
 unfold Sg.above at *
 rw [gtS_eq] at *
 by_cases h1 : g.rank a = g.rank b <;> by_cases h2 : g.rank b = g.rank c
 ·rw [if_neg (by simpa using h1)] at h
  rw [if_neg (by simpa using h2)] at k
  rw [if_neg (by simpa using h1.trans h2)]
  exact bless_trans _ _ _ k h
 ·rw [if_pos h2] at k
  rw [if_pos (by rw [h1]; exact h2), h1]; exact k
 ·rw [if_pos h1] at h
  rw [if_pos (by rw [← h2]; exact h1), ← h2]; exact h
 ·rw [if_pos h1] at h
  rw [if_pos h2] at k
  simp at h k
  rw [if_pos (by omega)]
  simp; omega
theorem above_asymm (g : Sg) {a b : ByteArray} (h : g.above a b = true) : g.above b a = false := by
 cases hb : g.above b a with
 | false => rfl
 | true => have := above_trans g h hb; rw [above_irrefl] at this; cases this
mutual
def Term.wt (g : Sg) : Term → Int
 | .mk _ fn args => g.of fn + wtL g args
def wtL (g : Sg) : List Term → Int
 | [] => 0
 | t :: r => t.wt g + wtL g r
end
theorem of_range (g : Sg) (s : ByteArray) : 1 ≤ g.of s ∧ g.of s ≤ 1000 := by
 unfold Sg.of
 simp only
 split
 ·omega
 ·split
  ·omega
  ·rename_i h; have := not_or.1 h; omega
theorem wt_range (g : Sg) (t : Term) : (t.size : Int) ≤ t.wt g ∧ t.wt g ≤ 1000 * t.size := by
 refine Term.ind (p := fun t => (t.size : Int) ≤ t.wt g ∧ t.wt g ≤ 1000 * t.size) (fun v fn args ih => ?_) t
 have hl : ∀ (a : List Term), (∀ x ∈ a, (x.size : Int) ≤ x.wt g ∧ x.wt g ≤ 1000 * x.size) → (sizeL a : Int) ≤ wtL g a ∧ wtL g a ≤ 1000 * sizeL a := by
  intro a
  induction a with
  | nil => intro _; simp [sizeL, wtL]
  | cons x r ih2 =>
   intro h
   have h1 := h x (by simp)
   have h2 := ih2 fun z hz => h z (by simp [hz])
   simp only [sizeL, wtL]; omega
 have h1 := hl args ih
 have h2 := of_range g fn
 simp only [Term.size, Term.wt]; omega
theorem wtL_range (g : Sg) : ∀ (a : List Term), (sizeL a : Int) ≤ wtL g a ∧ wtL g a ≤ 1000 * sizeL a
 | [] => by simp [sizeL, wtL]
 | x :: r => by
  have h1 := wt_range g x
  have h2 := wtL_range g r
  simp only [sizeL, wtL]; omega
def look : List (Int × Int) → Int → Int
 | [], _ => 0
 | (u, n) :: r, x => if x = u then n else look r x
theorem bump_look (v k : Int) : ∀ (m : List (Int × Int)) (x : Int), look (bump m v k) x = if x = v then IntKind.i64.wrap (look m v + k) else look m x
 | [], x => by simp [bump, look]
 | (u, n) :: r, x => by
  by_cases h : v = u
  ·subst h
   simp only [bump, if_pos, look]
   split <;> rfl
  ·simp only [bump, if_neg h, look, bump_look v k r]
   by_cases h2 : x = v
   ·subst h2; simp [h]
   ·simp [h2]
theorem bump_keys (v k : Int) : ∀ (m : List (Int × Int)), ∀ x, x ∈ (bump m v k).map (·.1) ↔ x = v ∨ x ∈ m.map (·.1)
 | [], x => by simp [bump]
 | (u, n) :: r, x => by
  by_cases h : v = u
  ·subst h; simp [bump]
  ·simp only [bump, if_neg h, List.map_cons, List.mem_cons, bump_keys v k r]
   constructor
   ·rintro (h | h | h)
    ·exact .inr (.inl h)
    ·exact .inl h
    ·exact .inr (.inr h)
   ·rintro (h | h | h)
    ·exact .inr (.inl h)
    ·exact .inl h
    ·exact .inr (.inr h)
theorem bump_nodup (v k : Int) : ∀ (m : List (Int × Int)), (m.map (·.1)).Nodup → ((bump m v k).map (·.1)).Nodup
 | [], _ => by simp [bump]
 | (u, n) :: r, h => by
  by_cases h2 : v = u
  ·subst h2; simpa [bump] using h
  ·simp only [bump, if_neg h2, List.map_cons, List.nodup_cons] at h ⊢
   refine ⟨fun hm => ?_, bump_nodup v k r h.2⟩
   rcases (bump_keys v k r u).1 hm with e | e
   ·exact h2 e.symm
   ·exact h.1 e
theorem loadW_ok (g : Sg) (k : Int) (hk : k = 1 ∨ k = -1) (t : Term) : ∀ m : List (Int × Int), (m.map (·.1)).Nodup → (t.size : Int) ≤ 1048576 → (∀ x, -4000000000 ≤ look m x - t.size ∧ look m x + t.size ≤ 4000000000) →
  (t.loadW g k m).1 = t.wt g ∧ ((t.loadW g k m).2.map (·.1)).Nodup ∧ ∀ x, look (t.loadW g k m).2 x = look m x + k * (t.occ.count x : Int) := by
 refine Term.ind (p := fun t => ∀ m : List (Int × Int), (m.map (·.1)).Nodup → (t.size : Int) ≤ 1048576 → (∀ x, -4000000000 ≤ look m x - t.size ∧ look m x + t.size ≤ 4000000000) →
  (t.loadW g k m).1 = t.wt g ∧ ((t.loadW g k m).2.map (·.1)).Nodup ∧ ∀ x, look (t.loadW g k m).2 x = look m x + k * (t.occ.count x : Int)) (fun v fn args ih m hm hs hb => ?_) t
 have hl : ∀ (a : List Term), (∀ x ∈ a, ∀ m : List (Int × Int), (m.map (·.1)).Nodup → (x.size : Int) ≤ 1048576 → (∀ z, -4000000000 ≤ look m z - x.size ∧ look m z + x.size ≤ 4000000000) →
  (x.loadW g k m).1 = x.wt g ∧ ((x.loadW g k m).2.map (·.1)).Nodup ∧ ∀ z, look (x.loadW g k m).2 z = look m z + k * (x.occ.count z : Int)) →
   ∀ (acc : Int) (m : List (Int × Int)), (m.map (·.1)).Nodup → (sizeL a : Int) ≤ 1048576 → 0 ≤ acc → acc + 1000 * sizeL a ≤ 4000000000 → (∀ z, -4000000000 ≤ look m z - sizeL a ∧ look m z + sizeL a ≤ 4000000000) →
   (loadWL g k acc m a).1 = acc + wtL g a ∧ ((loadWL g k acc m a).2.map (·.1)).Nodup ∧ ∀ z, look (loadWL g k acc m a).2 z = look m z + k * ((occL a).count z : Int) := by
  intro a
  induction a with
  | nil => intro _ acc m hm _ _ _ _; simp [loadWL, wtL, occL, hm]
  | cons x r ih2 =>
   intro h acc m hm hs h0 hacc hb
   simp only [sizeL] at hs hacc hb
   have hx := h x (by simp) m hm (by omega) (fun z => by have := hb z; omega)
   have hw := wt_range g x
   have hwr : IntKind.i64.wrap (acc + x.wt g) = acc + x.wt g := wrap_small (by omega) (by omega)
   have hr := ih2 (fun z hz => h z (by simp [hz])) (acc + x.wt g) (x.loadW g k m).2 hx.2.1 (by omega) (by omega) (by omega) (fun z => by
    have h1 := hx.2.2 z
    have h2 := hb z
    have h3 : x.occ.count z ≤ x.size := Nat.le_trans List.count_le_length (occ_len x)
    rcases hk with rfl | rfl <;> omega)
   simp only [loadWL, hx.1, hwr]
   refine ⟨by rw [hr.1]; simp only [wtL]; omega, hr.2.1, fun z => ?_⟩
   rw [hr.2.2 z, hx.2.2 z]
   simp only [occL, List.count_append]
   rcases hk with rfl | rfl <;> omega
 have ho := of_range g fn
 simp only [Term.size] at hs hb
 by_cases hv : fn.toList = []
 ·have hbl : ∀ x, look (bump m v k) x = look m x + k * (([v] : List Int).count x : Int) := fun x => by
   rw [bump_look]
   by_cases hx : x = v
   ·subst hx
    have := hb x
    simp only [if_true, List.count_singleton_self]
    rw [wrap_small (by rcases hk with rfl | rfl <;> omega) (by rcases hk with rfl | rfl <;> omega)]
    omega
   ·have : ([v] : List Int).count x = 0 := List.count_eq_zero.2 (by simpa using hx)
    simp [hx, this]
  have hr := hl args ih (g.of fn) (bump m v k) (bump_nodup v k m hm) (by omega) (by omega) (by omega) (fun z => by
   have h1 := hbl z
   have h2 := hb z
   have h3 : ([v] : List Int).count z ≤ 1 := by simpa using List.count_le_length (a := z) (l := [v])
   rcases hk with rfl | rfl <;> omega)
  simp only [Term.loadW, if_pos hv, Term.wt, Term.occ, List.count_append]
  refine ⟨hr.1, hr.2.1, fun x => ?_⟩
  rw [hr.2.2 x, hbl x]
  rcases hk with rfl | rfl <;> omega
 ·have hr := hl args ih (g.of fn) m hm (by omega) (by omega) (by omega) (fun z => by have := hb z; omega)
  simp only [Term.loadW, if_neg hv, Term.wt, Term.occ, List.nil_append]
  exact hr
theorem look_mem : ∀ {m : List (Int × Int)}, (m.map (·.1)).Nodup → ∀ q ∈ m, look m q.1 = q.2
 | (u, n) :: r, h, q, hq => by
  simp only [List.map_cons, List.nodup_cons] at h
  rcases List.mem_cons.1 hq with rfl | hq
  ·simp [look]
  ·have : q.1 ≠ u := fun e => h.1 (e ▸ List.mem_map.2 ⟨q, hq, rfl⟩)
   simp only [look, if_neg this]
   exact look_mem h.2 q hq
theorem look_ne : ∀ {m : List (Int × Int)} {x : Int}, look m x ≠ 0 → (x, look m x) ∈ m
 | [], x, h => absurd rfl h
 | (u, n) :: r, x, h => by
  by_cases hx : x = u
  ·subst hx; simp [look]
  ·simp only [look, if_neg hx] at h ⊢
   exact List.mem_cons.2 (.inr (look_ne h))
theorem any_look {m : List (Int × Int)} (h : (m.map (·.1)).Nodup) (p : Int → Bool) (h0 : p 0 = false) : m.any (fun q => p q.2) = true ↔ ∃ x, p (look m x) = true := by
 rw [List.any_eq_true]
 constructor
 ·rintro ⟨q, hq, hp⟩
  exact ⟨q.1, by rw [look_mem h q hq]; exact hp⟩
 ·rintro ⟨x, hx⟩
  exact ⟨_, look_ne (fun e => by rw [e, h0] at hx; cases hx), hx⟩
mutual
def kgt (g : Sg) : Term → Term → Prop
 | .mk v1 f1 a1, .mk v2 f2 a2 =>
  (∀ x, (Term.mk v2 f2 a2).occ.count x ≤ (Term.mk v1 f1 a1).occ.count x) ∧
  ((Term.mk v2 f2 a2).wt g < (Term.mk v1 f1 a1).wt g ∨ ((Term.mk v1 f1 a1).wt g = (Term.mk v2 f2 a2).wt g ∧ f1.toList ≠ [] ∧ f2.toList ≠ [] ∧
   ((f1.toList ≠ f2.toList ∧ g.above f1 f2 = true) ∨ (f1.toList = f2.toList ∧ (a2.length < a1.length ∨ (a1.length = a2.length ∧ kgtL g a1 a2))))))
def kgtL (g : Sg) : List Term → List Term → Prop
 | t :: r, u :: s => (t = u ∧ kgtL g r s) ∨ (t ≠ u ∧ kgt g t u)
 | _, _ => False
end
theorem kgtL_irrefl (g : Sg) : ∀ (a : List Term), ¬ kgtL g a a
 | [], h => by simp [kgtL] at h
 | x :: r, h => by
  simp only [kgtL] at h
  rcases h with ⟨_, h⟩ | ⟨h, _⟩
  ·exact kgtL_irrefl g r h
  ·exact h rfl
theorem kgt_irrefl (g : Sg) (t : Term) : ¬ kgt g t t := by
 refine Term.ind (p := fun t => ¬ kgt g t t) (fun v fn args ih => ?_) t
 simp only [kgt]
 rintro ⟨_, h | ⟨_, _, _, ⟨h, _⟩ | ⟨_, h | ⟨_, h⟩⟩⟩⟩
 ·omega
 ·exact h rfl
 ·omega
 ·exact kgtL_irrefl g args h
theorem kgtL_trans_of {g : Sg} : ∀ (a b c : List Term), (∀ x ∈ a, ∀ y z, kgt g x y → kgt g y z → kgt g x z) → kgtL g a b → kgtL g b c → kgtL g a c
 | [], _, _, _, h, _ => by simp [kgtL] at h
 | _ :: _, [], _, _, h, _ => by simp [kgtL] at h
 | _ :: _, _ :: _, [], _, _, h => by simp [kgtL] at h
 | x :: r, y :: s, z :: t, hx, h, k => by
  simp only [kgtL] at h k ⊢
  rcases h with ⟨rfl, h⟩ | ⟨hn, h⟩ <;> rcases k with ⟨rfl, k⟩ | ⟨kn, k⟩
  ·exact .inl ⟨rfl, kgtL_trans_of r s t (fun w hw => hx w (by simp [hw])) h k⟩
  ·exact .inr ⟨kn, k⟩
  ·exact .inr ⟨hn, h⟩
  ·have := hx x (by simp) y z h k
   exact .inr ⟨fun e => kgt_irrefl g x (by rw [← e] at this; exact this), this⟩
theorem kgt_trans (g : Sg) (t : Term) : ∀ u w, kgt g t u → kgt g u w → kgt g t w := by
 refine Term.ind (p := fun t => ∀ u w, kgt g t u → kgt g u w → kgt g t w) (fun v fn args ih u w h k => ?_) t
 obtain ⟨v2, f2, a2⟩ := u
 obtain ⟨v3, f3, a3⟩ := w
 simp only [kgt] at h k ⊢
 obtain ⟨h1, h2⟩ := h
 obtain ⟨k1, k2⟩ := k
 refine ⟨fun x => Nat.le_trans (k1 x) (h1 x), ?_⟩
 rcases h2 with h2 | ⟨hw, n1, n2, h2⟩ <;> rcases k2 with k2 | ⟨kw, n3, n4, k2⟩
 ·exact .inl (Int.lt_trans k2 h2)
 ·exact .inl (by omega)
 ·exact .inl (by omega)
 ·refine .inr ⟨by omega, n1, n4, ?_⟩
  rcases h2 with ⟨hf, hab⟩ | ⟨hf, h2⟩ <;> rcases k2 with ⟨kf, kab⟩ | ⟨kf, k2⟩
  ·have hac := above_trans g hab kab
   exact .inl ⟨fun e => (by have := bytes_ext e; subst this; rw [above_irrefl] at hac; cases hac), hac⟩
  ·have := bytes_ext kf; subst this
   exact .inl ⟨hf, hab⟩
  ·have := bytes_ext hf; subst this
   exact .inl ⟨kf, kab⟩
  ·refine .inr ⟨hf.trans kf, ?_⟩
   rcases h2 with h2 | ⟨hlen, h2⟩ <;> rcases k2 with k2 | ⟨klen, k2⟩
   ·exact .inl (by omega)
   ·exact .inl (by omega)
   ·exact .inl (by omega)
   ·exact .inr ⟨hlen.trans klen, kgtL_trans_of args a2 a3 ih h2 k2⟩
theorem kgt_asymm {g : Sg} {t u : Term} (h : kgt g t u) : ¬ kgt g u t := fun k => kgt_irrefl g t (kgt_trans g t u t h k)
theorem kgtL_asymm {g : Sg} {a b : List Term} (h : kgtL g a b) : ¬ kgtL g b a := fun k => by
 exact kgtL_irrefl g a (kgtL_trans_of a b a (fun x _ y z => kgt_trans g x y z) h k)
open Classical in
theorem kcmp_spec (g : Sg) (t : Term) : ∀ u, t.shapeB = true → u.shapeB = true → (t.size : Int) ≤ 1048576 → (u.size : Int) ≤ 1048576 →
  t.kcmp g u = if t = u then 0 else if kgt g t u then 1 else if kgt g u t then -1 else 2 := by
 refine Term.ind (p := fun t => ∀ u, t.shapeB = true → u.shapeB = true → (t.size : Int) ≤ 1048576 → (u.size : Int) ≤ 1048576 →
  t.kcmp g u = if t = u then 0 else if kgt g t u then 1 else if kgt g u t then -1 else 2) (fun v fn args ih u ht hu hts hus => ?_) t
 obtain ⟨v2, f2, a2⟩ := u
 have hl : ∀ (a b : List Term), (∀ x ∈ a, x ∈ args) → (∀ x ∈ b, x ∈ a2) → a.length = b.length → a ≠ b → kcmpL g a b = if kgtL g a b then 1 else if kgtL g b a then -1 else 2 := by
  intro a
  induction a with
  | nil => intro b _ _ h h2; cases b with | nil => exact absurd rfl h2 | cons => simp at h
  | cons x r ih2 =>
   intro b ha hb h h2
   cases b with
   | nil => simp at h
   | cons y s =>
    by_cases hxy : x = y
    ·subst hxy
     have := ih2 s (fun z hz => ha z (by simp [hz])) (fun z hz => hb z (by simp [hz])) (by simpa using h) (fun e => h2 (by rw [e]))
     simp only [kcmpL, if_pos ((sameB_eq x x).2 rfl), kgtL, this]
     simp
    ·have hx := ha x (by simp)
     have hy := hb y (by simp)
     simp only [Term.shapeB, Bool.and_eq_true] at ht hu
     simp only [Term.size] at hts hus
     have h3 := sizeL_mem hx
     have h4 := sizeL_mem hy
     have hs : x.sameB y = false := sameB_ff.2 hxy
     have hyx : ¬ y = x := fun e => hxy e.symm
     have := ih x hx y (shapeBL_mem' ht.2 _ hx) (shapeBL_mem' hu.2 _ hy) (by omega) (by omega)
     simp only [kcmpL, hs, kgtL, this]
     simp [hxy, hyx]
 by_cases he : Term.mk v fn args = .mk v2 f2 a2
 ·rw [if_pos he]
  simp only [Term.kcmp, if_pos ((sameB_eq _ _).2 he)]
 ·rw [if_neg he]
  have hs : (Term.mk v fn args).sameB (.mk v2 f2 a2) = false := sameB_ff.2 he
  have h1 := loadW_ok g 1 (.inl rfl) (.mk v fn args) [] (by simp) hts (fun x => by simp [look]; omega)
  have h2 := loadW_ok g (-1) (.inr rfl) (.mk v2 f2 a2) ((Term.mk v fn args).loadW g 1 []).2 h1.2.1 hus (fun x => by
   have h3 := h1.2.2 x
   have h4 : (Term.mk v fn args).occ.count x ≤ (Term.mk v fn args).size := Nat.le_trans List.count_le_length (occ_len _)
   simp [look] at h3
   omega)
  have hlk : ∀ x, look (((Term.mk v2 f2 a2).loadW g (-1) ((Term.mk v fn args).loadW g 1 []).2).2) x = ((Term.mk v fn args).occ.count x : Int) - ((Term.mk v2 f2 a2).occ.count x : Int) := fun x => by
   rw [h2.2.2 x, h1.2.2 x]; simp [look]; omega
  have hmore := any_look h2.2.1 (fun n => decide (0 < n)) (by simp)
  have hless := any_look h2.2.1 (fun n => decide (n < 0)) (by simp)
  simp only [hlk, decide_eq_true_eq] at hmore hless
  have w1 := wt_range g (.mk v fn args)
  have w2 := wt_range g (.mk v2 f2 a2)
  have hd : IntKind.i64.wrap (((Term.mk v fn args).loadW g 1 []).1 - ((Term.mk v2 f2 a2).loadW g (-1) ((Term.mk v fn args).loadW g 1 []).2).1) = (Term.mk v fn args).wt g - (Term.mk v2 f2 a2).wt g := by
   rw [h1.1, h2.1]; exact wrap_small (by omega) (by omega)
  simp only [Term.kcmp, hs, hd]
  simp only [Bool.false_eq_true, if_false]
  have hmo : ((((Term.mk v2 f2 a2).loadW g (-1) ((Term.mk v fn args).loadW g 1 []).2).2.any fun q => decide (0 < q.2)) = true) ↔ ¬ ∀ x, (Term.mk v fn args).occ.count x ≤ (Term.mk v2 f2 a2).occ.count x := by
   rw [hmore, Classical.not_forall]
   exact exists_congr fun x => by omega
  have hle : ((((Term.mk v2 f2 a2).loadW g (-1) ((Term.mk v fn args).loadW g 1 []).2).2.any fun q => decide (q.2 < 0)) = true) ↔ ¬ ∀ x, (Term.mk v2 f2 a2).occ.count x ≤ (Term.mk v fn args).occ.count x := by
   rw [hless, Classical.not_forall]
   exact exists_congr fun x => by omega
  have hmo' := (Bool.eq_iff_iff.2 (hmo.trans (decide_eq_true_iff (p := ¬ ∀ x, (Term.mk v fn args).occ.count x ≤ (Term.mk v2 f2 a2).occ.count x)).symm))
  have hle' := (Bool.eq_iff_iff.2 (hle.trans (decide_eq_true_iff (p := ¬ ∀ x, (Term.mk v2 f2 a2).occ.count x ≤ (Term.mk v fn args).occ.count x)).symm))
  have hra : fn.toList ≠ [] → v = 0 := shapeB_v' ht
  have hrb : f2.toList ≠ [] → v2 = 0 := shapeB_v' hu
  have hl := hl args a2 (fun _ h => h) (fun _ h => h)
  clear hmo hle hmore hless hlk h1 h2 hd w1 w2
  rcases Classical.em (∀ x, (Term.mk v2 f2 a2).occ.count x ≤ (Term.mk v fn args).occ.count x) with hLE | hLE <;> rcases Classical.em (∀ x, (Term.mk v fn args).occ.count x ≤ (Term.mk v2 f2 a2).occ.count x) with hGE | hGE
  all_goals
   simp only [hLE, hGE, not_true_eq_false, not_false_eq_true, decide_true, decide_false] at hmo' hle'
   simp only [kgt, hmo', hle', hLE, hGE, true_and, false_and]
   rcases Int.lt_trichotomy ((Term.mk v fn args).wt g) ((Term.mk v2 f2 a2).wt g) with hw | hw | hw
   ·have q1 : ¬ 0 < (Term.mk v fn args).wt g - (Term.mk v2 f2 a2).wt g := by omega
    have q2 : (Term.mk v fn args).wt g - (Term.mk v2 f2 a2).wt g < 0 := by omega
    have q3 : ¬ (Term.mk v2 f2 a2).wt g < (Term.mk v fn args).wt g := by omega
    have q4 : ¬ (Term.mk v fn args).wt g = (Term.mk v2 f2 a2).wt g := by omega
    have q5 : ¬ (Term.mk v2 f2 a2).wt g = (Term.mk v fn args).wt g := by omega
    simp [q1, q2, q3, q4, q5, hw]
   ·simp only [hw, Int.sub_self, Int.lt_irrefl, if_false, false_or, true_and]
    by_cases n1 : fn.toList = []
    ·simp [n1]
    by_cases n2 : f2.toList = []
    ·simp [n1, n2]
    simp only [n1, n2, or_self, if_false, not_false_eq_true, true_and, ne_eq]
    by_cases hf : fn.toList = f2.toList
    ·have hf' := hf.symm
     have := bytes_ext hf; subst this
     simp only [not_true, false_and, false_or, true_and, if_false, not_true_eq_false]
     rcases Nat.lt_trichotomy args.length a2.length with hlen | hlen | hlen
     ·have b1 : ¬ args.length = a2.length := by omega
      have b2 : ¬ a2.length < args.length := by omega
      have b3 : ¬ a2.length = args.length := by omega
      simp [b1, b2, b3, hlen, sideI]
     ·have hne : args ≠ a2 := fun e => he (by rw [e, hra n1, hrb n2])
      have hk := hl hlen hne
      rw [hk]
      have b1 : ¬ args.length < a2.length := by omega
      have b2 : ¬ a2.length < args.length := by omega
      simp only [hlen, Nat.lt_irrefl, false_or, true_and, not_true, if_false, not_true_eq_false]
      by_cases g1 : kgtL g args a2
      ·have g2 := kgtL_asymm g1
       simp [g1, g2]
      ·by_cases g2 : kgtL g a2 args
       ·simp [g1, g2]
       ·simp [g1, g2]
     ·have b1 : ¬ args.length = a2.length := by omega
      have b2 : ¬ args.length < a2.length := by omega
      have b3 : ¬ a2.length = args.length := by omega
      simp [b1, b2, b3, hlen, sideI]
    ·have hf' : ¬ f2.toList = fn.toList := fun e => hf e.symm
     have ht := above_total g hf
     cases hab : g.above f2 fn
     ·rw [hab] at ht
      simp [hf, hf', hab, ht, sideI]
     ·rw [hab] at ht
      simp [hf, hf', hab, ht, sideI]
   ·have q1 : 0 < (Term.mk v fn args).wt g - (Term.mk v2 f2 a2).wt g := by omega
    have q3 : ¬ (Term.mk v fn args).wt g < (Term.mk v2 f2 a2).wt g := by omega
    have q4 : ¬ (Term.mk v fn args).wt g = (Term.mk v2 f2 a2).wt g := by omega
    have q5 : ¬ (Term.mk v2 f2 a2).wt g = (Term.mk v fn args).wt g := by omega
    simp [q1, q3, q4, q5, hw]
end Go.Proofs.YtajilkmepjhkdaaGreat.Am

/-
 Data of which less is known: terms, binds, names, numbers are that already. No condition.
-/
namespace Go.Proofs.YtajilkmepjhkdaaGreat.Am
open Go Go.Proofs
set_option linter.unusedSimpArgs false
@[simp] theorem wkL_encL : ∀ (ts : List Term), wkL (encL ts) = encL ts
 | [] => rfl
 | .mk v fn args :: r => by simp [encL, Term.enc, wkL_encL args, wkL_encL r]
@[simp] theorem wkL_encS (l : List ByteArray) : wkL (encS l) = encS l := by induction l <;> simp_all [encS]
@[simp] theorem wkL_encI (l : List Int) : wkL (encI l) = encI l := by induction l <;> simp_all [encI]
@[simp] theorem wkL_encB : ∀ (bs : List Bd), wkL (encB bs) = encB bs
 | [] => rfl
 | ⟨x, .mk v fn args⟩ :: r => by
  have := wkL_encB r
  simp [encB] at this
  simp [encB, Bd.enc, Term.enc, this]
theorem mapD_encT (H : Hp) (n : Nat) : ∀ (l : List D), mapD (reify H n) (l.map .d) = some (l, [])
 | [] => rfl
 | x :: r => by
  have h := mapD_encT H n r
  rw [List.map_cons, mapD, h]
  cases n <;> simp [reify]
end Go.Proofs.YtajilkmepjhkdaaGreat.Am

/-
 Rows of terms that grow. No condition.
-/
namespace Go.Proofs.YtajilkmepjhkdaaGreat.Am
open Go Go.Proofs
set_option maxHeartbeats 4000000
set_option linter.unusedSimpArgs false
set_option linter.unusedVariables false
theorem encL_append : ∀ (a b : List Term), encL (a ++ b) = encL a ++ encL b
 | [], _ => rfl
 | t :: r, b => by simp [encL, encL_append r b]
def rowT (l : List Term) : Am.Obj := if l = [] then .vnil else .grow ((encL l).map .d)
def rowA (o : Oid) (l : List Term) : AV := if l = [] then .osl o 0 0 1 0 else .osl o 0 l.length 3 (l.length * 3)
theorem append_rowT {H : Hp} {id : Nat} {o o2 : Oid} {l : List Term} {x : Term} (h : H o = some (rowT l)) (h2 : H o2 = some (.cells (x.enc.map .d))) (hl : l.length ≤ 1048576) :
  appendO Tryz.prog H id 40 40 (rowA o l) (.osl o2 0 1 3 3) = some (rowA o (l ++ [x]), upd H o (rowT (l ++ [x]))) := by
 have h3 : l.length * 3 ≤ 68719476736 := by omega
 have hx := x.enc_len
 have ha : ∀ l : List D, allD (l.map .d) = some l := fun l => by
  induction l with
  | nil => rfl
  | cons x r ih => simp [allD, ih]
 obtain ⟨v, fn, args⟩ := x
 simp only [Term.enc, List.map_cons, List.map_nil] at h2
 cases l with
 | nil =>
  simp only [rowT, if_true] at h
  simp [appendO, srcCells, srcRaw, h, h2, rowA, rowT, growO, encL, Term.enc, kill]
 | cons y r =>
  simp [rowT] at h
  have hel := encL_len (y :: r)
  have hel2 : (encL (y :: r)).length = (r.length + 1) * 3 := by simpa using hel
  have hle : ¬ ((r.length + 1) * 3 + 3 ≤ (r.length + 1) * 3) := by omega
  have h4 : (r.length + 1) * 3 ≤ 68719476736 := by simpa using h3
  simp [appendO, srcCells, srcRaw, h, h2, rowA, rowT, growO, Term.enc, kill, hel2, hle, h4, encL_append]
  refine ⟨by omega, ?_⟩
  rw [List.take_of_length_le (by simp [hel2])]
  have : encL (y :: (r ++ [Term.mk v fn args])) = encL (y :: r) ++ [.int .i64 v, .str fn, .sl (encL args) args.length false none] := by
   rw [show y :: (r ++ [Term.mk v fn args]) = (y :: r) ++ [Term.mk v fn args] from rfl, encL_append]
   simp [encL, Term.enc]
  rw [this]
  simp
theorem upd4 {H : Hp} {a b : Oid} {x x' y y' : Am.Obj} (h : a ≠ b) : upd (upd (upd (upd H a x) b y) a x') b y' = upd (upd H a x') b y' := by
 funext p
 simp only [upd]
 by_cases h1 : p = b
 ·simp [h1]
 ·by_cases h2 : p = a
  ·simp [h2, h]
  ·simp [h1, h2]
abbrev putB (v : Int) (fn : ByteArray) (args : List Term) : Hp :=
 upd (upd (upd (upd (upd (fun _ => none) (0, 0) (.cells [.d (.int .i64 v), .d (.str fn), .d (.sl (encL args) args.length false none)])) (1, 3) .vnil) (1, 0) (.cells [.d (.int .i64 0), .d (.str (ByteArray.mk #[])), .osl (1, 3) 0 0 1 0])) (8, 3) .vnil) (8, 0) (.cells [.d (.int .i64 0), .d (.str (ByteArray.mk #[])), .osl (8, 3) 0 0 1 0])
abbrev putH (v : Int) (fn : ByteArray) (args done : List Term) : Hp := upd (upd (putB v fn args) (9, 3) (rowT done)) (8, 0) (.cells [.d (.int .i64 0), .d (.str fn), rowA (9, 3) done])
end Go.Proofs.YtajilkmepjhkdaaGreat.Am

/-
 Rows that grow: appending. No condition.
-/
namespace Go.Proofs.YtajilkmepjhkdaaGreat.Am
open Go Go.Proofs
set_option maxHeartbeats 4000000
set_option linter.unusedSimpArgs false
def rowI (l : List Int) : Am.Obj := if l = [] then .vnil else .grow ((encI l).map .d)
theorem rowI_isRow (l : List Int) : (rowI l).isRow = true := by unfold rowI; split <;> rfl
theorem rowI_len (l : List Int) : (rowI l).cs.length = l.length := by unfold rowI; split <;> simp [Obj.cs, *]
theorem rowI_nil : rowI [] = .vnil := rfl
theorem growO_rowI (H : Hp) (o : Oid) (l : List Int) (n : Int) :
  growO H o (rowI l) 0 l.length 1 l.length 1 1 [.int .i64 n] = some (.osl o 0 (l.length + 1) 1 (l.length + 1), upd H o (rowI (l ++ [n]))) := by
 unfold rowI
 cases l with
 | nil => simp [growO, encI]
 | cons x r =>
  have h : ¬ (r.length + 1 ≤ r.length) := by omega
  simp [growO, encI, h]
  rw [List.take_of_length_le (by simp)]
theorem append_rowI {H : Hp} {id : Nat} {o o2 : Oid} {l : List Int} {x : Int} (h : H o = some (rowI l)) (h2 : H o2 = some (.cells [.d (.int .i64 x)])) (hl : l.length ≤ 68719476735) :
  appendO Tryz.prog H id 23 23 (.osl o 0 l.length 1 l.length) (.osl o2 0 1 1 1) = some (.osl o 0 (l.length + 1) 1 (l.length + 1), upd H o (rowI (l ++ [x]))) := by
 have h3 : l.length ≤ 68719476736 := by omega
 have h4 : ([D.int .i64 x] : List D).length ≤ 68719476736 := by simp
 simp [appendO, srcCells, srcRaw, h, h2, rowI_isRow, rowI_len, growO_rowI, h3, kill, -Obj.isRow, -Obj.cs]
 simp [Obj.isRow, Obj.cs]
 exact growO_rowI H o l x
theorem mapD_encI (H : Hp) (n : Nat) : ∀ (l : List Int), mapD (reify H n) ((encI l).map .d) = some (encI l, [])
 | [] => rfl
 | x :: r => by
  have h := mapD_encI H n r
  simp only [encI, List.map_cons] at h ⊢
  rw [mapD, h]
  cases n <;> simp [reify]
theorem mapD_encI2 (H : Hp) (n : Nat) (l : List Int) : mapD (reify H n) (List.map (AV.d ∘ D.int .i64) l) = some (encI l, []) := by
 have := mapD_encI H n l
 simpa [encI] using this
theorem reify_rowI {H : Hp} {o : Oid} {l : List Int} (h : H o = some (rowI l)) (n : Nat) : (reify H (n + 1) (.osl o 0 l.length 1 l.length)).map (·.1) = some (.sl (encI l) l.length false (some (decide (l = [])))) := by
 cases l with
 | nil => simp [reify, h, rowI, Obj.isRow, Obj.cs, nlOf, mapD, encI]
 | cons x r =>
  have := mapD_encI2 H n r
  have hx : reify H n (.d (.int .i64 x)) = some (.int .i64 x, []) := by cases n <;> rfl
  simp [reify, h, rowI, Obj.isRow, Obj.cs, nlOf, mapD, encI, this, hx]
  rw [List.take_of_length_le (by simp), this]
  simp [encI]
end Go.Proofs.YtajilkmepjhkdaaGreat.Am


/-
  Joined texts: Am19, AmS. No condition.
-/
import Derived.Test.YtiafeijkifpfaaaAmPaj
import Derived.ChangeArms
/-
 The abstract machine: arguments that a statement reads as data are data of the abstract machine. No condition.
-/
namespace Go.Proofs.Ytiafeijkifpfaaa.Am
open Go
set_option linter.unusedVariables false
structure CD (w : World) (ds : List D) (cs : List Value) : Prop where
 len : cs.length = ds.length
 rep : ∀ (j : Nat) (d : D), ds[j]? = some d → RepD (· < w.heap.size) w d (cs.getD j undef)
 one : ∀ j, j < cs.length → (cs.getD j undef).oneCell' = true
theorem CD.one1 {w : World} {d : D} {v : Value} (h : RepD (· < w.heap.size) w d v) (h1 : v.oneCell' = true) : CD w [d] [v] :=
 ⟨rfl, fun j x hx => by
  cases j with
  | zero => simp at hx; subst hx; simpa using h
  | succ j => simp at hx, fun j hj => by
  obtain rfl : j = 0 := by simpa using hj
  simpa using h1⟩
theorem CD.nil {w : World} : CD w [] [] := ⟨rfl, fun j x hx => by simp at hx, fun j hj => by simp at hj⟩
theorem CD.append {w : World} {a b : List D} {cs cs' : List Value} (h : CD w a cs) (k : CD w b cs') : CD w (a ++ b) (cs ++ cs') := by
 have h1 := h.len
 have h2 := k.len
 refine ⟨by simp [h1, h2], fun j x hx => ?_, fun j hj => ?_⟩
 ·rw [List.getElem?_append] at hx
  rw [List.getD_eq_getElem?_getD, List.getElem?_append]
  split at hx
  ·rename_i hj; rw [if_pos (by omega), ← List.getD_eq_getElem?_getD]; exact h.rep j x hx
  ·rename_i hj; rw [if_neg (by omega), h1, ← List.getD_eq_getElem?_getD]; exact k.rep _ x hx
 ·rw [List.getD_eq_getElem?_getD, List.getElem?_append]
  simp at hj
  split
  ·rename_i hj2; rw [← List.getD_eq_getElem?_getD]; exact h.one j hj2
  ·rename_i hj2; rw [← List.getD_eq_getElem?_getD]; exact k.one _ (by omega)
def Reads (P : Program) (t : TypeId) (n : Nat) {α : Type} (enc : α → List D) (wf : α → Prop) : Prop :=
 ∀ (H : Type) (e : TypeId × Value → H) (w : World) (base : Nat) (sp : Nat → Bool) (held : Bool) (fuel : Nat), fuel ≤ n → ∀ (cs : List Value) (d : DataW H × List MemPlace), DataW.trod e P w base sp held fuel t cs = some d →
  ∃ x : α, CD w (enc x) cs ∧ wf x
variable {P : Program} {t : TypeId} {n : Nat} {α β γ : Type}
theorem Reads.zero {enc : α → List D} {wf : α → Prop} : Reads P t 0 enc wf := by
 intro H e w base sp held fuel hf cs d h
 obtain rfl : fuel = 0 := by omega
 simp [DataW.trod] at h
theorem Reads.le {m : Nat} {enc : α → List D} {wf : α → Prop} (h : Reads P t n enc wf) (hm : m ≤ n) : Reads P t m enc wf :=
 fun H e w base sp held fuel hf => h H e w base sp held fuel (by omega)
theorem Reads.map {enc : α → List D} {wf : α → Prop} {enc' : β → List D} {wf' : β → Prop} (h : Reads P t n enc wf) (g : α → β) (he : ∀ x, enc' (g x) = enc x) (hw : ∀ x, wf x → wf' (g x)) : Reads P t n enc' wf' := by
 intro H e w base sp held fuel hf cs d hd
 obtain ⟨x, hx, hx2⟩ := h H e w base sp held fuel hf cs d hd
 exact ⟨g x, by rw [he]; exact hx, hw x hx2⟩
theorem Reads.int {k : IntKind} (ht : P.underlying t = some (.int k)) : Reads P t n (fun x : Int => [D.int k x]) (fun x => (Lit.int k x).wf = true) := by
 intro H e w base sp held fuel hf cs d h
 obtain ⟨m, rfl, _, hw⟩ := DataW.trod_int ht h
 exact ⟨m, .one1 (.int _ _) rfl, hw⟩
theorem Reads.bool (ht : P.underlying t = some .bool) : Reads P t n (fun x : Bool => [D.bool x]) (fun _ => True) := by
 intro H e w base sp held fuel hf cs d h
 obtain ⟨m, rfl, _⟩ := DataW.trod_bool ht h
 exact ⟨m, .one1 (.bool _) rfl, trivial⟩
theorem Reads.str (ht : P.underlying t = some .string) : Reads P t n (fun x : ByteArray => [D.str x]) (fun x => x.size ≤ maxLen) := by
 intro H e w base sp held fuel hf cs d h
 obtain ⟨m, rfl, _, hm⟩ := DataW.trod_string ht h
 exact ⟨m, .one1 (.str _) rfl, hm⟩
theorem choose_list {p : Nat → α → Prop} : ∀ (len : Nat), (∀ i, i < len → ∃ x, p i x) → ∃ xs : List α, xs.length = len ∧ ∀ i x, xs[i]? = some x → p i x := by
 intro len
 induction len with
 | zero => intro _; exact ⟨[], rfl, fun i x h => by simp at h⟩
 | succ k ih =>
  intro h
  obtain ⟨xs, hl, hx⟩ := ih fun i hi => h i (by omega)
  obtain ⟨y, hy⟩ := h k (by omega)
  refine ⟨xs ++ [y], by simp [hl], fun i x hi => ?_⟩
  rw [List.getElem?_append] at hi
  split at hi
  ·exact hx i x hi
  ·rename_i hn
   have : i = k := by
    have := (List.getElem?_eq_some_iff.1 hi).1
    simp at this; omega
   subst this
   rw [hl] at hi
   simp at hi
   subst hi; exact hy
theorem flatMap_at {enc : α → List D} {sz : Nat} : ∀ (xs : List α), (∀ x ∈ xs, (enc x).length = sz) → ∀ (j : Nat) (d : D), (xs.flatMap enc)[j]? = some d → ∃ i k x, j = i * sz + k ∧ k < sz ∧ xs[i]? = some x ∧ (enc x)[k]? = some d := by
 intro xs
 induction xs with
 | nil => intro _ j d h; simp at h
 | cons y r ih =>
  intro hl j d h
  rw [List.flatMap_cons, List.getElem?_append] at h
  have hy := hl y (by simp)
  split at h
  ·rename_i hj
   exact ⟨0, j, y, by simp, by omega, rfl, h⟩
  ·rename_i hj
   obtain ⟨i, k, x, e, hk, hx, hd⟩ := ih (fun x hx => hl x (by simp [hx])) _ d h
   exact ⟨i + 1, k, x, by rw [Nat.succ_mul]; omega, hk, by simpa using hx, hd⟩
theorem Reads.slice {e0 : TypeId} {enc : α → List D} {wf : α → Prop} (ht : P.underlying t = some (.slice e0)) (hsz : 0 < P.cellsOf e0) (h : Reads P e0 n enc wf) :
  Reads P t (n + 1) (fun xs : List α => [D.sl (xs.flatMap enc) xs.length false none]) (fun xs => xs.length ≤ maxLen ∧ ∀ x ∈ xs, wf x) := by
 intro H e w base sp held fuel hf cs d hd
 rcases DataW.trod_slice ht hd with ⟨rfl, _⟩ | ⟨a, len, cap, elems, rest, m, rfl, rfl, _, hba, hlc, hcm, hel, hat, _⟩
 ·exact ⟨[], .one1 (.sl [] 0 0 false none none (fun _ => undef) (Nat.le_refl _) (fun _ => rfl) (fun j hj => by simp at hj) (fun j x hx => by simp at hx) (fun hne => absurd rfl hne) (fun b hb => by cases hb)) rfl, by simp [maxLen], by simp⟩
 ·-- each element
  have hone : ∀ i, i < len → ∃ x, wf x ∧ (enc x).length = P.cellsOf e0 ∧ ∀ k d, (enc x)[k]? = some d → ∃ v, w.cell? (a.add (i * P.cellsOf e0 + k)) = some v ∧ v.oneCell' = true ∧ RepD (· < w.heap.size) w d v := by
   intro i hi
   obtain ⟨y, hy⟩ : ∃ y, elems[i]? = some y := ⟨elems[i]'(by omega), by simp [hel, hi]⟩
   have hb := hat i hi
   rw [hy, Option.bind_eq_some_iff] at hb
   obtain ⟨cs', hc, htr⟩ := hb
   obtain ⟨x, hx, hwf⟩ := h H e w base sp held m (by omega) cs' y htr
   have hcell : cs'.length = P.cellsOf e0 ∧ ∀ k, k < P.cellsOf e0 → w.cell? ((a.add (i * P.cellsOf e0)).add k) = cs'[k]? := by
    unfold World.cells? at hc
    split at hc
    ·exact ⟨by simpa using mapM_some_length hc, fun k hk => mapM_some_get hc k k (by simp [hk])⟩
    ·cases hc
   refine ⟨x, hwf, by rw [← hx.len]; exact hcell.1, fun k d hd => ?_⟩
   have hk : k < cs'.length := by rw [hx.len]; exact (List.getElem?_eq_some_iff.1 hd).1
   have hv : cs'[k]? = some (cs'.getD k undef) := by rw [List.getD_eq_getElem?_getD, List.getElem?_eq_getElem hk]; rfl
   refine ⟨cs'.getD k undef, ?_, hx.one k hk, hx.rep k d hd⟩
   rw [← add_add, hcell.2 k (by omega), hv]
  obtain ⟨xs, hxl, hx⟩ := choose_list len hone
  have hxsz : ∀ x ∈ xs, (enc x).length = P.cellsOf e0 := fun x hm => by
   obtain ⟨i, hi⟩ := List.mem_iff_getElem?.1 hm
   exact (hx i x hi).2.1
  have hget : ∀ j d, (xs.flatMap enc)[j]? = some d → ∃ v, w.cell? (a.add j) = some v ∧ v.oneCell' = true ∧ RepD (· < w.heap.size) w d v := fun j d hj => by
   obtain ⟨i, k, x, rfl, hk, hxi, hd⟩ := flatMap_at xs hxsz j d hj
   exact (hx i x hxi).2.2 k d hd
  have hgd : ∀ j, j < (xs.flatMap enc).length → ∃ v, w.cell? (a.add j) = some v ∧ v.oneCell' = true := fun j hj => by
   obtain ⟨v, h1, h2, _⟩ := hget j _ (List.getElem?_eq_getElem hj)
   exact ⟨v, h1, h2⟩
  refine ⟨xs, .one1 ?_ rfl, by omega, fun x hm => by
   obtain ⟨i, hi⟩ := List.mem_iff_getElem?.1 hm
   exact (hx i x hi).1⟩
  rw [← hxl] at hlc ⊢
  refine .sl _ _ cap false none (some a) (fun j => (w.cell? (a.add j)).getD undef) hlc (fun h => by cases h) (fun j hj => ?_) (fun j d hj => ?_) (fun hne => ?_) (fun b hb => by cases hb)
  ·obtain ⟨v, h1, h2⟩ := hgd j hj
   rw [h1]; exact h2
  ·obtain ⟨v, h1, _, h3⟩ := hget j d hj
   rw [h1]; exact h3
  ·refine ⟨a, rfl, ?_, fun j hj => ?_⟩
   ·obtain ⟨v, h1, _⟩ := hgd 0 (by cases hq : xs.flatMap enc with | nil => exact absurd hq hne | cons => simp)
    have := lt_of_cell h1
    rwa [add_block] at this
   ·obtain ⟨v, h1, _⟩ := hgd j hj
    rw [h1]; rfl
theorem Reads.struct2 {f0 f1 : Field} {s0 s1 : Nat} {e0 : α → List D} {w0 : α → Prop} {e1 : β → List D} {w1 : β → Prop} (ht : P.underlying t = some (.struct #[f0, f1])) (hs : P.cellsOf t = s0 + s1)
  (h0 : P.cellsOf f0.type = s0 ∧ f0.offset = 0) (h1 : P.cellsOf f1.type = s1 ∧ f1.offset = s0) (r0 : Reads P f0.type n e0 w0) (r1 : Reads P f1.type n e1 w1) :
  Reads P t (n + 1) (fun x : α × β => e0 x.1 ++ e1 x.2) (fun x => w0 x.1 ∧ w1 x.2) := by
 intro H e w base sp held fuel hf cs d hd
 obtain ⟨xs, m, rfl, _, hl, hn, hat⟩ := DataW.trod_struct ht hd
 match xs, hn with
 | [y0, y1], _ =>
  obtain ⟨x, hx, hwx⟩ := r0 H e w base sp held m (by omega) _ y0 (hat 0 f0 rfl)
  obtain ⟨y, hy, hwy⟩ := r1 H e w base sp held m (by omega) _ y1 (hat 1 f1 rfl)
  refine ⟨(x, y), ?_, hwx, hwy⟩
  rw [h0.1, h0.2] at hx
  rw [h1.1, h1.2] at hy
  have e : cs = (cs.drop 0).take s0 ++ (cs.drop s0).take s1 := by
   rw [List.drop_zero, List.take_of_length_le (l := cs.drop s0) (by simp; omega), List.take_append_drop]
  rw [e]
  exact hx.append hy
theorem Reads.struct3 {f0 f1 f2 : Field} {s0 s1 s2 : Nat} {e0 : α → List D} {w0 : α → Prop} {e1 : β → List D} {w1 : β → Prop} {e2 : γ → List D} {w2 : γ → Prop} (ht : P.underlying t = some (.struct #[f0, f1, f2])) (hs : P.cellsOf t = s0 + s1 + s2)
  (h0 : P.cellsOf f0.type = s0 ∧ f0.offset = 0) (h1 : P.cellsOf f1.type = s1 ∧ f1.offset = s0) (h2 : P.cellsOf f2.type = s2 ∧ f2.offset = s0 + s1) (r0 : Reads P f0.type n e0 w0) (r1 : Reads P f1.type n e1 w1) (r2 : Reads P f2.type n e2 w2) :
  Reads P t (n + 1) (fun x : α × β × γ => e0 x.1 ++ e1 x.2.1 ++ e2 x.2.2) (fun x => w0 x.1 ∧ w1 x.2.1 ∧ w2 x.2.2) := by
 intro H e w base sp held fuel hf cs d hd
 obtain ⟨xs, m, rfl, _, hl, hn, hat⟩ := DataW.trod_struct ht hd
 match xs, hn with
 | [y0, y1, y2], _ =>
  obtain ⟨x, hx, hwx⟩ := r0 H e w base sp held m (by omega) _ y0 (hat 0 f0 rfl)
  obtain ⟨y, hy, hwy⟩ := r1 H e w base sp held m (by omega) _ y1 (hat 1 f1 rfl)
  obtain ⟨z, hz, hwz⟩ := r2 H e w base sp held m (by omega) _ y2 (hat 2 f2 rfl)
  refine ⟨(x, y, z), ?_, hwx, hwy, hwz⟩
  rw [h0.1, h0.2] at hx
  rw [h1.1, h1.2] at hy
  rw [h2.1, h2.2] at hz
  have e : cs = ((cs.drop 0).take s0 ++ (cs.drop s0).take s1) ++ (cs.drop (s0 + s1)).take s2 := by
   rw [List.drop_zero, List.take_of_length_le (l := cs.drop (s0 + s1)) (by simp; omega), ← List.drop_drop, List.append_assoc, List.take_append_drop, List.take_append_drop]
  rw [e]
  exact (hx.append hy).append hz
end Go.Proofs.Ytiafeijkifpfaaa.Am

/-
 The abstract machine: how its runs are evaluated by simp. No condition.
-/
namespace Go.Proofs.Ytiafeijkifpfaaa.Am
open Go
set_option linter.unusedVariables false
attribute [simp] tch apart entriesOf lookupO mapO mapUpdateO mapEntryO entryStoreO deleteO mapLen copySrc copyO clearO idxArr fitD fitL fit1 eqD eqL eq1 findK stampAt isVal runRegion stepG stepGS stepOp stepOpS stepN isCall isNilC heapOp valOp ev cellsOf liftH liftCells lift1 isNil put liftsNil liftV liftV0 aggV consD aggK fieldPtr load Obj.isRow Obj.isFrz Obj.put Obj.cs part dpart binD isShift strOp intOp eqB unD idxAddr lenD results resultOf isFnD reifyAll mapD reify nlOf flat1 mkAgg mkTup allD storeO Hput splice litD buildD fillC fieldD tup1 sliceD bound minmax nilCmp
@[simp] theorem yieldF_eq : yieldF = 1000000000 := rfl
@[simp] theorem fn_ne {g : FuncId} (h : g < 1000000000) : (g = 1000000000) = False := eq_false (Nat.ne_of_lt h)
@[simp] theorem numF_lt {g : FuncId} (h : g < 1000000000) : numF g = g := if_pos (Nat.le_of_lt h)
@[simp] theorem joinF_lt {g : FuncId} {as cap : List AV} (h : g < 1000000000) : joinF g as cap = as ++ cap := if_pos (Nat.le_of_lt h)
@[simp] theorem numF_ge {g : FuncId} (h : 1000000000 < g) : numF g = g - 1000000001 := if_neg (Nat.not_le.2 h)
@[simp] theorem joinF_ge {g : FuncId} {as cap : List AV} (h : 1000000000 < g) : joinF g as cap = cap ++ as := if_neg (Nat.not_le.2 h)
@[simp] theorem int_bne (a b : Int) : (a != b) = !decide (a = b) := by by_cases h : a = b <;> simp [h]
@[simp] theorem int_beq (a b : Int) : (a == b) = decide (a = b) := by by_cases h : a = b <;> simp [h]
section
variable (P : Program) (pol : Pol) (cl : CallF) (lp : LoopF)
noncomputable def seqK (b : ACode) : Option (Ex × St) → Option (Ex × St)
 | some (.normal, st) => exec P pol cl lp b st
 | r => r
noncomputable def blockK (id : Nat) : Option (Ex × St) → Option (Ex × St)
 | some (.exit j, st) => some (if j = id then (.normal, st) else (.exit j, st))
 | r => r
noncomputable def finK (rs : List ResultVar) : Option (Ex × St) → Option (AV × Hp × Nat)
 | some (.normal, st) | some (.ret, st) => (results P st rs).bind fun v => some (v, st.hp, st.nx)
 | _ => none
noncomputable def loopK (c : ACode) (m : Mask) : Option (Ex × St) → Option (Ex × St)
 | some (.normal, st) => lp c m (back m st)
 | some (e, st) => some (e, back m st)
 | none => none
noncomputable def runK (id : Nat) (l : List AOp) : Option St → Option St
 | some st => runOps P pol cl id l st
 | none => none
noncomputable def runSK (id : Nat) (l : List AOp) : Option St → Option St
 | some st => runOpsS P pol cl id l st
 | none => none
@[simp] theorem seqK_normal (b : ACode) (st : St) : seqK P pol cl lp b (some (.normal, st)) = exec P pol cl lp b st := rfl
@[simp] theorem seqK_ret (b : ACode) (st : St) : seqK P pol cl lp b (some (.ret, st)) = some (.ret, st) := rfl
@[simp] theorem seqK_exit (b : ACode) (j : Nat) (st : St) : seqK P pol cl lp b (some (.exit j, st)) = some (.exit j, st) := rfl
@[simp] theorem seqK_none (b : ACode) : seqK P pol cl lp b none = none := rfl
@[simp] theorem blockK_normal (id : Nat) (st : St) : blockK id (some (.normal, st)) = some (.normal, st) := rfl
@[simp] theorem blockK_ret (id : Nat) (st : St) : blockK id (some (.ret, st)) = some (.ret, st) := rfl
@[simp] theorem blockK_exit (id j : Nat) (st : St) : blockK id (some (.exit j, st)) = some (if j = id then (.normal, st) else (.exit j, st)) := rfl
@[simp] theorem blockK_none (id : Nat) : blockK id none = none := rfl
@[simp] theorem finK_normal (rs : List ResultVar) (st : St) : finK P rs (some (.normal, st)) = (results P st rs).bind fun v => some (v, st.hp, st.nx) := rfl
@[simp] theorem finK_ret (rs : List ResultVar) (st : St) : finK P rs (some (.ret, st)) = (results P st rs).bind fun v => some (v, st.hp, st.nx) := rfl
@[simp] theorem finK_none (rs : List ResultVar) : finK P rs none = none := rfl
@[simp] theorem loopK_normal (c : ACode) (m : Mask) (st : St) : loopK lp c m (some (.normal, st)) = lp c m (back m st) := rfl
@[simp] theorem loopK_ret (c : ACode) (m : Mask) (st : St) : loopK lp c m (some (.ret, st)) = some (.ret, back m st) := rfl
@[simp] theorem loopK_exit (c : ACode) (m : Mask) (j : Nat) (st : St) : loopK lp c m (some (.exit j, st)) = some (.exit j, back m st) := rfl
@[simp] theorem loopK_none (c : ACode) (m : Mask) : loopK lp c m none = none := rfl
@[simp] theorem runK_some (id : Nat) (l : List AOp) (st : St) : runK P pol cl id l (some st) = runOps P pol cl id l st := rfl
@[simp] theorem runK_none (id : Nat) (l : List AOp) : runK P pol cl id l none = none := rfl
@[simp] theorem runSK_some (id : Nat) (l : List AOp) (st : St) : runSK P pol cl id l (some st) = runOpsS P pol cl id l st := rfl
@[simp] theorem runSK_none (id : Nat) (l : List AOp) : runSK P pol cl id l none = none := rfl
@[simp] theorem runOps_nil (id : Nat) (st : St) : runOps P pol cl id [] st = some st := rfl
@[simp] theorem runOps_cons (id : Nat) (o : AOp) (l : List AOp) (st : St) : runOps P pol cl id (o :: l) st = runK P pol cl (id + 1) l (stepG P pol cl id o st) := by
 rw [runOps]; cases stepG P pol cl id o st <;> rfl
@[simp] theorem runOpsS_nil (id : Nat) (st : St) : runOpsS P pol cl id [] st = some st := rfl
@[simp] theorem runOpsS_cons (id : Nat) (o : AOp) (l : List AOp) (st : St) : runOpsS P pol cl id (o :: l) st = runSK P pol cl (id + 1) l (stepGS P pol cl id o st) := by
 rw [runOpsS]; cases stepGS P pol cl id o st <;> rfl
@[simp] theorem exec_skip (st : St) : exec P pol cl lp .skip st = some (.normal, st) := rfl
@[simp] theorem exec_region (ops : List AOp) (st : St) : exec P pol cl lp (.region ops) st = (runOps P pol cl st.nx ops ⟨st.tm, st.hp, st.nx + ops.length⟩).map (Prod.mk Ex.normal) := by
 simp only [exec, runRegion]; cases runOps P pol cl st.nx ops ⟨st.tm, st.hp, st.nx + ops.length⟩ <;> rfl
@[simp] theorem exec_dregion (ops : List AOp) (st : St) : exec P pol cl lp (.dregion ops) st = (runOpsS P pol cl st.nx ops ⟨st.tm, st.hp, st.nx + ops.length⟩).map (Prod.mk Ex.normal) := by
 simp only [exec]; cases runOpsS P pol cl st.nx ops ⟨st.tm, st.hp, st.nx + ops.length⟩ <;> rfl
noncomputable def runLK (id : Nat) (l : List AOp) (lg : List Lg) (o : AOp) (s0 : St) : Option St → Option (St × List Lg)
 | some st => runOpsL P pol cl id l st (lg ++ [lgOf o s0 st])
 | none => none
@[simp] theorem runLK_some (id : Nat) (l : List AOp) (lg : List Lg) (o : AOp) (s0 : St) (st : St) : runLK P pol cl id l lg o s0 (some st) = runOpsL P pol cl id l st (lg ++ [lgOf o s0 st]) := rfl
@[simp] theorem runLK_none (id : Nat) (l : List AOp) (lg : List Lg) (o : AOp) (s0 : St) : runLK P pol cl id l lg o s0 none = none := rfl
@[simp] theorem isBuild_call (c : Go.Call) : isBuild (.call c) = false := rfl
@[simp] theorem isBuild_build (t : TypeId) (n : Nat) (ps : Array (Nat × Operand)) : isBuild (.buildSlice t n ps) = true := rfl
@[simp] theorem isLit_no (d : Option Tmp) (op : Op) (g : Option (Tmp × Bool)) : isLit ⟨d, op, g, false⟩ = false := rfl
@[simp] theorem isLit_yes (d : Option Tmp) (op : Op) (g : Option (Tmp × Bool)) : isLit ⟨d, op, g, true⟩ = isBuild op := rfl
@[simp] theorem lgOf_call (d : Option Tmp) (op : Op) (g : Option (Tmp × Bool)) (st st' : St) : lgOf ⟨d, op, g, true⟩ st st' = (tch ⟨d, op, g, true⟩ st.tm, if isBuild op then none else some (st.hp, st'.hp)) := by
 simp only [lgOf, Bool.true_and]; cases isBuild op <;> rfl
@[simp] theorem lgOf_other (d : Option Tmp) (op : Op) (g : Option (Tmp × Bool)) (st st' : St) : lgOf ⟨d, op, g, false⟩ st st' = (tch ⟨d, op, g, false⟩ st.tm, none) := rfl
@[simp] theorem keepsAt_none (t : Tch) : keepsAt none t = false := rfl
@[simp] theorem keepsAt_data (q : Hp × Hp) : keepsAt (some q) (some none) = true := rfl
@[simp] theorem keepsAt_no (q : Hp × Hp) : keepsAt (some q) none = false := rfl
@[simp] theorem keepsAt_obj (Hb Ha : Hp) (p : Oid) : keepsAt (some (Hb, Ha)) (some (some p)) = true ↔ Hb p = Ha p := by simp [keepsAt]
@[simp] theorem apartL_mk (t u : Tch) (q r : Option (Hp × Hp)) : apartL (t, q) (u, r) = (apart t u || (keepsAt q u || keepsAt r t)) := rfl
@[simp] theorem runOpsL_nil (id : Nat) (st : St) (lg : List Lg) : runOpsL P pol cl id [] st lg = some (st, lg) := rfl
@[simp] theorem runOpsL_cons (id : Nat) (o : AOp) (l : List AOp) (st : St) (lg : List Lg) : runOpsL P pol cl id (o :: l) st lg = runLK P pol cl (id + 1) l lg o st (stepGS P pol cl id o st) := by
 rw [runOpsL]; cases stepGS P pol cl id o st <;> rfl
noncomputable def pairK (prs : List (Nat × Nat)) : Option (St × List Lg) → Option (Ex × St)
 | some q => if pairsOk q.2 prs then some (.normal, q.1) else none
 | none => none
@[simp] theorem pairK_some (prs : List (Nat × Nat)) (st : St) (lg : List Lg) : pairK prs (some (st, lg)) = if pairsOk lg prs = true then some (.normal, st) else none := rfl
@[simp] theorem exec_tregion (ops : List AOp) (prs : List (Nat × Nat)) (st : St) : exec P pol cl lp (.tregion ops prs) st = pairK prs (runOpsL P pol cl st.nx ops ⟨st.tm, st.hp, st.nx + ops.length⟩ []) := by
 simp only [exec]; cases runOpsL P pol cl st.nx ops ⟨st.tm, st.hp, st.nx + ops.length⟩ [] <;> rfl
@[simp] theorem pairsOk_nil (lg : List Lg) : pairsOk lg [] = true := rfl
@[simp] theorem pairsOk_cons (lg : List Lg) (p : Nat × Nat) (l : List (Nat × Nat)) : pairsOk lg (p :: l) = (apartL (lg.getD p.1 (none, none)) (lg.getD p.2 (none, none)) && pairsOk lg l) := rfl
@[simp] theorem exec_seq (a b : ACode) (st : St) : exec P pol cl lp (.seq a b) st = seqK P pol cl lp b (exec P pol cl lp a st) := by
 simp only [exec]; rcases exec P pol cl lp a st with _ | ⟨e, s⟩ <;> first | rfl | (cases e <;> rfl)
noncomputable def holdE (c : ACode) (st : St) : Option (Ex × St) := exec P pol cl lp c st
noncomputable def condK (v : AV) (a b : ACode) (st : St) : Option (Ex × St) :=
 match v with
 | .d (.bool t) => if t then exec P pol cl lp a st else exec P pol cl lp b st
 | _ => none
@[simp] theorem exec_cond (c : Operand) (a b : ACode) (st : St) : exec P pol cl lp (.cond c a b) st = condK P pol cl lp (ev st.tm c) a b st := rfl
noncomputable def condP (p : Prop) [Decidable p] (a b : ACode) (st : St) : Option (Ex × St) := if p then exec P pol cl lp a st else exec P pol cl lp b st
@[simp] theorem condK_eq (t : Bool) (a b : ACode) (st : St) : condK P pol cl lp (.d (.bool t)) a b st = condP P pol cl lp (t = true) a b st := rfl
@[simp] theorem condP_true (a b : ACode) (st : St) : condP P pol cl lp True a b st = exec P pol cl lp a st := if_pos trivial
@[simp] theorem condP_false (a b : ACode) (st : St) : condP P pol cl lp False a b st = exec P pol cl lp b st := if_neg (fun h => h)
theorem condP_ite (p : Prop) [Decidable p] (a b : ACode) (st : St) : condP P pol cl lp p a b st = if p then holdE P pol cl lp a st else holdE P pol cl lp b st := rfl
def holdG (k : Option St) : Option St := k
def guardK (v : AV) (w : Bool) (o : AOp) (st : St) (k : Option St) : Option St :=
 match v with
 | .d (.bool b) => if b = w then k else some (put st o.dst (.d (.tup [])))
 | .d (.tup []) => some (put st o.dst (.d (.tup [])))
 | _ => none
@[simp] theorem guarded_none (d : Option Tmp) (op : Op) (b : Bool) (st : St) (k : Option St) : guarded ⟨d, op, none, b⟩ st k = k := rfl
@[simp] theorem guarded_some (d : Option Tmp) (op : Op) (t : Tmp) (w : Bool) (b : Bool) (st : St) (k : Option St) : guarded ⟨d, op, some (t, w), b⟩ st k = guardK (st.tm.getD t .junk) w ⟨d, op, some (t, w), b⟩ st k := rfl
@[simp] theorem guardK_skip (w : Bool) (o : AOp) (st : St) (k : Option St) : guardK (.d (.tup [])) w o st k = some (put st o.dst (.d (.tup []))) := rfl
@[simp] theorem guardK_t (b : Bool) (o : AOp) (st : St) (k : Option St) : guardK (.d (.bool b)) true o st k = if b = true then k else some (put st o.dst (.d (.tup []))) := rfl
@[simp] theorem guardK_f (b : Bool) (o : AOp) (st : St) (k : Option St) : guardK (.d (.bool b)) false o st k = if b = true then some (put st o.dst (.d (.tup []))) else k := by cases b <;> rfl
@[simp] theorem exec_block (id : Nat) (c : ACode) (st : St) : exec P pol cl lp (.block id c) st = blockK id (exec P pol cl lp c st) := by
 simp only [exec]; rcases exec P pol cl lp c st with _ | ⟨e, s⟩ <;> first | rfl | (cases e <;> rfl)
@[simp] theorem exec_loop (ks : List Bool) (keep : Bool) (c : ACode) (st : St) : exec P pol cl lp (.loop ks keep c) st = lp c ⟨ks, if keep then none else some st.nx⟩ ⟨maskT ks st.tm, st.hp, st.nx⟩ := rfl
def afterK (st : St) (o : Oid) : Option (AV × Hp × Nat) → Option (Ex × St)
 | some (_, H, nx) => match H o with
  | some (.rc _ _ _ _ .ready) => some (.normal, ⟨st.tm, dropO H o, nx⟩)
  | some (.rc _ _ _ _ (.left e)) => some (e, ⟨st.tm, dropO H o, nx⟩)
  | _ => none
 | none => none
noncomputable def rfunK (v : AV) (ps : List Tmp) (as body : ACode) (st : St) : Option (Ex × St) :=
 match v with
 | .fn f cap => if yieldF ≤ f then none else afterK st (st.nx, 0) (cl f (.yld (st.nx, 0) :: cap) (upd st.hp (st.nx, 0) (.rc ps as body st.tm .ready)) (st.nx + 1))
 | .d (.fn f cap) => if yieldF ≤ f then none else afterK st (st.nx, 0) (cl f (.yld (st.nx, 0) :: cap.map .d) (upd st.hp (st.nx, 0) (.rc ps as body st.tm .ready)) (st.nx + 1))
 | _ => none
@[simp] theorem rfunK_fn (f : FuncId) (cap : List AV) (ps : List Tmp) (as body : ACode) (st : St) : rfunK cl (.fn f cap) ps as body st = if yieldF ≤ f then none else afterK st (st.nx, 0) (cl f (.yld (st.nx, 0) :: cap) (upd st.hp (st.nx, 0) (.rc ps as body st.tm .ready)) (st.nx + 1)) := rfl
@[simp] theorem rfunK_d (f : FuncId) (cap : List D) (ps : List Tmp) (as body : ACode) (st : St) : rfunK cl (.d (.fn f cap)) ps as body st = if yieldF ≤ f then none else afterK st (st.nx, 0) (cl f (.yld (st.nx, 0) :: cap.map .d) (upd st.hp (st.nx, 0) (.rc ps as body st.tm .ready)) (st.nx + 1)) := rfl
theorem afterK_ready {st : St} {o : Oid} {v : AV} {H : Hp} {nx : Nat} {ps : List Tmp} {as bd : ACode} {tm : List AV} (h : H o = some (.rc ps as bd tm .ready)) : afterK st o (some (v, H, nx)) = some (.normal, ⟨st.tm, dropO H o, nx⟩) := by simp only [afterK, h]
theorem afterK_left {st : St} {o : Oid} {v : AV} {H : Hp} {nx : Nat} {ps : List Tmp} {as bd : ACode} {tm : List AV} {e : Ex} (h : H o = some (.rc ps as bd tm (.left e))) : afterK st o (some (v, H, nx)) = some (e, ⟨st.tm, dropO H o, nx⟩) := by simp only [afterK, h]
@[simp] theorem exec_rfun (g : Operand) (ps : List Tmp) (as body : ACode) (st : St) : exec P pol cl lp (.rfun g ps as body) st = rfunK cl (ev st.tm g) ps as body st := by
 simp only [exec]
 generalize ev st.tm g = v
 cases v with
 | d x =>
  cases x <;> try rfl
  rename_i f cap
  simp only [isFnD, rfunK]
  by_cases hf : yieldF ≤ f
  ·by_cases h2 : f = yieldF
   ·simp [h2]
   ·rw [if_neg h2, Option.bind_some]; simp only [if_pos hf]
  ·have h2 : f ≠ yieldF := fun e => hf (by rw [e]; exact Nat.le_refl _)
   simp only [if_neg hf, if_neg h2, Option.bind_some, List.cons_append, List.nil_append]
   cases cl f (.yld (st.nx, 0) :: cap.map .d) (upd st.hp (st.nx, 0) (.rc ps as body st.tm .ready)) (st.nx + 1) <;> rfl
 | fn f cap =>
  simp only [isFnD, rfunK]
  by_cases hf : yieldF ≤ f
  ·by_cases h2 : f = yieldF
   ·simp [h2]
   ·rw [if_neg h2, Option.bind_some]; simp only [if_pos hf]
  ·have h2 : f ≠ yieldF := fun e => hf (by rw [e]; exact Nat.le_refl _)
   simp only [if_neg hf, if_neg h2, Option.bind_some, List.cons_append, List.nil_append]
   cases cl f (.yld (st.nx, 0) :: cap) (upd st.hp (st.nx, 0) (.rc ps as body st.tm .ready)) (st.nx + 1) <;> rfl
 | yld o => simp [isFnD, rfunK]
 | _ => rfl
@[simp] theorem exec_exit (id : Nat) (st : St) : exec P pol cl lp (.exit id) st = some (.exit id, st) := rfl
@[simp] theorem exec_ret (st : St) : exec P pol cl lp .ret st = some (.ret, st) := rfl
theorem callF_body {f : FuncId} {c : ACode} {n : Nat} {rs : List ResultVar} (h : bodyOf P f = some (c, n, rs)) (hx : pol.ext f = none) (vs : List AV) (H : Hp) (nx : Nat) :
  callF P pol cl lp f vs H nx = finK P rs (exec P pol cl lp c ⟨vs ++ List.replicate (n - vs.length) .junk, H, nx⟩) := by
 have hne : f ≠ yieldF := fun e => by rw [e] at h; simp [bodyOf] at h
 simp only [callF, if_neg hne, hx, h, Option.bind_some]
 generalize exec P pol cl lp c ⟨vs ++ List.replicate (n - vs.length) .junk, H, nx⟩ = q
 rcases q with _ | ⟨e, s⟩
 ·rfl
 ·cases e <;> rfl
theorem loopF_body (c : ACode) (m : Mask) (st : St) : loopF P pol cl lp c m st = loopK lp c m (exec P pol cl lp c st) := by
 simp only [loopF]
 generalize exec P pol cl lp c st = q
 rcases q with _ | ⟨e, s⟩
 ·rfl
 ·cases e <;> rfl
end
theorem acall_body {P : Program} {pol : Pol} {f : FuncId} {c : ACode} {n : Nat} {rs : List ResultVar} (h : bodyOf P f = some (c, n, rs)) {vs : List AV} {H : Hp} {nx : Nat} {r : AV × Hp × Nat}
  (hr : finK P rs (exec P pol (acall P pol) (aloop P pol) c ⟨vs ++ List.replicate (n - vs.length) .junk, H, nx⟩) = some r) (hx : pol.ext f = none := by rfl) : acall P pol f vs H nx = some r :=
 acall_of P pol (by rw [callF_body (h := h) (hx := hx)]; exact hr)
theorem aloop_body {P : Program} {pol : Pol} {c : ACode} {m : Mask} {st : St} {r : Ex × St} (hr : loopK (aloop P pol) c m (exec P pol (acall P pol) (aloop P pol) c st) = some r) : aloop P pol c m st = some r :=
 aloop_of P pol (by rw [loopF_body]; exact hr)
noncomputable def datK : Option (AV × Hp × Nat) → Option D
 | some q => (reify q.2.1 6 q.1).map fun x => unfull x.1
 | none => none
@[simp] theorem datK_some (q : AV × Hp × Nat) : datK (some q) = (reify q.2.1 6 q.1).map (fun x => unfull x.1) := rfl
attribute [simp] unfull
@[simp] theorem datK_none : datK none = none := rfl
theorem pcl_body {P : Program} {pol : Pol} {f : FuncId} {c : ACode} {n : Nat} {rs : List ResultVar} (h : bodyOf P f = some (c, n, rs)) {ds : List D} {r : D}
  (hr : datK (finK P rs (exec P pol (acall P pol) (aloop P pol) c ⟨ds.map .d ++ List.replicate (n - ds.length) .junk, fun _ => none, 0⟩)) = some r) (hx : pol.ext f = none := by rfl) : pcl (acall P pol) f ds = some r := by
 refine pcl_of P pol ?_
 unfold pcl
 rw [callF_body (h := h) (hx := hx)]
 rw [List.length_map]
 revert hr
 cases finK P rs (exec P pol (acall P pol) (aloop P pol) c ⟨ds.map .d ++ List.replicate (n - ds.length) .junk, fun _ => none, 0⟩) <;> exact fun h => h
@[simp] theorem flatD_int (k : IntKind) (n : Int) : flatD (.int k n) = true := rfl
@[simp] theorem flatD_bool (b : Bool) : flatD (.bool b) = true := rfl
@[simp] theorem flatD_str (s : ByteArray) : flatD (.str s) = true := rfl
@[simp] theorem flatD_sl (cs : List D) (n : Nat) (f : Bool) (b : Option Bool) : flatD (.sl cs n f b) = false := rfl
@[simp] theorem flatD_agg (cs : List D) : flatD (.agg cs) = cs.all flat1 := rfl
@[simp] theorem flatD_tup (cs : List D) : flatD (.tup cs) = cs.all flat1 := rfl
@[simp] theorem flatD_dptr (cs : List D) : flatD (.dptr cs) = false := rfl
@[simp] theorem flatD_nilptr : flatD .nilptr = true := rfl
def pclK (H : Hp) (is : List Oid) (nx : Nat) : Option D → Option (AV × Hp × Nat)
 | some x => some (.d x, kill H (if flatD x then [] else is), nx)
 | none => none
@[simp] theorem pclK_some (H : Hp) (is : List Oid) (nx : Nat) (x : D) : pclK H is nx (some x) = some (.d x, kill H (if flatD x then [] else is), nx) := rfl
def callK (pol : Pol) (cl : CallF) (H : Hp) (nx : Nat) (f : FuncId) (vs : List AV) : Option (List D × List Oid) → Option (AV × Hp × Nat)
 | some (ds, is) => pclK H is nx ((pcl cl f (wkIf (pol.weak f) ds)).map (wk1 (pol.weak f)))
 | none => cl f vs H nx
@[simp] theorem callK_some (pol : Pol) (cl : CallF) (H : Hp) (nx : Nat) (f : FuncId) (vs : List AV) (ds : List D) (is : List Oid) : callK pol cl H nx f vs (some (ds, is)) = pclK H is nx ((pcl cl f (wkIf (pol.weak f) ds)).map (wk1 (pol.weak f))) := rfl
@[simp] theorem callK_none (pol : Pol) (cl : CallF) (H : Hp) (nx : Nat) (f : FuncId) (vs : List AV) : callK pol cl H nx f vs none = cl f vs H nx := rfl
@[simp] theorem callA_eq (pol : Pol) (cl : CallF) (H : Hp) (nx : Nat) (f : FuncId) (vs : List AV) : callA pol cl H nx f vs = callK pol cl H nx f vs (if pol.raw f then none else reifyAll (pol.deep f) H vs) := by
 unfold callA callK
 generalize (if pol.raw f = true then none else reifyAll (pol.deep f) H vs) = q
 rcases q with _ | ⟨ds, is⟩
 ·rfl
 ·show ((pcl cl f (wkIf (pol.weak f) ds)).map (wk1 (pol.weak f))).bind _ = pclK H is nx ((pcl cl f (wkIf (pol.weak f) ds)).map (wk1 (pol.weak f)))
  cases (pcl cl f (wkIf (pol.weak f) ds)).map (wk1 (pol.weak f)) <;> rfl
def pclSK (is : List Oid) : Option D → Option (AV × List Oid)
 | some x => some (.d x, if flatD x then [] else is)
 | none => none
@[simp] theorem pclSK_some (is : List Oid) (x : D) : pclSK is (some x) = some (.d x, if flatD x then [] else is) := rfl
def callSK (pol : Pol) (cl : CallF) (f : FuncId) : Option (List D × List Oid) → Option (AV × List Oid)
 | some (ds, is) => pclSK is ((pcl cl f (wkIf (pol.weak f) ds)).map (wk1 (pol.weak f)))
 | none => none
@[simp] theorem callSK_some (pol : Pol) (cl : CallF) (f : FuncId) (ds : List D) (is : List Oid) : callSK pol cl f (some (ds, is)) = pclSK is ((pcl cl f (wkIf (pol.weak f) ds)).map (wk1 (pol.weak f))) := rfl
@[simp] theorem wkIf_false (ds : List D) : wkIf false ds = ds := rfl
@[simp] theorem wk1_false : wk1 false = id := rfl
@[simp] theorem wk1_true : wk1 true = wk := rfl
@[simp] theorem wkIf_true (ds : List D) : wkIf true ds = wkL ds := rfl
attribute [simp] wk wkL
@[simp] theorem callS_eq (pol : Pol) (cl : CallF) (H : Hp) (f : FuncId) (vs : List AV) : callS pol cl H f vs = callSK pol cl f (if pol.raw f then none else reifyAll (pol.deep f) H vs) := by
 unfold callS callSK
 generalize (if pol.raw f = true then none else reifyAll (pol.deep f) H vs) = q
 rcases q with _ | ⟨ds, is⟩
 ·rfl
 ·show ((pcl cl f (wkIf (pol.weak f) ds)).map (wk1 (pol.weak f))).bind _ = pclSK is ((pcl cl f (wkIf (pol.weak f) ds)).map (wk1 (pol.weak f)))
  cases (pcl cl f (wkIf (pol.weak f) ds)).map (wk1 (pol.weak f)) <;> rfl
def Ends (x : Option (Ex × St)) (e : Ex) (tm : List AV) (H : Hp) : Prop := ∃ nx, x = some (e, ⟨tm, H, nx⟩)
theorem Ends.mk {e : Ex} {tm : List AV} {H : Hp} {nx : Nat} : Ends (some (e, ⟨tm, H, nx⟩)) e tm H := ⟨nx, rfl⟩
theorem Ends.body {P : Program} {pol : Pol} {c : ACode} {m : Mask} {st : St} {e : Ex} {tm : List AV} {H : Hp} (h : Ends (loopK (aloop P pol) c m (exec P pol (acall P pol) (aloop P pol) c st)) e tm H) : Ends (aloop P pol c m st) e tm H := by
 obtain ⟨nx, h⟩ := h
 exact ⟨nx, aloop_body h⟩
def EndsP (x : Option (Ex × St)) (e : Ex) (pre : List AV) (k : Nat) (H : Hp) : Prop := ∃ tl nx, tl.length = k ∧ x = some (e, ⟨pre ++ tl, H, nx⟩)
theorem EndsP.mk {e : Ex} {tm pre : List AV} {k : Nat} {H : Hp} {nx : Nat} (h1 : tm.take pre.length = pre) (h2 : tm.length = pre.length + k) : EndsP (some (e, ⟨tm, H, nx⟩)) e pre k H :=
 ⟨tm.drop pre.length, nx, by rw [List.length_drop]; omega, by
  have h := List.take_append_drop pre.length tm
  rw [h1] at h
  rw [h]⟩
theorem EndsP.body {P : Program} {pol : Pol} {c : ACode} {m : Mask} {st : St} {e : Ex} {pre : List AV} {k : Nat} {H : Hp} (h : EndsP (loopK (aloop P pol) c m (exec P pol (acall P pol) (aloop P pol) c st)) e pre k H) : EndsP (aloop P pol c m st) e pre k H := by
 obtain ⟨tl, nx, hl, h⟩ := h
 exact ⟨tl, nx, hl, aloop_body h⟩
@[simp] theorem set_get {tl : List AV} {k : Nat} {v : AV} (h : k < tl.length) : (tl.set k v)[k]? = some v := by simp [h]
def RetAt (x : Option (Ex × St)) (t : Nat) (v : AV) : Prop := ∃ tm H nx, x = some (.ret, ⟨tm, H, nx⟩) ∧ tm[t]?.getD .junk = v
theorem RetAt.body {P : Program} {pol : Pol} {c : ACode} {m : Mask} {st : St} {t : Nat} {v : AV} (h : RetAt (loopK (aloop P pol) c m (exec P pol (acall P pol) (aloop P pol) c st)) t v) : RetAt (aloop P pol c m st) t v := by
 obtain ⟨tm, H, nx, h, hv⟩ := h
 exact ⟨tm, H, nx, aloop_body h, hv⟩
theorem RetAt.mk {tm : List AV} {H : Hp} {nx t : Nat} {v : AV} (h : tm[t]?.getD .junk = v) : RetAt (some (.ret, ⟨tm, H, nx⟩)) t v := ⟨tm, H, nx, rfl, h⟩
theorem wrap_i64 {n : Int} (h : -9223372036854775808 ≤ n) (h2 : n < 9223372036854775808) : IntKind.i64.wrap n = n := by
 simp only [IntKind.wrap, IntKind.signed, IntKind.bits]
 simp
 split <;> omega
def below (k : Nat) (H : Hp) : Hp := fun p => if p.1 < k then H p else none
@[simp] theorem back_eq (ks : List Bool) (k : Nat) (tm : List AV) (H : Hp) (nx : Nat) : back ⟨ks, some k⟩ ⟨tm, H, nx⟩ = ⟨maskT ks tm, below k H, nx⟩ := rfl
@[simp] theorem back_keep (ks : List Bool) (tm : List AV) (H : Hp) (nx : Nat) : back ⟨ks, none⟩ ⟨tm, H, nx⟩ = ⟨maskT ks tm, H, nx⟩ := rfl
@[simp] theorem maskT_true (bs : List Bool) (v : AV) (vs : List AV) : maskT (true :: bs) (v :: vs) = v :: maskT bs vs := rfl
@[simp] theorem maskT_false (bs : List Bool) (v : AV) (vs : List AV) : maskT (false :: bs) (v :: vs) = .junk :: maskT bs vs := rfl
@[simp] theorem maskT_nil (vs : List AV) : maskT [] vs = vs := rfl
@[simp] theorem maskT_nil' (bs : List Bool) : maskT bs [] = [] := by cases bs <;> rfl
@[simp] theorem below_none (k : Nat) : below k (fun _ => none) = fun _ => none := by funext p; simp [below]
@[simp] theorem below_upd_ge {k i : Nat} (h : k ≤ i) (j : Nat) (H : Hp) (x : Obj) : below k (upd H (i, j) x) = below k H := by
 funext p
 simp only [below, upd]
 split
 ·rw [if_neg]; rintro rfl; simp at *; omega
 ·rfl
@[simp] theorem below_upd_lt {k i : Nat} (h : i < k) (j : Nat) (H : Hp) (x : Obj) : below k (upd H (i, j) x) = upd (below k H) (i, j) x := by
 funext p
 simp only [below, upd]
 by_cases hp : p = (i, j)
 ·subst hp; simp [h]
 ·simp [hp]
@[simp] theorem upd_same (H : Hp) (o : Oid) (x : Obj) : upd H o x o = some x := by simp [upd]
@[simp] theorem upd_fst {i j k l : Nat} (h : (i == k) = false) (H : Hp) (x : Obj) : upd H (i, j) x (k, l) = H (k, l) := by
 simp at h; simp only [upd]; rw [if_neg]; intro e; exact h (by cases e; rfl)
@[simp] theorem upd_snd {i j l : Nat} (h : (j == l) = false) (H : Hp) (x : Obj) : upd H (i, j) x (i, l) = H (i, l) := by
 simp at h; simp only [upd]; rw [if_neg]; intro e; exact h (by cases e; rfl)
@[simp] theorem upd_upd (H : Hp) (o : Oid) (x y : Obj) : upd (upd H o x) o y = upd H o y := by
 funext p; simp only [upd]; split <;> rfl
@[simp] theorem kill_nil' (H : Hp) : kill H [] = H := by funext p; simp [kill]
inductive Round {P : Program} {pol : Pol} {c : ACode} {m : Mask} {σ ρ : Type} (b : Nat) (tm : σ → List AV) (Hf : σ → Hp) (I : σ → Prop) (μ : σ → Nat) (res : σ → ρ) (R : ρ → Ex → St → Prop) (s : σ) : Option (Ex × St) → Prop where
 | next (s' : σ) {tm' : List AV} {H' : Hp} {n : Nat} (hn : b ≤ n) (htm : tm' = tm s') (hH : H' = Hf s') (hI : I s') (hμ : μ s' < μ s) (hres : res s' = res s) : Round b tm Hf I μ res R s (aloop P pol c m ⟨tm', H', n⟩)
 | fin (e : Ex) (t : St) (hR : R (res s) e t) : Round b tm Hf I μ res R s (some (e, t))
@[congr] theorem Round.congr {P : Program} {pol : Pol} {c : ACode} {m : Mask} {σ ρ : Type} {b : Nat} {tm : σ → List AV} {Hf : σ → Hp} {I : σ → Prop} {μ : σ → Nat} {res : σ → ρ} {R : ρ → Ex → St → Prop} {s : σ} {x y : Option (Ex × St)} (h : x = y) :
  Round (P := P) (pol := pol) (c := c) (m := m) b tm Hf I μ res R s x = Round (P := P) (pol := pol) (c := c) (m := m) b tm Hf I μ res R s y := by rw [h]
theorem loop_rule {P : Program} {pol : Pol} {c : ACode} {m : Mask} {σ ρ : Type} {b : Nat} {tm : σ → List AV} {Hf : σ → Hp} {I : σ → Prop} {μ : σ → Nat} {res : σ → ρ} {R : ρ → Ex → St → Prop}
  (h : ∀ s nx, I s → Round (P := P) (pol := pol) (c := c) (m := m) b tm Hf I μ res R s (loopK (aloop P pol) c m (exec P pol (acall P pol) (aloop P pol) c ⟨tm s, Hf s, nx + b⟩))) :
  ∀ s, I s → ∃ e t, aloop P pol c m ⟨tm s, Hf s, b⟩ = some (e, t) ∧ R (res s) e t := by
 have key : ∀ n s nx, μ s < n → I s → ∃ e t, aloop P pol c m ⟨tm s, Hf s, nx + b⟩ = some (e, t) ∧ R (res s) e t := by
  intro n
  induction n with
  | zero => intro s nx h; omega
  | succ n ih =>
   intro s nx hn hI
   have hr := h s nx hI
   generalize hx : loopK (aloop P pol) c m (exec P pol (acall P pol) (aloop P pol) c ⟨tm s, Hf s, nx + b⟩) = x at hr
   cases hr with
   | @next s' tm' H' n' hb htm hH hI' hμ hres =>
    obtain ⟨e, t, h1, h2⟩ := ih s' (n' - b) (by omega) hI'
    rw [Nat.sub_add_cancel hb] at h1
    exact ⟨e, t, aloop_body (by rw [hx, htm, hH, h1]), hres ▸ h2⟩
   | fin e t hR => exact ⟨e, t, aloop_body hx, hR⟩
 intro s hI
 have := key (μ s + 1) s 0 (by omega) hI
 rwa [Nat.zero_add] at this
def AtRet (t : Nat) (v : AV) (e : Ex) (st : St) : Prop := e = .ret ∧ st.tm[t]?.getD .junk = v
def AtExit (j : Nat) (tm : List AV) (H : Hp) (e : Ex) (st : St) : Prop := e = .exit j ∧ ∃ nx, st = ⟨tm, H, nx⟩
theorem AtExit.mk {j : Nat} {tm : List AV} {H : Hp} {nx : Nat} : AtExit j tm H (.exit j) ⟨tm, H, nx⟩ := ⟨rfl, nx, rfl⟩
def fromI {α : Type} (p : α → Bool) (l : List α) (i : Nat) : Option Nat := ((l.drop i).findIdx? p).map (i + ·)
@[simp] theorem fromI_end {α : Type} (p : α → Bool) (l : List α) : fromI p l l.length = none := by simp [fromI]
theorem fromI_zero {α : Type} (p : α → Bool) (l : List α) : fromI p l 0 = l.findIdx? p := by simp [fromI]
theorem fromI_step {α : Type} {p : α → Bool} {l : List α} {i : Nat} (h : i < l.length) : fromI p l i = if p l[i] then some i else fromI p l (i + 1) := by
 unfold fromI
 rw [List.drop_eq_getElem_cons h, List.findIdx?_cons]
 by_cases hp : p l[i] = true
 ·simp [hp]
 ·simp only [hp, Bool.false_eq_true, if_false, Option.map_map]
  congr 1
  funext k; simp; omega
end Go.Proofs.Ytiafeijkifpfaaa.Am


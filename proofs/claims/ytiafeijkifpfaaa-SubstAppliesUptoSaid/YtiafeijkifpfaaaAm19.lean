/-
  The abstract machine: arguments that a statement reads as data are data of the abstract machine. No condition.
-/
import Derived.Test.YtiafeijkifpfaaaAm18
import Derived.ChangeArms
namespace Go.Proofs.Ytiafeijkifpfaaa.Am
open Go
set_option linter.unusedVariables false

/-- Cells in a world stand for data. -/
structure CD (w : World) (ds : List D) (cs : List Value) : Prop where
  len : cs.length = ds.length
  rep : ∀ (j : Nat) (d : D), ds[j]? = some d → RepD (· < w.heap.size) w d (cs.getD j undef)
  one : ∀ j, j < cs.length → (cs.getD j undef).oneCell' = true
theorem CD.one1 {w : World} {d : D} {v : Value} (h : RepD (· < w.heap.size) w d v) (h1 : v.oneCell' = true) : CD w [d] [v] :=
  ⟨rfl, fun j x hx => by
    cases j with
    | zero => simp at hx; subst hx; simpa using h
    | succ j => simp at hx, fun j hj => by
    obtain rfl : j = 0 := by simpa using hj
    simpa using h1⟩
theorem CD.nil {w : World} : CD w [] [] := ⟨rfl, fun j x hx => by simp at hx, fun j hj => by simp at hj⟩
theorem CD.append {w : World} {a b : List D} {cs cs' : List Value} (h : CD w a cs) (k : CD w b cs') : CD w (a ++ b) (cs ++ cs') := by
  have h1 := h.len
  have h2 := k.len
  refine ⟨by simp [h1, h2], fun j x hx => ?_, fun j hj => ?_⟩
  · rw [List.getElem?_append] at hx
    rw [List.getD_eq_getElem?_getD, List.getElem?_append]
    split at hx
    · rename_i hj; rw [if_pos (by omega), ← List.getD_eq_getElem?_getD]; exact h.rep j x hx
    · rename_i hj; rw [if_neg (by omega), h1, ← List.getD_eq_getElem?_getD]; exact k.rep _ x hx
  · rw [List.getD_eq_getElem?_getD, List.getElem?_append]
    simp at hj
    split
    · rename_i hj2; rw [← List.getD_eq_getElem?_getD]; exact h.one j hj2
    · rename_i hj2; rw [← List.getD_eq_getElem?_getD]; exact k.one _ (by omega)

/-- How a type's values are read: as 'enc x' for some x. -/
def Reads (P : Program) (t : TypeId) (n : Nat) {α : Type} (enc : α → List D) (wf : α → Prop) : Prop :=
  ∀ (H : Type) (e : TypeId × Value → H) (w : World) (base : Nat) (sp : Nat → Bool) (held : Bool) (fuel : Nat), fuel ≤ n → ∀ (cs : List Value) (d : DataW H × List MemPlace), DataW.trod e P w base sp held fuel t cs = some d →
    ∃ x : α, CD w (enc x) cs ∧ wf x
variable {P : Program} {t : TypeId} {n : Nat} {α β γ : Type}
theorem Reads.zero {enc : α → List D} {wf : α → Prop} : Reads P t 0 enc wf := by
  intro H e w base sp held fuel hf cs d h
  obtain rfl : fuel = 0 := by omega
  simp [DataW.trod] at h
theorem Reads.le {m : Nat} {enc : α → List D} {wf : α → Prop} (h : Reads P t n enc wf) (hm : m ≤ n) : Reads P t m enc wf :=
  fun H e w base sp held fuel hf => h H e w base sp held fuel (by omega)
theorem Reads.map {enc : α → List D} {wf : α → Prop} {enc' : β → List D} {wf' : β → Prop} (h : Reads P t n enc wf) (g : α → β) (he : ∀ x, enc' (g x) = enc x) (hw : ∀ x, wf x → wf' (g x)) : Reads P t n enc' wf' := by
  intro H e w base sp held fuel hf cs d hd
  obtain ⟨x, hx, hx2⟩ := h H e w base sp held fuel hf cs d hd
  exact ⟨g x, by rw [he]; exact hx, hw x hx2⟩
theorem Reads.int {k : IntKind} (ht : P.underlying t = some (.int k)) : Reads P t n (fun x : Int => [D.int k x]) (fun x => (Lit.int k x).wf = true) := by
  intro H e w base sp held fuel hf cs d h
  obtain ⟨m, rfl, _, hw⟩ := DataW.trod_int ht h
  exact ⟨m, .one1 (.int _ _) rfl, hw⟩
theorem Reads.bool (ht : P.underlying t = some .bool) : Reads P t n (fun x : Bool => [D.bool x]) (fun _ => True) := by
  intro H e w base sp held fuel hf cs d h
  obtain ⟨m, rfl, _⟩ := DataW.trod_bool ht h
  exact ⟨m, .one1 (.bool _) rfl, trivial⟩
theorem Reads.str (ht : P.underlying t = some .string) : Reads P t n (fun x : ByteArray => [D.str x]) (fun x => x.size ≤ maxLen) := by
  intro H e w base sp held fuel hf cs d h
  obtain ⟨m, rfl, _, hm⟩ := DataW.trod_string ht h
  exact ⟨m, .one1 (.str _) rfl, hm⟩
theorem choose_list {p : Nat → α → Prop} : ∀ (len : Nat), (∀ i, i < len → ∃ x, p i x) → ∃ xs : List α, xs.length = len ∧ ∀ i x, xs[i]? = some x → p i x := by
  intro len
  induction len with
  | zero => intro _; exact ⟨[], rfl, fun i x h => by simp at h⟩
  | succ k ih =>
    intro h
    obtain ⟨xs, hl, hx⟩ := ih fun i hi => h i (by omega)
    obtain ⟨y, hy⟩ := h k (by omega)
    refine ⟨xs ++ [y], by simp [hl], fun i x hi => ?_⟩
    rw [List.getElem?_append] at hi
    split at hi
    · exact hx i x hi
    · rename_i hn
      have : i = k := by
        have := (List.getElem?_eq_some_iff.1 hi).1
        simp at this; omega
      subst this
      rw [hl] at hi
      simp at hi
      subst hi; exact hy
theorem flatMap_at {enc : α → List D} {sz : Nat} : ∀ (xs : List α), (∀ x ∈ xs, (enc x).length = sz) → ∀ (j : Nat) (d : D), (xs.flatMap enc)[j]? = some d → ∃ i k x, j = i * sz + k ∧ k < sz ∧ xs[i]? = some x ∧ (enc x)[k]? = some d := by
  intro xs
  induction xs with
  | nil => intro _ j d h; simp at h
  | cons y r ih =>
    intro hl j d h
    rw [List.flatMap_cons, List.getElem?_append] at h
    have hy := hl y (by simp)
    split at h
    · rename_i hj
      exact ⟨0, j, y, by simp, by omega, rfl, h⟩
    · rename_i hj
      obtain ⟨i, k, x, e, hk, hx, hd⟩ := ih (fun x hx => hl x (by simp [hx])) _ d h
      exact ⟨i + 1, k, x, by rw [Nat.succ_mul]; omega, hk, by simpa using hx, hd⟩
theorem Reads.slice {e0 : TypeId} {enc : α → List D} {wf : α → Prop} (ht : P.underlying t = some (.slice e0)) (hsz : 0 < P.cellsOf e0) (h : Reads P e0 n enc wf) :
    Reads P t (n + 1) (fun xs : List α => [D.sl (xs.flatMap enc) xs.length false none]) (fun xs => xs.length ≤ maxLen ∧ ∀ x ∈ xs, wf x) := by
  intro H e w base sp held fuel hf cs d hd
  rcases DataW.trod_slice ht hd with ⟨rfl, _⟩ | ⟨a, len, cap, elems, rest, m, rfl, rfl, _, hba, hlc, hcm, hel, hat, _⟩
  · exact ⟨[], .one1 (.sl [] 0 0 false none none (fun _ => undef) (Nat.le_refl _) (fun _ => rfl) (fun j hj => by simp at hj) (fun j x hx => by simp at hx) (fun hne => absurd rfl hne) (fun b hb => by cases hb)) rfl, by simp [maxLen], by simp⟩
  · -- each element
    have hone : ∀ i, i < len → ∃ x, wf x ∧ (enc x).length = P.cellsOf e0 ∧ ∀ k d, (enc x)[k]? = some d → ∃ v, w.cell? (a.add (i * P.cellsOf e0 + k)) = some v ∧ v.oneCell' = true ∧ RepD (· < w.heap.size) w d v := by
      intro i hi
      obtain ⟨y, hy⟩ : ∃ y, elems[i]? = some y := ⟨elems[i]'(by omega), by simp [hel, hi]⟩
      have hb := hat i hi
      rw [hy, Option.bind_eq_some_iff] at hb
      obtain ⟨cs', hc, htr⟩ := hb
      obtain ⟨x, hx, hwf⟩ := h H e w base sp held m (by omega) cs' y htr
      have hcell : cs'.length = P.cellsOf e0 ∧ ∀ k, k < P.cellsOf e0 → w.cell? ((a.add (i * P.cellsOf e0)).add k) = cs'[k]? := by
        unfold World.cells? at hc
        split at hc
        · exact ⟨by simpa using mapM_some_length hc, fun k hk => mapM_some_get hc k k (by simp [hk])⟩
        · cases hc
      refine ⟨x, hwf, by rw [← hx.len]; exact hcell.1, fun k d hd => ?_⟩
      have hk : k < cs'.length := by rw [hx.len]; exact (List.getElem?_eq_some_iff.1 hd).1
      have hv : cs'[k]? = some (cs'.getD k undef) := by rw [List.getD_eq_getElem?_getD, List.getElem?_eq_getElem hk]; rfl
      refine ⟨cs'.getD k undef, ?_, hx.one k hk, hx.rep k d hd⟩
      rw [← add_add, hcell.2 k (by omega), hv]
    obtain ⟨xs, hxl, hx⟩ := choose_list len hone
    have hxsz : ∀ x ∈ xs, (enc x).length = P.cellsOf e0 := fun x hm => by
      obtain ⟨i, hi⟩ := List.mem_iff_getElem?.1 hm
      exact (hx i x hi).2.1
    have hget : ∀ j d, (xs.flatMap enc)[j]? = some d → ∃ v, w.cell? (a.add j) = some v ∧ v.oneCell' = true ∧ RepD (· < w.heap.size) w d v := fun j d hj => by
      obtain ⟨i, k, x, rfl, hk, hxi, hd⟩ := flatMap_at xs hxsz j d hj
      exact (hx i x hxi).2.2 k d hd
    have hgd : ∀ j, j < (xs.flatMap enc).length → ∃ v, w.cell? (a.add j) = some v ∧ v.oneCell' = true := fun j hj => by
      obtain ⟨v, h1, h2, _⟩ := hget j _ (List.getElem?_eq_getElem hj)
      exact ⟨v, h1, h2⟩
    refine ⟨xs, .one1 ?_ rfl, by omega, fun x hm => by
      obtain ⟨i, hi⟩ := List.mem_iff_getElem?.1 hm
      exact (hx i x hi).1⟩
    rw [← hxl] at hlc ⊢
    refine .sl _ _ cap false none (some a) (fun j => (w.cell? (a.add j)).getD undef) hlc (fun h => by cases h) (fun j hj => ?_) (fun j d hj => ?_) (fun hne => ?_) (fun b hb => by cases hb)
    · obtain ⟨v, h1, h2⟩ := hgd j hj
      rw [h1]; exact h2
    · obtain ⟨v, h1, _, h3⟩ := hget j d hj
      rw [h1]; exact h3
    · refine ⟨a, rfl, ?_, fun j hj => ?_⟩
      · obtain ⟨v, h1, _⟩ := hgd 0 (by cases hq : xs.flatMap enc with | nil => exact absurd hq hne | cons => simp)
        have := lt_of_cell h1
        rwa [add_block] at this
      · obtain ⟨v, h1, _⟩ := hgd j hj
        rw [h1]; rfl
theorem Reads.struct2 {f0 f1 : Field} {s0 s1 : Nat} {e0 : α → List D} {w0 : α → Prop} {e1 : β → List D} {w1 : β → Prop} (ht : P.underlying t = some (.struct #[f0, f1])) (hs : P.cellsOf t = s0 + s1)
    (h0 : P.cellsOf f0.type = s0 ∧ f0.offset = 0) (h1 : P.cellsOf f1.type = s1 ∧ f1.offset = s0) (r0 : Reads P f0.type n e0 w0) (r1 : Reads P f1.type n e1 w1) :
    Reads P t (n + 1) (fun x : α × β => e0 x.1 ++ e1 x.2) (fun x => w0 x.1 ∧ w1 x.2) := by
  intro H e w base sp held fuel hf cs d hd
  obtain ⟨xs, m, rfl, _, hl, hn, hat⟩ := DataW.trod_struct ht hd
  match xs, hn with
  | [y0, y1], _ =>
    obtain ⟨x, hx, hwx⟩ := r0 H e w base sp held m (by omega) _ y0 (hat 0 f0 rfl)
    obtain ⟨y, hy, hwy⟩ := r1 H e w base sp held m (by omega) _ y1 (hat 1 f1 rfl)
    refine ⟨(x, y), ?_, hwx, hwy⟩
    rw [h0.1, h0.2] at hx
    rw [h1.1, h1.2] at hy
    have e : cs = (cs.drop 0).take s0 ++ (cs.drop s0).take s1 := by
      rw [List.drop_zero, List.take_of_length_le (l := cs.drop s0) (by simp; omega), List.take_append_drop]
    rw [e]
    exact hx.append hy
theorem Reads.struct3 {f0 f1 f2 : Field} {s0 s1 s2 : Nat} {e0 : α → List D} {w0 : α → Prop} {e1 : β → List D} {w1 : β → Prop} {e2 : γ → List D} {w2 : γ → Prop} (ht : P.underlying t = some (.struct #[f0, f1, f2])) (hs : P.cellsOf t = s0 + s1 + s2)
    (h0 : P.cellsOf f0.type = s0 ∧ f0.offset = 0) (h1 : P.cellsOf f1.type = s1 ∧ f1.offset = s0) (h2 : P.cellsOf f2.type = s2 ∧ f2.offset = s0 + s1) (r0 : Reads P f0.type n e0 w0) (r1 : Reads P f1.type n e1 w1) (r2 : Reads P f2.type n e2 w2) :
    Reads P t (n + 1) (fun x : α × β × γ => e0 x.1 ++ e1 x.2.1 ++ e2 x.2.2) (fun x => w0 x.1 ∧ w1 x.2.1 ∧ w2 x.2.2) := by
  intro H e w base sp held fuel hf cs d hd
  obtain ⟨xs, m, rfl, _, hl, hn, hat⟩ := DataW.trod_struct ht hd
  match xs, hn with
  | [y0, y1, y2], _ =>
    obtain ⟨x, hx, hwx⟩ := r0 H e w base sp held m (by omega) _ y0 (hat 0 f0 rfl)
    obtain ⟨y, hy, hwy⟩ := r1 H e w base sp held m (by omega) _ y1 (hat 1 f1 rfl)
    obtain ⟨z, hz, hwz⟩ := r2 H e w base sp held m (by omega) _ y2 (hat 2 f2 rfl)
    refine ⟨(x, y, z), ?_, hwx, hwy, hwz⟩
    rw [h0.1, h0.2] at hx
    rw [h1.1, h1.2] at hy
    rw [h2.1, h2.2] at hz
    have e : cs = ((cs.drop 0).take s0 ++ (cs.drop s0).take s1) ++ (cs.drop (s0 + s1)).take s2 := by
      rw [List.drop_zero, List.take_of_length_le (l := cs.drop (s0 + s1)) (by simp; omega), ← List.drop_drop, List.append_assoc, List.take_append_drop, List.take_append_drop]
    rw [e]
    exact (hx.append hy).append hz

end Go.Proofs.Ytiafeijkifpfaaa.Am

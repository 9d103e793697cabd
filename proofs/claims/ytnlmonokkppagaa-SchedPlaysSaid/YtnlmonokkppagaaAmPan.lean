/-
  Joined texts: AmR. No condition.
-/
import Derived.Test.YtnlmonokkppagaaAmPam
import Derived.Test.YtnlmonokkppagaaRows
/-
  Arguments that a statement reads, with their bulk. No condition.
-/
namespace Go.Proofs.Ytnlmonokkppagaa.Am
open Go
set_option linter.unusedVariables false

/-- How a type's values are read: as 'enc x' for some x, of so much bulk at least. -/
def ReadsB (P : Program) (t : TypeId) (n : Nat) {α : Type} (enc : α → List D) (wf : α → Prop) (sz : α → Nat) : Prop :=
  ∀ (H : Type) (e : TypeId × Value → H) (w : World) (base : Nat) (sp : Nat → Bool) (held : Bool) (fuel : Nat), fuel ≤ n → ∀ (cs : List Value) (d : DataW H × List MemPlace), DataW.trod e P w base sp held fuel t cs = some d →
    ∃ x : α, CD w (enc x) cs ∧ wf x ∧ sz x ≤ Rows.uptoBulk d.1
variable {P : Program} {t : TypeId} {n : Nat} {α β γ : Type}
theorem ReadsB.zero {enc : α → List D} {wf : α → Prop} {sz : α → Nat} : ReadsB P t 0 enc wf sz := by
  intro H e w base sp held fuel hf cs d h
  obtain rfl : fuel = 0 := by omega
  simp [DataW.trod] at h
theorem ReadsB.le {m : Nat} {enc : α → List D} {wf : α → Prop} {sz : α → Nat} (h : ReadsB P t n enc wf sz) (hm : m ≤ n) : ReadsB P t m enc wf sz :=
  fun H e w base sp held fuel hf => h H e w base sp held fuel (by omega)
theorem ReadsB.map {enc : α → List D} {wf : α → Prop} {sz : α → Nat} {enc' : β → List D} {wf' : β → Prop} {sz' : β → Nat} (h : ReadsB P t n enc wf sz) (g : α → β) (he : ∀ x, enc' (g x) = enc x) (hw : ∀ x, wf x → wf' (g x)) (hs : ∀ x, sz' (g x) ≤ sz x) : ReadsB P t n enc' wf' sz' := by
  intro H e w base sp held fuel hf cs d hd
  obtain ⟨x, hx, hx2, hx3⟩ := h H e w base sp held fuel hf cs d hd
  exact ⟨g x, by rw [he]; exact hx, hw x hx2, Nat.le_trans (hs x) hx3⟩
theorem bulk_pos {H : Type} (d : DataW H) : 1 ≤ Rows.uptoBulk d := by
  cases d with
  | lit l => cases l <;> simp [Rows.uptoBulk]
  | _ => simp [Rows.uptoBulk]
theorem ReadsB.int {k : IntKind} (ht : P.underlying t = some (.int k)) : ReadsB P t n (fun x : Int => [D.int k x]) (fun x => (Lit.int k x).wf = true) (fun _ => 1) := by
  intro H e w base sp held fuel hf cs d h
  obtain ⟨m, rfl, _, hw⟩ := DataW.trod_int ht h
  exact ⟨m, .one1 (.int _ _) rfl, hw, bulk_pos _⟩
theorem ReadsB.str (ht : P.underlying t = some .string) : ReadsB P t n (fun x : ByteArray => [D.str x]) (fun x => x.size ≤ maxLen) (fun _ => 1) := by
  intro H e w base sp held fuel hf cs d h
  obtain ⟨m, rfl, _, hm⟩ := DataW.trod_string ht h
  exact ⟨m, .one1 (.str _) rfl, hm, bulk_pos _⟩
theorem bulkAll_append {H : Type} (l r : List (DataW H)) : Rows.uptoBulkAll (l ++ r) = Rows.uptoBulkAll l + Rows.uptoBulkAll r := by
  induction l with
  | nil => simp [Rows.uptoBulkAll]
  | cons x l ih => simp only [List.cons_append, Rows.uptoBulkAll, ih]; omega
/-- Sums, place by place. -/
theorem sum_le {H : Type} {sz : α → Nat} : ∀ (xs : List α) (ds : List (DataW H)), xs.length = ds.length → (∀ (i : Nat) (x : α) (d : DataW H), xs[i]? = some x → ds[i]? = some d → sz x ≤ Rows.uptoBulk d) → (xs.map sz).sum ≤ Rows.uptoBulkAll ds
  | [], [], _, _ => by simp [Rows.uptoBulkAll]
  | [], _ :: _, h, _ => by simp at h
  | _ :: _, [], h, _ => by simp at h
  | x :: r, d :: s, h, k => by
    have h1 := k 0 x d rfl rfl
    have h2 := sum_le r s (by simpa using h) (fun i y e hy he => k (i + 1) y e (by simpa using hy) (by simpa using he))
    simp only [List.map_cons, List.sum_cons, Rows.uptoBulkAll]; omega
theorem ReadsB.slice {e0 : TypeId} {enc : α → List D} {wf : α → Prop} {sz : α → Nat} (ht : P.underlying t = some (.slice e0)) (hsz : 0 < P.cellsOf e0) (h : ReadsB P e0 n enc wf sz) :
    ReadsB P t (n + 1) (fun xs : List α => [D.sl (xs.flatMap enc) xs.length false none]) (fun xs => xs.length ≤ maxLen ∧ ∀ x ∈ xs, wf x) (fun xs => (xs.map sz).sum + 1) := by
  intro H e w base sp held fuel hf cs d hd
  rcases DataW.trod_slice ht hd with ⟨rfl, rfl⟩ | ⟨a, len, cap, elems, rest, m, rfl, rfl, rfl, hba, hlc, hcm, hel, hat, _⟩
  · exact ⟨[], .one1 (.sl [] 0 0 false none none (fun _ => undef) (Nat.le_refl _) (fun _ => rfl) (fun j hj => by simp at hj) (fun j x hx => by simp at hx) (fun hne => absurd rfl hne) (fun b hb => by cases hb)) rfl, by simp [maxLen], bulk_pos _⟩
  · have hone : ∀ i, i < len → ∃ x, (wf x ∧ ∀ y, elems[i]? = some y → sz x ≤ Rows.uptoBulk y.1) ∧ (enc x).length = P.cellsOf e0 ∧ ∀ k d, (enc x)[k]? = some d → ∃ v, w.cell? (a.add (i * P.cellsOf e0 + k)) = some v ∧ v.oneCell' = true ∧ RepD (· < w.heap.size) w d v := by
      intro i hi
      obtain ⟨y, hy⟩ : ∃ y, elems[i]? = some y := ⟨elems[i]'(by omega), by simp [hel, hi]⟩
      have hb := hat i hi
      rw [hy, Option.bind_eq_some_iff] at hb
      obtain ⟨cs', hc, htr⟩ := hb
      obtain ⟨x, hx, hwf, hbk⟩ := h H e w base sp held m (by omega) cs' y htr
      have hcell : cs'.length = P.cellsOf e0 ∧ ∀ k, k < P.cellsOf e0 → w.cell? ((a.add (i * P.cellsOf e0)).add k) = cs'[k]? := by
        unfold World.cells? at hc
        split at hc
        · exact ⟨by simpa using mapM_some_length hc, fun k hk => mapM_some_get hc k k (by simp [hk])⟩
        · cases hc
      refine ⟨x, ⟨hwf, fun y' hy' => by rw [hy] at hy'; cases hy'; exact hbk⟩, by rw [← hx.len]; exact hcell.1, fun k d hd => ?_⟩
      have hk : k < cs'.length := by rw [hx.len]; exact (List.getElem?_eq_some_iff.1 hd).1
      have hv : cs'[k]? = some (cs'.getD k undef) := by rw [List.getD_eq_getElem?_getD, List.getElem?_eq_getElem hk]; rfl
      refine ⟨cs'.getD k undef, ?_, hx.one k hk, hx.rep k d hd⟩
      rw [← add_add, hcell.2 k (by omega), hv]
    obtain ⟨xs, hxl, hx⟩ := choose_list len hone
    have hxsz : ∀ x ∈ xs, (enc x).length = P.cellsOf e0 := fun x hm => by
      obtain ⟨i, hi⟩ := List.mem_iff_getElem?.1 hm
      exact (hx i x hi).2.1
    have hget : ∀ j d, (xs.flatMap enc)[j]? = some d → ∃ v, w.cell? (a.add j) = some v ∧ v.oneCell' = true ∧ RepD (· < w.heap.size) w d v := fun j d hj => by
      obtain ⟨i, k, x, rfl, hk, hxi, hd⟩ := flatMap_at xs hxsz j d hj
      exact (hx i x hxi).2.2 k d hd
    have hgd : ∀ j, j < (xs.flatMap enc).length → ∃ v, w.cell? (a.add j) = some v ∧ v.oneCell' = true := fun j hj => by
      obtain ⟨v, h1, h2, _⟩ := hget j _ (List.getElem?_eq_getElem hj)
      exact ⟨v, h1, h2⟩
    refine ⟨xs, .one1 ?_ rfl, ⟨by omega, fun x hm => by
      obtain ⟨i, hi⟩ := List.mem_iff_getElem?.1 hm
      exact (hx i x hi).1.1⟩, ?_⟩
    · rw [← hxl] at hlc ⊢
      refine .sl _ _ cap false none (some a) (fun j => (w.cell? (a.add j)).getD undef) hlc (fun h => by cases h) (fun j hj => ?_) (fun j d hj => ?_) (fun hne => ?_) (fun b hb => by cases hb)
      · obtain ⟨v, h1, h2⟩ := hgd j hj
        rw [h1]; exact h2
      · obtain ⟨v, h1, _, h3⟩ := hget j d hj
        rw [h1]; exact h3
      · refine ⟨a, rfl, ?_, fun j hj => ?_⟩
        · obtain ⟨v, h1, _⟩ := hgd 0 (by cases hq : xs.flatMap enc with | nil => exact absurd hq hne | cons => simp)
          have := lt_of_cell h1
          rwa [add_block] at this
        · obtain ⟨v, h1, _⟩ := hgd j hj
          rw [h1]; rfl
    · have := sum_le (sz := sz) xs (elems.map (·.1)) (by simp; omega) (fun i x d h1 h2 => by
        simp only [List.getElem?_map, Option.map_eq_some_iff] at h2
        obtain ⟨y, hy, rfl⟩ := h2
        exact (hx i x h1).1.2 y hy)
      simp only [Rows.uptoBulk]; omega
theorem ReadsB.struct2 {f0 f1 : Field} {s0 s1 : Nat} {e0 : α → List D} {w0 : α → Prop} {z0 : α → Nat} {e1 : β → List D} {w1 : β → Prop} {z1 : β → Nat} (ht : P.underlying t = some (.struct #[f0, f1])) (hs : P.cellsOf t = s0 + s1)
    (h0 : P.cellsOf f0.type = s0 ∧ f0.offset = 0) (h1 : P.cellsOf f1.type = s1 ∧ f1.offset = s0) (r0 : ReadsB P f0.type n e0 w0 z0) (r1 : ReadsB P f1.type n e1 w1 z1) :
    ReadsB P t (n + 1) (fun x : α × β => e0 x.1 ++ e1 x.2) (fun x => w0 x.1 ∧ w1 x.2) (fun x => z0 x.1 + z1 x.2 + 1) := by
  intro H e w base sp held fuel hf cs d hd
  obtain ⟨xs, m, rfl, rfl, hl, hn, hat⟩ := DataW.trod_struct ht hd
  match xs, hn with
  | [y0, y1], _ =>
    obtain ⟨x, hx, hwx, hb0⟩ := r0 H e w base sp held m (by omega) _ y0 (hat 0 f0 rfl)
    obtain ⟨y, hy, hwy, hb1⟩ := r1 H e w base sp held m (by omega) _ y1 (hat 1 f1 rfl)
    refine ⟨(x, y), ?_, ⟨hwx, hwy⟩, by simp only [List.map_cons, List.map_nil, Rows.uptoBulk, Rows.uptoBulkAll]; omega⟩
    rw [h0.1, h0.2] at hx
    rw [h1.1, h1.2] at hy
    have e : cs = (cs.drop 0).take s0 ++ (cs.drop s0).take s1 := by
      rw [List.drop_zero, List.take_of_length_le (l := cs.drop s0) (by simp; omega), List.take_append_drop]
    rw [e]
    exact hx.append hy
theorem ReadsB.struct3 {f0 f1 f2 : Field} {s0 s1 s2 : Nat} {e0 : α → List D} {w0 : α → Prop} {z0 : α → Nat} {e1 : β → List D} {w1 : β → Prop} {z1 : β → Nat} {e2 : γ → List D} {w2 : γ → Prop} {z2 : γ → Nat} (ht : P.underlying t = some (.struct #[f0, f1, f2])) (hs : P.cellsOf t = s0 + s1 + s2)
    (h0 : P.cellsOf f0.type = s0 ∧ f0.offset = 0) (h1 : P.cellsOf f1.type = s1 ∧ f1.offset = s0) (h2 : P.cellsOf f2.type = s2 ∧ f2.offset = s0 + s1) (r0 : ReadsB P f0.type n e0 w0 z0) (r1 : ReadsB P f1.type n e1 w1 z1) (r2 : ReadsB P f2.type n e2 w2 z2) :
    ReadsB P t (n + 1) (fun x : α × β × γ => e0 x.1 ++ e1 x.2.1 ++ e2 x.2.2) (fun x => w0 x.1 ∧ w1 x.2.1 ∧ w2 x.2.2) (fun x => z0 x.1 + z1 x.2.1 + z2 x.2.2 + 1) := by
  intro H e w base sp held fuel hf cs d hd
  obtain ⟨xs, m, rfl, rfl, hl, hn, hat⟩ := DataW.trod_struct ht hd
  match xs, hn with
  | [y0, y1, y2], _ =>
    obtain ⟨x, hx, hwx, hb0⟩ := r0 H e w base sp held m (by omega) _ y0 (hat 0 f0 rfl)
    obtain ⟨y, hy, hwy, hb1⟩ := r1 H e w base sp held m (by omega) _ y1 (hat 1 f1 rfl)
    obtain ⟨z, hz, hwz, hb2⟩ := r2 H e w base sp held m (by omega) _ y2 (hat 2 f2 rfl)
    refine ⟨(x, y, z), ?_, ⟨hwx, hwy, hwz⟩, by simp only [List.map_cons, List.map_nil, Rows.uptoBulk, Rows.uptoBulkAll]; omega⟩
    rw [h0.1, h0.2] at hx
    rw [h1.1, h1.2] at hy
    rw [h2.1, h2.2] at hz
    have e : cs = ((cs.drop 0).take s0 ++ (cs.drop s0).take s1) ++ (cs.drop (s0 + s1)).take s2 := by
      rw [List.drop_zero, List.take_of_length_le (l := cs.drop (s0 + s1)) (by simp; omega), ← List.drop_drop, List.append_assoc, List.take_append_drop, List.take_append_drop]
    rw [e]
    exact (hx.append hy).append hz
end Go.Proofs.Ytnlmonokkppagaa.Am


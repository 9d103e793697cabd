/-
  Substitutions as mathematics: rising binds, what is found among them, shapes. No condition.
-/
import Derived.Test.YtiafeijkifpfaaaAmTp
namespace Go.Proofs.Ytiafeijkifpfaaa.Am
open Go Go.Proofs
set_option linter.unusedSimpArgs false
set_option linter.unusedVariables false

theorem isOk_sorted : ∀ (l : List Bd) (prev : Option Int), isOk prev l = true → (∀ b ∈ l, ∀ p, prev = some p → p < b.v) ∧ l.Pairwise (fun a b => a.v < b.v) ∧ ∀ b ∈ l, b.t.rightE = 0
  | [], _, _ => by simp
  | b :: r, prev, h => by
    simp only [isOk, Bool.and_eq_true, Bool.not_eq_true'] at h
    have ih := isOk_sorted r (some b.v) h.2
    have hb := h.1
    simp only [Bd.badR, Bool.or_eq_false_iff, decide_eq_false_iff_not] at hb
    have hlt : ∀ p, prev = some p → p < b.v := fun p hp => by
      subst hp
      have := hb.1.1.2
      simp [prevB] at this
      omega
    refine ⟨fun x hx p hp => ?_, List.pairwise_cons.2 ⟨fun x hx => ih.1 x hx b.v rfl, ih.2.1⟩, fun x hx => ?_⟩
    · rcases List.mem_cons.1 hx with rfl | hx
      · exact hlt p hp
      · have h1 := ih.1 x hx b.v rfl
        have h2 := hlt p hp
        omega
    · rcases List.mem_cons.1 hx with rfl | hx
      · have := hb.1.2; simpa using this
      · exact ih.2.2 x hx
def lowB (bs : List Bd) (x : Int) : Nat := bs.countP fun b => decide (b.v < x)
theorem lowB_le (bs : List Bd) (x : Int) : lowB bs x ≤ bs.length := List.countP_le_length
theorem lowB_iff (x : Int) : ∀ (bs : List Bd), bs.Pairwise (fun a b => a.v < b.v) → ∀ (k : Nat) (b : Bd), bs[k]? = some b → (b.v < x ↔ k < lowB bs x)
  | [], _, k, b, h => by simp at h
  | c :: r, hp, k, b, h => by
    rw [List.pairwise_cons] at hp
    have ih := lowB_iff x r hp.2
    have hz : ¬ c.v < x → lowB r x = 0 := fun hc => by
      unfold lowB
      rw [List.countP_eq_zero]
      intro y hy
      have := hp.1 y hy
      simp; omega
    cases k with
    | zero =>
      simp at h; subst h
      unfold lowB at hz ⊢
      rw [List.countP_cons]
      by_cases hc : c.v < x
      · simp [hc]
      · simp [hc, hz hc]
    | succ k =>
      simp at h
      have := ih k b h
      unfold lowB at this hz ⊢
      rw [List.countP_cons]
      by_cases hc : c.v < x
      · simp [hc]; exact this
      · rw [this, hz hc]; simp [hc]
/-- What is found. -/
def foundB (bs : List Bd) (x : Int) : Bool := match bs[lowB bs x]? with | some b => decide (b.v = x) | none => false
theorem ofS_low {bs : List Bd} (hp : bs.Pairwise (fun a b => a.v < b.v)) (x : Int) : ofS bs x = match bs[lowB bs x]? with | some b => if b.v = x then b.t else .mk x (ByteArray.mk #[]) [] | none => .mk x (ByteArray.mk #[]) [] := by
  unfold ofS
  have hany : ∀ k b, bs[k]? = some b → b.v = x → k = lowB bs x := fun k b hk hb => by
    have h1 := lowB_iff x bs hp k b hk
    have h2 : ¬ k < lowB bs x := fun h => by have := h1.2 h; omega
    rcases Nat.lt_or_ge (lowB bs x) k with h3 | h3
    · exfalso
      have hlt : lowB bs x < bs.length := by have := (List.getElem?_eq_some_iff.1 hk).1; omega
      obtain ⟨c, hc⟩ : ∃ c, bs[lowB bs x]? = some c := ⟨_, List.getElem?_eq_getElem hlt⟩
      have h4 : ¬ c.v < x := fun h => by have := (lowB_iff x bs hp _ c hc).1 h; omega
      have h5 : c.v < b.v := by
        have e1 := (List.getElem?_eq_some_iff.1 hc).2
        have e2 := (List.getElem?_eq_some_iff.1 hk).2
        rw [← e1, ← e2]
        exact List.pairwise_iff_getElem.1 hp _ _ _ _ h3
      omega
    · omega
  cases hf : bs.find? (fun b => decide (b.v = x)) with
  | some b =>
    have hb := List.find?_some hf
    simp at hb
    obtain ⟨k, hk⟩ := List.mem_iff_getElem?.1 (List.mem_of_find?_eq_some hf)
    have := hany k b hk hb
    subst this
    rw [hk]; simp [hb]
  | none =>
    rw [List.find?_eq_none] at hf
    cases hl : bs[lowB bs x]? with
    | none => rfl
    | some b =>
      have := hf b (List.mem_of_getElem? hl)
      simp at this
      simp [this]
theorem shape_putS (bs : List Bd) (hb : ∀ b ∈ bs, b.t.shapeB = true) (t : Term) : t.shapeB = true → (t.putS bs).shapeB = true := by
  refine Term.ind (p := fun t => t.shapeB = true → (t.putS bs).shapeB = true) (fun v fn args ih h => ?_) t
  have hl : ∀ (a : List Term), (∀ x ∈ a, x.shapeB = true → (x.putS bs).shapeB = true) → shapeBL a = true → shapeBL (putSL bs a) = true := by
    intro a
    induction a with
    | nil => intro _ _; rfl
    | cons x r ih2 =>
      intro h1 h2
      simp only [shapeBL, putSL, Bool.and_eq_true] at h2 ⊢
      exact ⟨h1 x (by simp) h2.1, ih2 (fun z hz => h1 z (by simp [hz])) h2.2⟩
  by_cases hv : fn.toList = []
  · simp only [Term.putS, if_pos hv]
    unfold ofS
    cases hf : bs.find? (fun b => decide (b.v = v)) with
    | some b => exact hb b (List.mem_of_find?_eq_some hf)
    | none =>
      have hn : noName fn = true := by simp [noName, hv]
      simp [Term.shapeB, rightB, hn] at h
      have hn2 : noName (ByteArray.mk #[]) = true := by decide +kernel
      simp [Term.shapeB, rightB, hn2, shapeBL, h.1.1]
  · have hn : noName fn = false := by simp [noName, hv]
    simp only [Term.putS, if_neg hv]
    simp [Term.shapeB, rightB, hn] at h
    simp [Term.shapeB, rightB, hn, putSL_len, h.1.1.2, h.1.2, hl args ih h.2]
theorem rightE_shape0 {t : Term} (h : t.rightE = 0) : t.shapeB = true := by
  unfold Term.rightE at h
  by_cases hs : t.shapeB = true
  · exact hs
  · rw [if_neg hs] at h; simp at h
/-- The error of what comes of a substitution. -/
theorem rightE_put {bs : List Bd} {t : Term} (hb : ∀ b ∈ bs, b.t.rightE = 0) (ht : t.rightE = 0) (hz : ((t.putS bs).size : Int) ≤ 4611686018427387904) :
    (t.putS bs).rightE = if ((t.putS bs).depth : Int) > 60 then 22 else if ((t.putS bs).size : Int) > 4000 then 3 else 0 := by
  have := shape_putS bs (fun b hm => rightE_shape0 (hb b hm)) t (rightE_shape0 ht)
  unfold Term.rightE
  rw [if_pos this, sizeW_eq _ hz, depthW_eq _ hz]
end Go.Proofs.Ytiafeijkifpfaaa.Am

/-
  The document's order of Knuth and Bendix is the same order; both functions answer alike, two ways, and through a third term. No condition.
-/
import Derived.Test.YtfcedichoigbbaaAmRg
import Derived.Test.YtfcedichoigbbaaAmKe
namespace Go.Proofs.Ytfcedichoigbbaa.Am
open Go Go.Proofs
set_option linter.unusedSimpArgs false
set_option linter.unusedVariables false

theorem withGo_mem (n : Int) : ∀ (l : List Int) (inn : Bool) (out : List Int), (inn = true → n ∈ out) → ∀ x, x ∈ withGo n inn out l ↔ x = n ∨ x ∈ out ∨ x ∈ l
  | [], inn, out, h, x => by
    cases inn
    · simp [withGo]; exact Or.comm
    · simp [withGo]
      rintro rfl
      exact h rfl
  | y :: r, inn, out, h, x => by
    simp only [withGo]
    split
    · rw [withGo_mem n r true _ (fun _ => by simp) x]
      split
      · rename_i hy; subst hy; simp; grind
      · simp; grind
    · rename_i hn
      rw [withGo_mem n r inn _ (fun hi => by have := h hi; split <;> simp [this]) x]
      split
      · rename_i hy; subst hy
        simp
        constructor
        · grind
        · grind
      · simp; grind
theorem varsW_mem (t : Term) : ∀ l x, x ∈ t.varsW l ↔ x ∈ l ∨ x ∈ t.occ := by
  refine Term.ind (p := fun t => ∀ l x, x ∈ t.varsW l ↔ x ∈ l ∨ x ∈ t.occ) (fun v fn args ih l x => ?_) t
  have hl : ∀ (a : List Term), (∀ z ∈ a, ∀ l x, x ∈ z.varsW l ↔ x ∈ l ∨ x ∈ z.occ) → ∀ l x, x ∈ varsWL l a ↔ x ∈ l ∨ x ∈ occL a := by
    intro a
    induction a with
    | nil => intro _ l x; simp [varsWL, occL]
    | cons y r ih2 =>
      intro h l x
      simp only [varsWL, occL, List.mem_append]
      rw [ih2 (fun z hz => h z (by simp [hz])), h y (by simp)]
      exact or_assoc
  simp only [Term.varsW, Term.occ, List.mem_append]
  rw [hl args ih]
  by_cases hv : fn.toList = []
  · simp only [if_pos hv]
    rw [withGo_mem v l false [] (fun h => by cases h)]
    simp; grind
  · simp only [if_neg hv]; simp
theorem fewer_any (t u : Term) : (u.varsW []).any (fewer t u) = false ↔ ∀ x, u.occ.count x ≤ t.occ.count x := by
  rw [← Bool.not_eq_true, List.any_eq_true]
  constructor
  · intro h x
    refine Nat.le_of_not_lt fun hlt => h ⟨x, ?_, by simpa [fewer] using hlt⟩
    rw [varsW_mem]
    exact .inr (List.count_pos_iff.1 (by omega))
  · rintro h ⟨x, _, hx⟩
    have := h x
    simp [fewer] at hx
    omega
theorem idxS_inj {ns : List ByteArray} {a b : ByteArray} (h : idxS ns a = idxS ns b) (h0 : 0 ≤ idxS ns a) : a.toList = b.toList := by
  unfold idxS at h h0
  cases ha : ns.findIdx? (fun n => eqS n a) with
  | none => rw [ha] at h0; simp at h0
  | some i =>
    cases hb : ns.findIdx? (fun n => eqS n b) with
    | none => rw [ha, hb] at h; simp at h
    | some k =>
      rw [ha, hb] at h
      have h : i = k := by simp at h; omega
      subst h
      rw [List.findIdx?_eq_some_iff_getElem] at ha hb
      obtain ⟨h1, h2, _⟩ := ha
      obtain ⟨_, h4, _⟩ := hb
      simp [eqS] at h2 h4
      rw [← h2, ← h4]
theorem idxS_ge (ns : List ByteArray) (a : ByteArray) : -1 ≤ idxS ns a := by
  rcases idxS_lt (ns := ns) (s := a) with h | ⟨k, h, _⟩ <;> omega
theorem aboveR_eq (g : Sg) (a b : ByteArray) : g.aboveR a b = g.above a b := by
  have ha := idxS_ge g.names a
  have hb := idxS_ge g.names b
  by_cases hab : a.toList = b.toList
  · have := bytes_ext hab; subst this
    rw [above_irrefl]
    simp [Sg.aboveR]
  · unfold Sg.aboveR Sg.above Sg.rank
    by_cases h1 : a.toList = dollarTrue
    · have h2 : ¬ b.toList = dollarTrue := fun e => hab (h1.trans e.symm)
      rw [if_pos (.inr h1)]
      simp only [h1, h2, if_true, if_false]
      rw [if_pos (by omega)]
      symm
      simp only [decide_eq_false_iff_not]
      omega
    · by_cases h2 : b.toList = dollarTrue
      · rw [if_neg (by simp [hab, h1]), if_pos h2]
        simp only [h1, h2, if_true, if_false]
        rw [if_pos (by omega)]
        symm
        simp only [decide_eq_true_eq]
        omega
      · rw [if_neg (by simp [hab, h1]), if_neg h2]
        simp only [h1, h2, if_false]
        by_cases h3 : idxS g.names a < 0 ∧ idxS g.names b < 0
        · rw [if_pos h3, if_neg (by omega)]
        · rw [if_neg h3]
          by_cases h4 : idxS g.names a = idxS g.names b
          · exact absurd (idxS_inj h4 (by omega)) hab
          · rw [if_pos h4]
theorem rgt_iff (g : Sg) (t : Term) : ∀ u, t.rgt g u = true ↔ kgt g t u := by
  refine Term.ind (p := fun t => ∀ u, t.rgt g u = true ↔ kgt g t u) (fun v fn args ih u => ?_) t
  obtain ⟨v2, f2, a2⟩ := u
  have hl : ∀ (a b : List Term), (∀ x ∈ a, ∀ u, x.rgt g u = true ↔ kgt g x u) → (rgtL g a b = true ↔ kgtL g a b) := by
    intro a
    induction a with
    | nil => intro b _; simp [rgtL, kgtL]
    | cons x r ih2 =>
      intro b h
      cases b with
      | nil => simp [rgtL, kgtL]
      | cons y s =>
        simp only [rgtL, kgtL]
        by_cases hs : x = y
        · rw [if_pos ((sameB_eq x y).2 hs), ih2 s (fun z hz => h z (by simp [hz]))]
          simp [hs]
        · rw [if_neg (by rw [sameB_eq]; exact hs), h x (by simp)]
          simp [hs]
  simp only [Term.rgt, kgt, ← fewer_any]
  cases hf : ((Term.mk v2 f2 a2).varsW []).any (fewer (.mk v fn args) (.mk v2 f2 a2))
  · simp only [Bool.false_eq_true, if_false, true_and]
    by_cases hw : (Term.mk v fn args).wt g = (Term.mk v2 f2 a2).wt g
    · rw [if_neg (by simpa using hw)]
      have hlt : ¬ (Term.mk v2 f2 a2).wt g < (Term.mk v fn args).wt g := by omega
      simp only [hlt, false_or, hw, true_and]
      by_cases n1 : fn.toList = []
      · simp [n1]
      by_cases n2 : f2.toList = []
      · simp [n2]
      rw [if_neg (by simp [n1, n2])]
      simp only [n1, n2, ne_eq, not_false_eq_true, true_and]
      by_cases he : fn.toList = f2.toList
      · have := bytes_ext he; subst this
        by_cases hlen : args.length = a2.length
        · simp [hlen, hl args a2 ih]
        · simp [hlen, Sg.symR]
      · simp [he, Sg.symR, aboveR_eq]
    · rw [if_pos hw]
      simp [hw]
  · simp
/-- The document's answer. -/
def Sg.rCmp (g : Sg) (t u : Term) : Int :=
  if g.right = true ∧ t.rightE = 0 ∧ u.rightE = 0 then (if t.sameB u then 0 else if t.rgt g u then 1 else if u.rgt g t then -1 else 2) else 2
theorem rightE_shape' {t : Term} (h : t.rightE = 0) : t.shapeB = true := by
  unfold Term.rightE at h
  by_cases hs : t.shapeB = true
  · exact hs
  · rw [if_neg hs] at h; simp at h
open Classical in
theorem kCmp_spec (g : Sg) (t u : Term) (ht : t.size ≤ 1048576) (hu : u.size ≤ 1048576) :
    g.kCmp t u = if g.right = true ∧ t.rightE = 0 ∧ u.rightE = 0 then (if t = u then 0 else if kgt g t u then 1 else if kgt g u t then -1 else 2) else 2 := by
  unfold Sg.kCmp
  split
  · rename_i h
    exact kcmp_spec g t u (rightE_shape' h.2.1) (rightE_shape' h.2.2) (by omega) (by omega)
  · rfl
theorem kCmp_rCmp (g : Sg) (t u : Term) (ht : t.size ≤ 1048576) (hu : u.size ≤ 1048576) : g.kCmp t u = g.rCmp t u := by
  rw [kCmp_spec g t u ht hu]
  unfold Sg.rCmp
  by_cases h : g.right = true ∧ t.rightE = 0 ∧ u.rightE = 0
  · rw [if_pos h, if_pos h]
    by_cases he : t = u
    · rw [if_pos he, if_pos ((sameB_eq t u).2 he)]
    · rw [if_neg he, if_neg (mt (sameB_eq t u).1 he)]
      by_cases h1 : kgt g t u
      · rw [if_pos h1, if_pos ((rgt_iff g t u).2 h1)]
      · rw [if_neg h1, if_neg (mt (rgt_iff g t u).1 h1)]
        by_cases h2 : kgt g u t
        · rw [if_pos h2, if_pos ((rgt_iff g u t).2 h2)]
        · rw [if_neg h2, if_neg (mt (rgt_iff g u t).1 h2)]
  · rw [if_neg h, if_neg h]
theorem kCmp_turn (g : Sg) (t u : Term) (ht : t.size ≤ 1048576) (hu : u.size ≤ 1048576) : (g.kCmp t u = 2 ∧ g.kCmp u t = 2) ∨ (g.kCmp t u ≠ 2 ∧ g.kCmp u t = - g.kCmp t u) := by
  rw [kCmp_spec g t u ht hu, kCmp_spec g u t hu ht]
  by_cases h : g.right = true ∧ t.rightE = 0 ∧ u.rightE = 0
  · have h' : g.right = true ∧ u.rightE = 0 ∧ t.rightE = 0 := ⟨h.1, h.2.2, h.2.1⟩
    rw [if_pos h, if_pos h']
    by_cases he : t = u
    · subst he; simp
    · have he' : ¬ u = t := fun e => he e.symm
      by_cases h1 : kgt g t u
      · have h2 := kgt_asymm h1
        simp [he, he', h1, h2]
      · by_cases h2 : kgt g u t <;> simp [he, he', h1, h2]
  · have h' : ¬ (g.right = true ∧ u.rightE = 0 ∧ t.rightE = 0) := fun k => h ⟨k.1, k.2.2, k.2.1⟩
    rw [if_neg h, if_neg h']
    simp
theorem kCmp_gt (g : Sg) (t u : Term) (ht : t.size ≤ 1048576) (hu : u.size ≤ 1048576) : g.kCmp t u = 1 ↔ g.right = true ∧ t.rightE = 0 ∧ u.rightE = 0 ∧ kgt g t u := by
  rw [kCmp_spec g t u ht hu]
  by_cases h : g.right = true ∧ t.rightE = 0 ∧ u.rightE = 0
  · rw [if_pos h]
    by_cases he : t = u
    · subst he; simp [kgt_irrefl]
    · by_cases h1 : kgt g t u
      · simp [he, h1, h]
      · by_cases h2 : kgt g u t <;> simp [he, h1, h2]
  · rw [if_neg h]
    simp only [show ¬ ((2 : Int) = 1) by decide, false_iff]
    exact fun k => h ⟨k.1, k.2.1, k.2.2.1⟩
theorem kCmp_trans (g : Sg) (t u w : Term) (ht : t.size ≤ 1048576) (hu : u.size ≤ 1048576) (hw : w.size ≤ 1048576) (h1 : g.kCmp t u = 1) (h2 : g.kCmp u w = 1) : g.kCmp t w = 1 := by
  rw [kCmp_gt g _ _ ht hu] at h1
  rw [kCmp_gt g _ _ hu hw] at h2
  rw [kCmp_gt g _ _ ht hw]
  exact ⟨h1.1, h1.2.1, h2.2.2.1, kgt_trans g t u w h1.2.2.2 h2.2.2.2⟩
/-- Which name is above: one of two is. -/
theorem above_one (g : Sg) (a b : ByteArray) : g.above a b = true ∨ g.above b a = true ∨ a.toList = b.toList := by
  by_cases h : a.toList = b.toList
  · exact .inr (.inr h)
  · have := above_total g h
    cases hb : g.above b a
    · rw [hb] at this; exact .inl this
    · exact .inr (.inl rfl)
/-- The weight that both tell. -/
theorem loadW_wt (g : Sg) (t : Term) (ht : t.size ≤ 1048576) : (t.loadW g 1 []).1 = t.wt g :=
  (loadW_ok g 1 (.inl rfl) t [] (by simp) (by omega) (fun x => by simp [look]; omega)).1
end Go.Proofs.Ytfcedichoigbbaa.Am

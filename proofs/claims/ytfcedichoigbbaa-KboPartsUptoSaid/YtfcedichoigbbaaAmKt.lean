/-
  The order of Knuth and Bendix: substitutions, parts, replaced parts, terms without variables. No condition.
-/
import Derived.Test.YtfcedichoigbbaaAmKp
import Derived.Test.YtfcedichoigbbaaAmBind
namespace Go.Proofs.Ytfcedichoigbbaa.Am
open Go Go.Proofs
set_option linter.unusedSimpArgs false
set_option linter.unusedVariables false

/-! ### Sizes and depths that do not wrap -/
mutual
def Term.depth : Term → Nat
  | .mk _ _ args => depthL args + 1
def depthL : List Term → Nat
  | [] => 0
  | t :: r => max t.depth (depthL r)
end
theorem depth_size (t : Term) : t.depth ≤ t.size := by
  refine Term.ind (p := fun t => t.depth ≤ t.size) (fun v fn args ih => ?_) t
  have hl : ∀ (a : List Term), (∀ x ∈ a, x.depth ≤ x.size) → depthL a ≤ sizeL a := by
    intro a
    induction a with
    | nil => intro _; simp [depthL, sizeL]
    | cons x r ih2 =>
      intro h
      have h1 := h x (by simp)
      have h2 := ih2 fun z hz => h z (by simp [hz])
      simp only [depthL, sizeL]; omega
  have := hl args ih
  simp only [Term.depth, Term.size]; omega
theorem sizeW_eq (t : Term) : (t.size : Int) ≤ 4611686018427387904 → t.sizeW = t.size := by
  refine Term.ind (p := fun t => (t.size : Int) ≤ 4611686018427387904 → t.sizeW = t.size) (fun v fn args ih hs => ?_) t
  have hl : ∀ (a : List Term), (∀ x ∈ a, (x.size : Int) ≤ 4611686018427387904 → x.sizeW = x.size) → ∀ acc : Int, 0 ≤ acc → acc + sizeL a ≤ 4611686018427387904 → sizeWL acc a = acc + sizeL a := by
    intro a
    induction a with
    | nil => intro _ acc _ _; simp [sizeWL, sizeL]
    | cons x r ih2 =>
      intro h acc h0 h1
      simp only [sizeL] at h1
      have hx := h x (by simp) (by omega)
      simp only [sizeWL, hx, sizeL]
      rw [wrap_small (by omega) (by omega), ih2 (fun z hz => h z (by simp [hz])) _ (by omega) (by omega)]
      omega
  simp only [Term.size] at hs
  have := hl args ih 1 (by omega) (by omega)
  simp only [Term.sizeW, Term.size, this]; omega
theorem depthW_eq (t : Term) : (t.size : Int) ≤ 4611686018427387904 → t.depthW = t.depth := by
  refine Term.ind (p := fun t => (t.size : Int) ≤ 4611686018427387904 → t.depthW = t.depth) (fun v fn args ih hs => ?_) t
  have hl : ∀ (a : List Term), (∀ x ∈ a, (x.size : Int) ≤ 4611686018427387904 → x.depthW = x.depth) → (sizeL a : Int) ≤ 4611686018427387904 → ∀ acc : Nat, depthWL acc a = (max acc (depthL a) : Nat) := by
    intro a
    induction a with
    | nil => intro _ _ acc; simp [depthWL, depthL]
    | cons x r ih2 =>
      intro h h1 acc
      simp only [sizeL] at h1
      have hx := h x (by simp) (by omega)
      simp only [depthWL, hx, depthL]
      by_cases hm : (x.depth : Int) > acc
      · rw [if_pos hm, ih2 (fun z hz => h z (by simp [hz])) (by omega)]
        congr 1; omega
      · rw [if_neg hm, ih2 (fun z hz => h z (by simp [hz])) (by omega)]
        congr 1; omega
  simp only [Term.size] at hs
  have h1 := hl args ih (by omega) 0
  have h2 : depthL args + 1 ≤ 1 + sizeL args := depth_size (.mk v fn args)
  simp only [Term.depthW, Term.depth]
  rw [show (0 : Int) = ((0 : Nat) : Int) from rfl, h1, Nat.zero_max, wrap_small (by omega) (by omega)]
  omega
/-- Which terms are right. -/
theorem rightE_iff (t : Term) (h : (t.size : Int) ≤ 4611686018427387904) : t.rightE = 0 ↔ t.shapeB = true ∧ t.depth ≤ 60 ∧ t.size ≤ 4000 := by
  unfold Term.rightE
  rw [sizeW_eq t h, depthW_eq t h]
  by_cases hs : t.shapeB = true
  · rw [if_pos hs]
    by_cases hd : (t.depth : Int) > 60
    · rw [if_pos hd]; simp; omega
    · rw [if_neg hd]
      by_cases hz : (t.size : Int) > 4000
      · rw [if_pos hz]; simp; omega
      · rw [if_neg hz]; simp [hs]; omega
  · rw [if_neg hs]; simp [hs]

/-! ### Substitutions -/
def ofS (s : List Bd) (v : Int) : Term := match s.find? (fun b => decide (b.v = v)) with | some b => b.t | none => .mk v (ByteArray.mk #[]) []
mutual
def Term.putS (s : List Bd) : Term → Term
  | .mk v fn args => if fn.toList = [] then ofS s v else .mk 0 fn (putSL s args)
def putSL (s : List Bd) : List Term → List Term
  | [] => []
  | t :: r => t.putS s :: putSL s r
end
theorem putSL_len (s : List Bd) : ∀ (a : List Term), (putSL s a).length = a.length
  | [] => rfl
  | t :: r => by simp [putSL, putSL_len s r]
theorem sum_mono (c : Int → Nat) : ∀ (l2 l1 : List Int), (∀ x, l2.count x ≤ l1.count x) → (l2.map c).sum ≤ (l1.map c).sum
  | [], _, _ => by simp
  | x :: r, l1, h => by
    have hx : x ∈ l1 := List.count_pos_iff.1 (by have := h x; simp at this; omega)
    have hp := (List.perm_cons_erase hx).map c
    rw [hp.sum_nat]
    have := sum_mono c r (l1.erase x) (fun y => by
      have := h y
      rw [List.count_erase]
      rw [List.count_cons] at this
      split at this <;> rename_i hb
      · simp at hb; subst hb; simp; omega
      · simp at hb
        have hb2 : (x == y) = false := by simpa using hb
        simp [hb2]; omega)
    simp only [List.map_cons, List.sum_cons]; omega
/-- The shape of a variable: nothing hangs on it. -/
theorem shape_var {v : Int} {fn : ByteArray} {args : List Term} (h : (Term.mk v fn args).shapeB = true) (hv : fn.toList = []) : args = [] := by
  have hn : noName fn = true := by simp [noName, hv]
  simp [Term.shapeB, rightB, hn] at h
  exact h.1.2
theorem putS_wt (g : Sg) (s : List Bd) (t : Term) : t.shapeB = true → (t.putS s).wt g = t.wt g + ((t.occ.map fun x => ((ofS s x).wt g - 1).toNat).sum : Nat) := by
  refine Term.ind (p := fun t => t.shapeB = true → (t.putS s).wt g = t.wt g + ((t.occ.map fun x => ((ofS s x).wt g - 1).toNat).sum : Nat)) (fun v fn args ih h => ?_) t
  have hl : ∀ (a : List Term), (∀ x ∈ a, x.shapeB = true → (x.putS s).wt g = x.wt g + ((x.occ.map fun y => ((ofS s y).wt g - 1).toNat).sum : Nat)) → shapeBL a = true → wtL g (putSL s a) = wtL g a + (((occL a).map fun y => ((ofS s y).wt g - 1).toNat).sum : Nat) := by
    intro a
    induction a with
    | nil => intro _ _; simp [wtL, putSL, occL]
    | cons x r ih2 =>
      intro h hs
      simp only [shapeBL, Bool.and_eq_true] at hs
      have h1 := h x (by simp) hs.1
      have h2 := ih2 (fun z hz => h z (by simp [hz])) hs.2
      simp only [wtL, putSL, occL, List.map_append, List.sum_append, h1, h2]; omega
  by_cases hv : fn.toList = []
  · have := shape_var h hv; subst this
    have h1 := wt_range g (ofS s v)
    have h2 := Term.size_pos (ofS s v)
    have h3 : g.of fn = 1 := by simp [Sg.of, hv]
    simp only [Term.putS, if_pos hv, Term.wt, wtL, Term.occ, occL, List.append_nil, List.map_cons, List.map_nil, List.sum_cons, List.sum_nil, h3]
    omega
  · have h1 := hl args ih (by simp only [Term.shapeB, Bool.and_eq_true] at h; exact h.2)
    simp only [Term.putS, if_neg hv, Term.wt, Term.occ, List.nil_append, h1]; omega
theorem putS_occ (s : List Bd) (y : Int) (t : Term) : t.shapeB = true → (t.putS s).occ.count y = (t.occ.map fun x => (ofS s x).occ.count y).sum := by
  refine Term.ind (p := fun t => t.shapeB = true → (t.putS s).occ.count y = (t.occ.map fun x => (ofS s x).occ.count y).sum) (fun v fn args ih h => ?_) t
  have hl : ∀ (a : List Term), (∀ x ∈ a, x.shapeB = true → (x.putS s).occ.count y = (x.occ.map fun z => (ofS s z).occ.count y).sum) → shapeBL a = true → (occL (putSL s a)).count y = ((occL a).map fun z => (ofS s z).occ.count y).sum := by
    intro a
    induction a with
    | nil => intro _ _; simp [putSL, occL]
    | cons x r ih2 =>
      intro h hs
      simp only [shapeBL, Bool.and_eq_true] at hs
      have h1 := h x (by simp) hs.1
      have h2 := ih2 (fun z hz => h z (by simp [hz])) hs.2
      simp only [putSL, occL, List.map_append, List.sum_append, List.count_append, h1, h2]
  by_cases hv : fn.toList = []
  · have := shape_var h hv; subst this
    simp [Term.putS, hv, Term.occ, occL]
  · have h1 := hl args ih (by simp only [Term.shapeB, Bool.and_eq_true] at h; exact h.2)
    simp only [Term.putS, if_neg hv, Term.occ, List.nil_append, h1]
/-- The order holds behind any substitution. -/
theorem kgt_putS (g : Sg) (s : List Bd) (t : Term) : ∀ u, t.shapeB = true → u.shapeB = true → kgt g t u → kgt g (t.putS s) (u.putS s) := by
  refine Term.ind (p := fun t => ∀ u, t.shapeB = true → u.shapeB = true → kgt g t u → kgt g (t.putS s) (u.putS s)) (fun v fn args ih u ht hu h => ?_) t
  have hl : ∀ (a b : List Term), (∀ x ∈ a, ∀ u, x.shapeB = true → u.shapeB = true → kgt g x u → kgt g (x.putS s) (u.putS s)) → shapeBL a = true → shapeBL b = true → kgtL g a b → kgtL g (putSL s a) (putSL s b) := by
    intro a
    induction a with
    | nil => intro b _ _ _ h; simp [kgtL] at h
    | cons x r ih2 =>
      intro b h ha hb hk
      cases b with
      | nil => simp [kgtL] at hk
      | cons y q =>
        simp only [shapeBL, Bool.and_eq_true] at ha hb
        simp only [kgtL, putSL] at hk ⊢
        rcases hk with ⟨rfl, hk⟩ | ⟨hn, hk⟩
        · exact .inl ⟨rfl, ih2 q (fun z hz => h z (by simp [hz])) ha.2 hb.2 hk⟩
        · have := h x (by simp) y ha.1 hb.1 hk
          exact .inr ⟨fun e => kgt_irrefl g _ (by rw [e] at this; exact this), this⟩
  have hw1 := putS_wt g s _ ht
  have hw2 := putS_wt g s _ hu
  have hc : ∀ y, (u.putS s).occ.count y ≤ ((Term.mk v fn args).putS s).occ.count y := fun y => by
    rw [putS_occ s y _ ht, putS_occ s y _ hu]
    obtain ⟨v2, f2, a2⟩ := u
    simp only [kgt] at h
    exact sum_mono _ _ _ h.1
  have hsum : (u.occ.map fun x => ((ofS s x).wt g - 1).toNat).sum ≤ ((Term.mk v fn args).occ.map fun x => ((ofS s x).wt g - 1).toNat).sum := by
    obtain ⟨v2, f2, a2⟩ := u
    simp only [kgt] at h
    exact sum_mono _ _ _ h.1
  have key : ∀ t' u' : Term, (∀ x, u'.occ.count x ≤ t'.occ.count x) → u'.wt g < t'.wt g → kgt g t' u' := fun t' u' h1 h2 => by
    cases t'; cases u'; simp only [kgt]; exact ⟨h1, .inl h2⟩
  obtain ⟨v2, f2, a2⟩ := u
  simp only [kgt] at h
  rcases h.2 with h2 | ⟨hw, n1, n2, h2⟩
  · exact key _ _ hc (by omega)
  · by_cases hlt : ((Term.mk v2 f2 a2).putS s).wt g < ((Term.mk v fn args).putS s).wt g
    · exact key _ _ hc hlt
    · have heq : ((Term.mk v fn args).putS s).wt g = ((Term.mk v2 f2 a2).putS s).wt g := by omega
      simp only [Term.putS, if_neg n1, if_neg n2] at hc heq ⊢
      simp only [kgt]
      refine ⟨hc, .inr ⟨heq, n1, n2, ?_⟩⟩
      rcases h2 with h2 | ⟨hf, h2⟩
      · exact .inl h2
      · refine .inr ⟨hf, ?_⟩
        simp only [putSL_len]
        rcases h2 with h2 | ⟨hlen, h2⟩
        · exact .inl h2
        · simp only [Term.shapeB, Bool.and_eq_true] at ht hu
          exact .inr ⟨hlen, hl args a2 ih ht.2 hu.2 h2⟩
theorem putS_size (s : List Bd) (B : Nat) (hB : 1 ≤ B) (hs : ∀ b ∈ s, b.t.size ≤ B) (t : Term) : (t.putS s).size ≤ t.size * B := by
  refine Term.ind (p := fun t => (t.putS s).size ≤ t.size * B) (fun v fn args ih => ?_) t
  have hl : ∀ (a : List Term), (∀ x ∈ a, (x.putS s).size ≤ x.size * B) → sizeL (putSL s a) ≤ sizeL a * B := by
    intro a
    induction a with
    | nil => intro _; simp [putSL, sizeL]
    | cons x r ih2 =>
      intro h
      have h1 := h x (by simp)
      have h2 := ih2 fun z hz => h z (by simp [hz])
      simp only [putSL, sizeL, Nat.add_mul]; omega
  have h1 := hl args ih
  by_cases hv : fn.toList = []
  · simp only [Term.putS, if_pos hv, Term.size, Nat.add_mul, Nat.one_mul]
    have : (ofS s v).size ≤ B := by
      unfold ofS
      cases hf : s.find? (fun b => decide (b.v = v)) with
      | none => simpa [Term.size, sizeL] using hB
      | some b => exact hs b (List.mem_of_find?_eq_some hf)
    omega
  · simp only [Term.putS, if_neg hv, Term.size, Nat.add_mul, Nat.one_mul]; omega

/-! ### Parts -/
def Term.at : Term → List Int → Option Term
  | t, [] => some t
  | .mk _ _ args, k :: p => if k < 0 then none else match args[k.toNat]? with
    | some x => x.at p
    | none => none
def Term.putAt : Term → List Int → Term → Option Term
  | _, [], s => some s
  | .mk _ fn args, k :: p, s => if k < 0 then none else match args[k.toNat]? with
    | some x => (x.putAt p s).map fun y => .mk 0 fn (args.set k.toNat y)
    | none => none
theorem wtL_mem (g : Sg) : ∀ {a : List Term} {x : Term}, x ∈ a → x.wt g ≤ wtL g a
  | t :: r, x, h => by
    have h1 := wtL_range g r
    have h2 := wt_range g t
    rcases List.mem_cons.1 h with rfl | h
    · simp only [wtL]; omega
    · have := wtL_mem g h; simp only [wtL]; omega
theorem occL_mem (y : Int) : ∀ {a : List Term} {x : Term}, x ∈ a → x.occ.count y ≤ (occL a).count y
  | t :: r, x, h => by
    rcases List.mem_cons.1 h with rfl | h
    · simp only [occL, List.count_append]; omega
    · have := occL_mem y h; simp only [occL, List.count_append]; omega
theorem depthL_mem : ∀ {a : List Term} {x : Term}, x ∈ a → x.depth ≤ depthL a
  | t :: r, x, h => by
    rcases List.mem_cons.1 h with rfl | h
    · simp only [depthL]; omega
    · have := depthL_mem h; simp only [depthL]; omega
/-- A part of a right term is a right term, not greater. -/
theorem at_right : ∀ (p : List Int) (t x : Term), t.at p = some x → t.shapeB = true → x.shapeB = true ∧ x.depth ≤ t.depth ∧ x.size ≤ t.size
  | [], t, x, h, hs => by
    have : t = x := by cases t; simpa [Term.at] using h
    subst this; exact ⟨hs, Nat.le_refl _, Nat.le_refl _⟩
  | k :: p, .mk v fn args, x, h, hs => by
    simp only [Term.at] at h
    split at h
    · cases h
    · cases hg : args[k.toNat]? with
      | none => rw [hg] at h; cases h
      | some y =>
        rw [hg] at h
        have hm := List.mem_of_getElem? hg
        simp only [Term.shapeB, Bool.and_eq_true] at hs
        have := at_right p y x h (shapeBL_mem' hs.2 y hm)
        have h1 := sizeL_mem hm
        have h2 := depthL_mem hm
        simp only [Term.size, Term.depth]
        exact ⟨this.1, by omega, by omega⟩
theorem at_gt (g : Sg) : ∀ (p : List Int) (t x : Term), t.at p = some x → p ≠ [] → kgt g t x
  | [], _, _, _, h => absurd rfl h
  | k :: p, .mk v fn args, x, h, _ => by
    simp only [Term.at] at h
    split at h
    · cases h
    · cases hg : args[k.toNat]? with
      | none => rw [hg] at h; cases h
      | some y =>
        rw [hg] at h
        have hm := List.mem_of_getElem? hg
        have h1 := wtL_mem g hm
        have h2 := of_range g fn
        have hy : kgt g (.mk v fn args) y := by
          obtain ⟨v2, f2, a2⟩ := y
          simp only [kgt]
          refine ⟨fun z => ?_, .inl ?_⟩
          · have := occL_mem z hm
            simp only [Term.occ, List.count_append] at this ⊢; omega
          · simp only [Term.wt] at h1 ⊢; omega
        by_cases hp : p = []
        · subst hp
          have : y = x := by cases y; simpa [Term.at] using h
          subst this; exact hy
        · exact kgt_trans g _ _ _ hy (at_gt g p y x h hp)
theorem set_gt (g : Sg) : ∀ (a : List Term) (i : Nat) (x y : Term), a[i]? = some x → kgt g x y → (∀ z, (occL (a.set i y)).count z ≤ (occL a).count z) ∧ wtL g (a.set i y) ≤ wtL g a ∧ (wtL g (a.set i y) = wtL g a → x.wt g = y.wt g) ∧ kgtL g a (a.set i y)
  | [], i, x, y, h, _ => by simp at h
  | t :: r, 0, x, y, h, k => by
    simp at h; subst h
    have hk : (∀ z, y.occ.count z ≤ t.occ.count z) ∧ y.wt g ≤ t.wt g := by
      obtain ⟨v1, f1, a1⟩ := t
      obtain ⟨v2, f2, a2⟩ := y
      simp only [kgt] at k
      exact ⟨k.1, by rcases k.2 with h | h <;> omega⟩
    refine ⟨fun z => ?_, ?_, fun h => ?_, ?_⟩
    · have := hk.1 z; simp only [List.set_cons_zero, occL, List.count_append]; omega
    · simp only [List.set_cons_zero, wtL]; omega
    · simp only [List.set_cons_zero, wtL] at h; omega
    · simp only [List.set_cons_zero, kgtL]
      exact .inr ⟨fun e => kgt_irrefl g _ (by rw [← e] at k; exact k), k⟩
  | t :: r, i + 1, x, y, h, k => by
    have := set_gt g r i x y (by simpa using h) k
    refine ⟨fun z => ?_, ?_, fun h => ?_, ?_⟩
    · have := this.1 z; simp only [List.set_cons_succ, occL, List.count_append]; omega
    · have := this.2.1; simp only [List.set_cons_succ, wtL]; omega
    · simp only [List.set_cons_succ, wtL] at h; exact this.2.2.1 (by omega)
    · simp only [List.set_cons_succ, kgtL]
      exact .inl ⟨trivial, this.2.2.2⟩
/-- A term becomes smaller with a part. -/
theorem putAt_gt (g : Sg) (s : Term) : ∀ (p : List Int) (t x u : Term), t.at p = some x → t.putAt p s = some u → t.shapeB = true → kgt g x s → kgt g t u
  | [], t, x, u, h, hu, _, k => by
    have h1 : t = x := by cases t; simpa [Term.at] using h
    have h2 : s = u := by cases t; simpa [Term.putAt] using hu
    subst h1; subst h2; exact k
  | i :: p, .mk v fn args, x, u, h, hu, hs, k => by
    simp only [Term.at] at h
    simp only [Term.putAt] at hu
    split at h
    · cases h
    · rename_i hi
      rw [if_neg hi] at hu
      cases hg : args[i.toNat]? with
      | none => rw [hg] at h; cases h
      | some y =>
        rw [hg] at h hu
        simp only [Option.map_eq_some_iff] at hu
        obtain ⟨w, hw, rfl⟩ := hu
        have hm := List.mem_of_getElem? hg
        have hfn : fn.toList ≠ [] := fun e => by
          have := shape_var hs e; subst this; simp at hg
        have hs2 := hs
        simp only [Term.shapeB, Bool.and_eq_true] at hs2
        have hyw := putAt_gt g s p y x w h hw (shapeBL_mem' hs2.2 y hm) k
        have hset := set_gt g args i.toNat y w hg hyw
        simp only [kgt]
        refine ⟨fun z => ?_, ?_⟩
        · have := hset.1 z
          simp only [Term.occ, if_neg hfn, List.nil_append]; exact this
        · by_cases hlt : wtL g (args.set i.toNat w) < wtL g args
          · left; simp only [Term.wt]; omega
          · right
            have h2 := hset.2.1
            exact ⟨by simp only [Term.wt]; omega, hfn, hfn, .inr ⟨trivial, .inr ⟨by simp, hset.2.2.2⟩⟩⟩
theorem set_size : ∀ (a : List Term) (i : Nat) (y : Term), sizeL (a.set i y) ≤ sizeL a + y.size
  | [], i, y => by simp [sizeL]
  | t :: r, 0, y => by simp only [List.set_cons_zero, sizeL]; omega
  | t :: r, i + 1, y => by have := set_size r i y; simp only [List.set_cons_succ, sizeL]; omega
theorem putAt_size (s : Term) : ∀ (p : List Int) (t u : Term), t.putAt p s = some u → u.size ≤ t.size * (p.length + 1) + s.size
  | [], t, u, hu => by
    have h2 : s = u := by cases t; simpa [Term.putAt] using hu
    subst h2; omega
  | i :: p, .mk v fn args, u, hu => by
    simp only [Term.putAt] at hu
    split at hu
    · cases hu
    · cases hg : args[i.toNat]? with
      | none => rw [hg] at hu; cases hu
      | some y =>
        rw [hg] at hu
        simp only [Option.map_eq_some_iff] at hu
        obtain ⟨w, hw, rfl⟩ := hu
        have h1 := putAt_size s p y w hw
        have h2 := sizeL_mem (List.mem_of_getElem? hg)
        have h3 := set_size args i.toNat w
        have h4 : y.size * (p.length + 1) ≤ sizeL args * (p.length + 1) := Nat.mul_le_mul_right _ h2
        simp only [Term.size, List.length_cons, Nat.add_mul, Nat.mul_add, Nat.one_mul, Nat.mul_one] at h4 h1 ⊢
        omega

/-! ### Terms without variables -/
theorem ground_total (g : Sg) (t : Term) : ∀ u, t.shapeB = true → u.shapeB = true → t.occ = [] → u.occ = [] → t = u ∨ kgt g t u ∨ kgt g u t := by
  refine Term.ind (p := fun t => ∀ u, t.shapeB = true → u.shapeB = true → t.occ = [] → u.occ = [] → t = u ∨ kgt g t u ∨ kgt g u t) (fun v fn args ih u ht hu ho hou => ?_) t
  obtain ⟨v2, f2, a2⟩ := u
  have hl : ∀ (a b : List Term), (∀ x ∈ a, ∀ u, x.shapeB = true → u.shapeB = true → x.occ = [] → u.occ = [] → x = u ∨ kgt g x u ∨ kgt g u x) → a.length = b.length → shapeBL a = true → shapeBL b = true → occL a = [] → occL b = [] → a = b ∨ kgtL g a b ∨ kgtL g b a := by
    intro a
    induction a with
    | nil => intro b _ h _ _ _ _; cases b with | nil => exact .inl rfl | cons => simp at h
    | cons x r ih2 =>
      intro b h hlen ha hb ho ho2
      cases b with
      | nil => simp at hlen
      | cons y q =>
        simp only [shapeBL, Bool.and_eq_true] at ha hb
        simp only [occL, List.append_eq_nil_iff] at ho ho2
        by_cases hxy : x = y
        · subst hxy
          rcases ih2 q (fun z hz => h z (by simp [hz])) (by simpa using hlen) ha.2 hb.2 ho.2 ho2.2 with e | e | e
          · exact .inl (by rw [e])
          · exact .inr (.inl (by simp only [kgtL]; exact .inl ⟨trivial, e⟩))
          · exact .inr (.inr (by simp only [kgtL]; exact .inl ⟨trivial, e⟩))
        · rcases h x (by simp) y ha.1 hb.1 ho.1 ho2.1 with e | e | e
          · exact absurd e hxy
          · exact .inr (.inl (by simp only [kgtL]; exact .inr ⟨hxy, e⟩))
          · exact .inr (.inr (by simp only [kgtL]; exact .inr ⟨fun e2 => hxy e2.symm, e⟩))
  have hcnt : ∀ x, (Term.mk v fn args).occ.count x = 0 := fun x => by rw [ho]; rfl
  have hcnt2 : ∀ x, (Term.mk v2 f2 a2).occ.count x = 0 := fun x => by rw [hou]; rfl
  have n1 : fn.toList ≠ [] := fun e => by simp [Term.occ, e] at ho
  have n2 : f2.toList ≠ [] := fun e => by simp [Term.occ, e] at hou
  have hv := shapeB_v' ht n1
  have hv2 := shapeB_v' hu n2
  simp only [Term.occ, if_neg n1, List.nil_append] at ho
  simp only [Term.occ, if_neg n2, List.nil_append] at hou
  have hs1 := ht
  have hs2 := hu
  simp only [Term.shapeB, Bool.and_eq_true] at hs1 hs2
  simp only [kgt, hcnt, hcnt2, Nat.le_refl, implies_true, true_and]
  rcases Int.lt_trichotomy ((Term.mk v fn args).wt g) ((Term.mk v2 f2 a2).wt g) with hw | hw | hw
  · exact .inr (.inr (.inl hw))
  · by_cases hf : fn.toList = f2.toList
    · rcases Nat.lt_trichotomy args.length a2.length with hlen | hlen | hlen
      · exact .inr (.inr (.inr ⟨hw.symm, n2, n1, .inr ⟨hf.symm, .inl hlen⟩⟩))
      · rcases hl args a2 ih hlen hs1.2 hs2.2 ho hou with e | e | e
        · exact .inl (by rw [e, hv, hv2, bytes_ext hf])
        · exact .inr (.inl (.inr ⟨hw, n1, n2, .inr ⟨hf, .inr ⟨hlen, e⟩⟩⟩))
        · exact .inr (.inr (.inr ⟨hw.symm, n2, n1, .inr ⟨hf.symm, .inr ⟨hlen.symm, e⟩⟩⟩))
      · exact .inr (.inl (.inr ⟨hw, n1, n2, .inr ⟨hf, .inl hlen⟩⟩))
    · have hab := above_total g hf
      cases hb : g.above f2 fn
      · rw [hb] at hab
        exact .inr (.inl (.inr ⟨hw, n1, n2, .inl ⟨hf, hab⟩⟩))
      · exact .inr (.inr (.inr ⟨hw.symm, n2, n1, .inl ⟨fun e => hf e.symm, rfl⟩⟩))
  · exact .inr (.inl (.inl hw))
end Go.Proofs.Ytfcedichoigbbaa.Am

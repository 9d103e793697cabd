/-
  Joined texts: AmMl, AmUo. No condition.
-/
import Derived.Test.YtajilkmepjhkdaaAmPap
/-
 The order of terms, extended to literals and clauses, as mathematics. No condition.
-/
namespace Go.Proofs.Ytajilkmepjhkdaa.Am
open Go Go.Proofs
set_option linter.unusedSimpArgs false
set_option linter.unusedVariables false
def Lt.sides (x : Lt) : List Term := if x.neg then [x.l, x.l, x.r, x.r] else [x.l, x.r]
def Lt.right (x : Lt) : Prop := x.l.rightE = 0 ∧ x.r.rightE = 0
instance (x : Lt) : Decidable x.right := inferInstanceAs (Decidable (_ ∧ _))
noncomputable def Lt.key (x : Lt) : Term → Nat := cnt id x.sides
theorem Lt.mem_sides (x : Lt) (t : Term) : t ∈ x.sides ↔ t = x.l ∨ t = x.r := by
 unfold Lt.sides
 cases x.neg <;> simp <;> constructor <;> (intro h; rcases h with h | h | h | h <;> simp_all) <;> simp_all
theorem Lt.key_ne (x : Lt) (t : Term) : x.key t ≠ 0 ↔ t = x.l ∨ t = x.r := by
 rw [← x.mem_sides]
 constructor
 ·intro h
  obtain ⟨y, hy, rfl⟩ := cnt_pos (key := id) (l := x.sides) (k := t) (by unfold Lt.key at h; omega)
  exact hy
 ·intro h
  have := cnt_mem (key := id) h
  simp only [id] at this
  unfold Lt.key; omega
theorem same_refl_key {a b : Lt} (h : a.same b = true) : a.key = b.key := by
 obtain ⟨n, l, r⟩ := a
 obtain ⟨n2, l2, r2⟩ := b
 simp only [Lt.same, Bool.and_eq_true, Bool.or_eq_true, beq_iff_eq, sameB_eq] at h
 obtain ⟨rfl, ⟨rfl, rfl⟩ | ⟨rfl, rfl⟩⟩ := h
 ·rfl
 ·funext t
  simp only [Lt.key, Lt.sides]
  cases n <;> simp only [cnt, id, if_true, if_false, Bool.false_eq_true] <;> omega
open Classical in
theorem pair_eq {β : Type} (l r l2 r2 : β) (h : ∀ t, (if l = t then 1 else 0) + (if r = t then 1 else 0) = (if l2 = t then 1 else 0) + (if r2 = t then 1 else 0)) : (l = l2 ∧ r = r2) ∨ (l = r2 ∧ r = l2) := by
 by_cases e : l = l2
 ·subst e
  refine .inl ⟨rfl, Classical.byContradiction fun hne => ?_⟩
  have := h r
  rw [if_pos (show r = r from rfl), if_neg (show ¬ r2 = r from fun q => hne q.symm)] at this
  omega
 ·have h1 := h l
  rw [if_pos (show l = l from rfl), if_neg (show ¬ l2 = l from fun q => e q.symm)] at h1
  have e2 : r2 = l := Classical.byContradiction fun hne => by rw [if_neg hne] at h1; omega
  subst e2
  refine .inr ⟨rfl, Classical.byContradiction fun hne => ?_⟩
  have := h r
  rw [if_pos (show r = r from rfl), if_neg (show ¬ l2 = r from fun q => hne q.symm)] at this
  omega
open Classical in
theorem pair_odd {β : Type} (l r l2 r2 : β) (h : ∀ t, (if l = t then 1 else 0) + (if r = t then 1 else 0) = (if l2 = t then 1 else 0) + (if l2 = t then 1 else 0) + ((if r2 = t then 1 else 0) + (if r2 = t then 1 else 0))) : False := by
 have h1 := h l
 have h2 := h l2
 have h3 := h r2
 rw [if_pos (show l = l from rfl)] at h1
 rw [if_pos (show l2 = l2 from rfl)] at h2
 rw [if_pos (show r2 = r2 from rfl)] at h3
 by_cases a : l = l2
 ·subst a
  rw [if_pos rfl] at h1 h2
  by_cases b : r = l
  ·subst b
   rw [if_pos rfl] at h1 h2
   by_cases c : r2 = r
   ·subst c; simp at h1
   ·rw [if_neg (show ¬ r = r2 from fun q => c q.symm)] at h3
    omega
  ·rw [if_neg b] at h1
   by_cases c : r2 = l
   ·rw [if_pos c] at h1; omega
   ·rw [if_neg c] at h1; omega
 ·by_cases b : r = l2
  ·subst b
   rw [if_neg a, if_pos rfl] at h2
   by_cases c : r2 = r
   ·rw [if_pos c] at h2; omega
   ·rw [if_neg c] at h2; omega
  ·rw [if_neg a, if_neg b] at h2
   omega
theorem key_same {a b : Lt} (h : a.key = b.key) : a.same b = true := by
 obtain ⟨n, l, r⟩ := a
 obtain ⟨n2, l2, r2⟩ := b
 have H := fun t => congrFun h t
 clear h
 simp only [Lt.same, Bool.and_eq_true, Bool.or_eq_true, beq_iff_eq, sameB_eq]
 simp only [Lt.key, Lt.sides] at H
 cases n <;> cases n2
 ·refine ⟨rfl, pair_eq l r l2 r2 fun t => ?_⟩
  have := H t
  simp only [cnt, id, if_false, Bool.false_eq_true, Nat.add_zero] at this
  exact this
 ·exfalso
  refine pair_odd l r l2 r2 fun t => ?_
  have := H t
  simp only [cnt, id, if_true, if_false, Bool.false_eq_true, Nat.add_zero] at this
  rw [this]; omega
 ·exfalso
  refine pair_odd l2 r2 l r fun t => ?_
  have := H t
  simp only [cnt, id, if_true, if_false, Bool.false_eq_true, Nat.add_zero] at this
  rw [← this]; omega
 ·refine ⟨rfl, pair_eq l r l2 r2 fun t => ?_⟩
  have := H t
  simp only [cnt, id, if_true, Nat.add_zero] at this
  omega
theorem same_key (a b : Lt) : a.same b = true ↔ a.key = b.key := ⟨same_refl_key, key_same⟩
def Fin1 {β : Type} (M : β → Nat) : Prop := ∃ L : List β, ∀ k, k ∉ L → M k = 0
theorem cnt_fin {α β : Type} (key : α → β) (l : List α) : Fin1 (cnt key l) := ⟨l.map key, fun k hk => by
 rcases Nat.eq_zero_or_pos (cnt key l k) with h | h
 ·exact h
 ·obtain ⟨x, hx, rfl⟩ := cnt_pos h
  exact absurd (List.mem_map.2 ⟨x, hx, rfl⟩) hk⟩
section
variable (gr : Bool) (tc : Term → Term → Int)
def litsF (a b : Lt) : Int := if gr = true ∧ a.right ∧ b.right then extF Term.sameB (fun s t => decide (tc s t = 1)) a.sides b.sides else 2
def clausesF (c d : List Lt) : Int := if gr = true ∧ clE c = 0 ∧ clE d = 0 then extF Lt.same (fun a b => decide (litsF gr tc a b = 1)) c d else 2
def gkL (M N : Term → Nat) : Prop := gr = true ∧ (∀ t, M t ≠ 0 → t.rightE = 0) ∧ (∀ t, N t ≠ 0 → t.rightE = 0) ∧ Fin1 M ∧ Fin1 N ∧ gtM (fun s t => tc s t = 1) M N
variable {gr tc}
theorem strict_L (ho : Strict fun s t => tc s t = 1) : Strict (gkL gr tc) := by
 refine ⟨fun a h => gtM_irr _ h.2.2.2.2.2, fun a b c h1 h2 => ⟨h1.1, h1.2.1, h2.2.2.1, h1.2.2.2.1, h2.2.2.2.2.1, ?_⟩⟩
 obtain ⟨L1, hL1⟩ := h1.2.2.2.1
 obtain ⟨L2, hL2⟩ := h1.2.2.2.2.1
 obtain ⟨L3, hL3⟩ := h2.2.2.2.2.1
 refine gtM_tr ho (L := L1 ++ L2 ++ L3) (fun k hk => ?_) h1.2.2.2.2.2 h2.2.2.2.2.2
 simp only [List.mem_append, not_or] at hk
 exact ⟨hL1 k hk.1.1, hL2 k hk.1.2, hL3 k hk.2⟩
theorem sameB_id (x y : Term) : x.sameB y = true ↔ id x = id y := sameB_eq x y
theorem litsF_M (a b : Lt) : litsF gr tc a b = if gr = true ∧ a.right ∧ b.right then extM (fun s t => tc s t = 1) a.key b.key else 2 := by
 unfold litsF
 rw [extF_M (key := id) (gk := fun s t => tc s t = 1) sameB_id (fun x y => by simp) a.sides b.sides]
 rfl
theorem right_key (a : Lt) : a.right ↔ ∀ t, a.key t ≠ 0 → t.rightE = 0 := by
 constructor
 ·intro h t ht
  rcases (a.key_ne t).1 ht with rfl | rfl
  ·exact h.1
  ·exact h.2
 ·intro h
  exact ⟨h _ ((a.key_ne _).2 (.inl rfl)), h _ ((a.key_ne _).2 (.inr rfl))⟩
theorem litsF_one (a b : Lt) : litsF gr tc a b = 1 ↔ gkL gr tc a.key b.key := by
 rw [litsF_M]
 by_cases h : gr = true ∧ a.right ∧ b.right
 ·rw [if_pos h, extM_one]
  exact ⟨fun k => ⟨h.1, (right_key a).1 h.2.1, (right_key b).1 h.2.2, cnt_fin _ _, cnt_fin _ _, k⟩, fun k => k.2.2.2.2.2⟩
 ·rw [if_neg h]
  constructor
  ·intro k; cases k
  ·intro k; exact absurd ⟨k.1, (right_key a).2 k.2.1, (right_key b).2 k.2.2.1⟩ h
theorem litsF_swap (ho : Strict fun s t => tc s t = 1) (a b : Lt) : litsF gr tc b a = if litsF gr tc a b = 2 then 2 else - litsF gr tc a b := by
 rw [litsF_M, litsF_M]
 by_cases h : gr = true ∧ a.right ∧ b.right
 ·rw [if_pos h, if_pos ⟨h.1, h.2.2, h.2.1⟩]
  obtain ⟨L1, hL1⟩ := cnt_fin id a.sides
  obtain ⟨L2, hL2⟩ := cnt_fin id b.sides
  exact extM_swap ho (L := L1 ++ L2) fun k hk => by
   simp only [List.mem_append, not_or] at hk
   exact ⟨hL1 k hk.1, hL2 k hk.2⟩
 ·rw [if_neg h, if_neg fun k => h ⟨k.1, k.2.2, k.2.1⟩]; rfl
theorem litsF_tr (ho : Strict fun s t => tc s t = 1) {a b c : Lt} (h1 : litsF gr tc a b = 1) (h2 : litsF gr tc b c = 1) : litsF gr tc a c = 1 :=
 (litsF_one _ _).2 ((strict_L ho).tr _ _ _ ((litsF_one _ _).1 h1) ((litsF_one _ _).1 h2))
theorem extF_or {α : Type} (same gt : α → α → Bool) (l m : List α) : extF same gt l m = 0 ∨ extF same gt l m = 1 ∨ extF same gt l m = -1 ∨ extF same gt l m = 2 := by
 unfold extF
 split
 ·exact .inl rfl
 ·split
  ·exact .inr (.inl rfl)
  ·split
   ·exact .inr (.inr (.inl rfl))
   ·exact .inr (.inr (.inr rfl))
theorem litsF_or (a b : Lt) : litsF gr tc a b = 0 ∨ litsF gr tc a b = 1 ∨ litsF gr tc a b = -1 ∨ litsF gr tc a b = 2 := by
 unfold litsF
 split
 ·exact extF_or _ _ _ _
 ·exact .inr (.inr (.inr rfl))
theorem clausesF_or (c d : List Lt) : clausesF gr tc c d = 0 ∨ clausesF gr tc c d = 1 ∨ clausesF gr tc c d = -1 ∨ clausesF gr tc c d = 2 := by
 unfold clausesF
 split
 ·exact extF_or _ _ _ _
 ·exact .inr (.inr (.inr rfl))
theorem clausesF_M (c d : List Lt) : clausesF gr tc c d = if gr = true ∧ clE c = 0 ∧ clE d = 0 then extM (gkL gr tc) (cnt Lt.key c) (cnt Lt.key d) else 2 := by
 unfold clausesF
 rw [extF_M (key := Lt.key) (gk := gkL gr tc) same_key (fun x y => by simp [litsF_one]) c d]
theorem clausesF_one (c d : List Lt) : clausesF gr tc c d = 1 ↔ gr = true ∧ clE c = 0 ∧ clE d = 0 ∧ gtM (gkL gr tc) (cnt Lt.key c) (cnt Lt.key d) := by
 rw [clausesF_M]
 by_cases h : gr = true ∧ clE c = 0 ∧ clE d = 0
 ·rw [if_pos h, extM_one]; exact ⟨fun k => ⟨h.1, h.2.1, h.2.2, k⟩, fun k => k.2.2.2⟩
 ·rw [if_neg h]
  constructor
  ·intro k; cases k
  ·intro k; exact absurd ⟨k.1, k.2.1, k.2.2.1⟩ h
theorem clausesF_swap (ho : Strict fun s t => tc s t = 1) (c d : List Lt) : clausesF gr tc d c = if clausesF gr tc c d = 2 then 2 else - clausesF gr tc c d := by
 rw [clausesF_M, clausesF_M]
 by_cases h : gr = true ∧ clE c = 0 ∧ clE d = 0
 ·rw [if_pos h, if_pos ⟨h.1, h.2.2, h.2.1⟩]
  obtain ⟨L1, hL1⟩ := cnt_fin Lt.key c
  obtain ⟨L2, hL2⟩ := cnt_fin Lt.key d
  exact extM_swap (strict_L ho) (L := L1 ++ L2) fun k hk => by
   simp only [List.mem_append, not_or] at hk
   exact ⟨hL1 k hk.1, hL2 k hk.2⟩
 ·rw [if_neg h, if_neg fun k => h ⟨k.1, k.2.2, k.2.1⟩]; rfl
theorem clausesF_tr (ho : Strict fun s t => tc s t = 1) {c d e : List Lt} (h1 : clausesF gr tc c d = 1) (h2 : clausesF gr tc d e = 1) : clausesF gr tc c e = 1 := by
 rw [clausesF_one] at h1 h2 ⊢
 obtain ⟨L1, hL1⟩ := cnt_fin Lt.key c
 obtain ⟨L2, hL2⟩ := cnt_fin Lt.key d
 obtain ⟨L3, hL3⟩ := cnt_fin Lt.key e
 refine ⟨h1.1, h1.2.1, h2.2.2.1, gtM_tr (strict_L ho) (L := L1 ++ L2 ++ L3) (fun k hk => ?_) h1.2.2.2 h2.2.2.2⟩
 simp only [List.mem_append, not_or] at hk
 exact ⟨hL1 k hk.1.1, hL2 k hk.1.2, hL3 k hk.2⟩
theorem clausesF_more (c : List Lt) (x : Lt) (hg : gr = true) (h1 : clE (c ++ [x]) = 0) (h2 : clE c = 0) : clausesF gr tc (c ++ [x]) c = 1 := by
 rw [clausesF_one]
 refine ⟨hg, h1, h2, ⟨x.key, ?_⟩, fun k hk => ?_⟩
 ·rw [cnt_append]
  have := cnt_mem (key := Lt.key) (l := [x]) (x := x) (by simp)
  omega
 ·rw [cnt_append] at hk; omega
theorem maximal_some (ho : Strict fun s t => tc s t = 1) (d : List Lt) (hd : d ≠ []) : ∃ (i : Nat) (x : Lt), d[i]? = some x ∧ ∀ y ∈ d, litsF gr tc y x ≠ 1 := by
 obtain ⟨w, hw, _, hm⟩ := greatest (strict_L (gr := gr) ho) (S := fun _ => True) (d.map Lt.key) (by
  cases d with
  | nil => exact absurd rfl hd
  | cons a r => exact ⟨a.key, by simp, trivial⟩)
 obtain ⟨x, hx, rfl⟩ := List.mem_map.1 hw
 obtain ⟨i, hi⟩ := List.mem_iff_getElem?.1 hx
 exact ⟨i, x, hi, fun y hy h => hm y.key (List.mem_map.2 ⟨y, hy, rfl⟩) trivial ((litsF_one _ _).1 h)⟩
end
end Go.Proofs.Ytajilkmepjhkdaa.Am

/-
 An order of terms as data and as mathematics: by paths, or by weights. No condition.
-/
namespace Go.Proofs.Ytajilkmepjhkdaa.Am
open Go Go.Proofs
set_option linter.unusedSimpArgs false
set_option linter.unusedVariables false
structure Od where
 path : Bool
 g : Sg
def Od.enc (o : Od) : List D := .bool o.path :: o.g.enc
noncomputable def Od.cmp (o : Od) (s t : Term) : Int := if s.size ≤ 1048576 ∧ t.size ≤ 1048576 then (if o.path then o.g.lCmp s t else o.g.kCmp s t) else 2
theorem Od.cmp_small (o : Od) {s t : Term} (hs : s.size ≤ 1048576) (ht : t.size ≤ 1048576) : o.cmp s t = if o.path then o.g.lCmp s t else o.g.kCmp s t := if_pos ⟨hs, ht⟩
theorem Od.strict (o : Od) : Strict fun s t => o.cmp s t = 1 := by
 constructor
 ·intro a h
  unfold Od.cmp at h
  split at h
  ·rename_i hs
   split at h
   ·rcases lCmp_turn o.g a a with ⟨h1, _⟩ | ⟨_, h1⟩ <;> omega
   ·rcases kCmp_turn o.g a a hs.1 hs.1 with ⟨h1, _⟩ | ⟨_, h1⟩ <;> omega
  ·cases h
 ·intro a b c h1 h2
  unfold Od.cmp at h1 h2 ⊢
  by_cases hs : a.size ≤ 1048576 ∧ b.size ≤ 1048576
  ·by_cases ht : b.size ≤ 1048576 ∧ c.size ≤ 1048576
   ·rw [if_pos hs] at h1
    rw [if_pos ht] at h2
    rw [if_pos ⟨hs.1, ht.2⟩]
    cases hp : o.path <;> simp only [hp, if_true, Bool.false_eq_true, if_false] at h1 h2 ⊢
    ·exact kCmp_trans o.g a b c hs.1 hs.2 ht.2 h1 h2
    ·exact lCmp_trans o.g a b c h1 h2
   ·rw [if_neg ht] at h2; cases h2
  ·rw [if_neg hs] at h1; cases h1
end Go.Proofs.Ytajilkmepjhkdaa.Am


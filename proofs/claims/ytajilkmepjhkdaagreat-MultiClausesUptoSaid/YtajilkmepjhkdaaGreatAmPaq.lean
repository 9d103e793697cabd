/-
  Joined texts: AmMq, AmMl, AmUo. No condition.
-/
import Derived.Test.YtajilkmepjhkdaaGreatAmPap
/-
 Multisets as mathematics: what is left of a list, an order's extension, that it is one. No condition.
-/
namespace Go.Proofs.YtajilkmepjhkdaaGreat.Am
open Go Go.Proofs
set_option linter.unusedSimpArgs false
set_option linter.unusedVariables false
def restF {α : Type} (same : α → α → Bool) : List α → List α → List α
 | [], _ => []
 | x :: r, m => match m.findIdx? (same x) with
  | none => x :: restF same r m
  | some i => restF same r (m.eraseIdx i)
def coversF {α : Type} (gt : α → α → Bool) (a b : List α) : Bool := !a.isEmpty && b.all fun t => a.any fun s => gt s t
def extF {α : Type} (same gt : α → α → Bool) (l m : List α) : Int :=
 if (restF same l m).length + (restF same m l).length = 0 then 0
 else if coversF gt (restF same l m) (restF same m l) then 1
 else if coversF gt (restF same m l) (restF same l m) then -1
 else 2
open Classical in
noncomputable def cnt {α β : Type} (key : α → β) (l : List α) (k : β) : Nat := match l with
 | [] => 0
 | x :: r => (if key x = k then 1 else 0) + cnt key r k
section
variable {α β : Type} {key : α → β} {same : α → α → Bool}
theorem cnt_mem {l : List α} {x : α} (h : x ∈ l) : 0 < cnt key l (key x) := by
 induction l with
 | nil => simp at h
 | cons y r ih =>
  simp only [cnt]
  rcases List.mem_cons.1 h with rfl | h
  ·simp; omega
  ·have := ih h; omega
theorem cnt_pos {l : List α} {k : β} (h : 0 < cnt key l k) : ∃ x ∈ l, key x = k := by
 induction l with
 | nil => simp [cnt] at h
 | cons y r ih =>
  simp only [cnt] at h
  by_cases e : key y = k
  ·exact ⟨y, by simp, e⟩
  ·rw [if_neg e] at h
   obtain ⟨x, hx, hk⟩ := ih (by omega)
   exact ⟨x, by simp [hx], hk⟩
theorem cnt_append (l m : List α) (k : β) : cnt key (l ++ m) k = cnt key l k + cnt key m k := by
 induction l with
 | nil => simp [cnt]
 | cons x r ih => simp only [List.cons_append, cnt, ih]; omega
theorem findIdx_none {p : α → Bool} {m : List α} (h : m.findIdx? p = none) : ∀ y ∈ m, p y = false := by
 intro y hy
 rw [List.findIdx?_eq_none_iff] at h
 exact h y hy
theorem cnt_erase (hs : ∀ x y, same x y = true ↔ key x = key y) (x : α) (k : β) : ∀ (m : List α) (i : Nat), m.findIdx? (same x) = some i → cnt key (m.eraseIdx i) k + cnt key [x] k = cnt key m k
 | [], i, h => by simp at h
 | y :: r, i, h => by
  rw [List.findIdx?_cons] at h
  by_cases hy : same x y = true
  ·rw [if_pos hy] at h
   cases h
   have e := (hs x y).1 hy
   simp only [List.eraseIdx_cons_zero, cnt]
   rw [e]
   omega
  ·rw [if_neg hy] at h
   cases hr : r.findIdx? (same x) with
   | none => rw [hr] at h; cases h
   | some j =>
    rw [hr] at h
    cases h
    have := cnt_erase hs x k r j hr
    simp only [List.eraseIdx_cons_succ, cnt] at this ⊢
    omega
theorem cnt_rest (hs : ∀ x y, same x y = true ↔ key x = key y) (k : β) : ∀ (l m : List α), cnt key (restF same l m) k = cnt key l k - cnt key m k
 | [], m => by simp [restF, cnt]
 | x :: r, m => by
  simp only [restF]
  cases h : m.findIdx? (same x) with
  | none =>
   simp only [cnt, cnt_rest hs k r m]
   by_cases e : key x = k
   ·have h0 : cnt key m k = 0 := by
     rcases Nat.eq_zero_or_pos (cnt key m k) with h0 | h0
     ·exact h0
     ·obtain ⟨y, hy, hk⟩ := cnt_pos h0
      have := findIdx_none h y hy
      rw [(hs x y).2 (by rw [e, hk])] at this
      cases this
    rw [if_pos e, h0]; omega
   ·rw [if_neg e]; omega
  | some i =>
   have h1 := cnt_erase hs x k m i h
   simp only [cnt, cnt_rest hs k r] at h1 ⊢
   omega
theorem rest_mem : ∀ (l m : List α), ∀ x ∈ restF same l m, x ∈ l
 | [], m, x, h => by simp [restF] at h
 | y :: r, m, x, h => by
  simp only [restF] at h
  cases hf : m.findIdx? (same y) with
  | none =>
   rw [hf] at h
   rcases List.mem_cons.1 h with rfl | h
   ·simp
   ·simp [rest_mem r m x h]
  | some i => rw [hf] at h; simp [rest_mem r _ x h]
def gtM (gt : β → β → Prop) (M N : β → Nat) : Prop := (∃ k, N k < M k) ∧ ∀ k, M k < N k → ∃ k', gt k' k ∧ N k' < M k'
structure Strict (gt : β → β → Prop) : Prop where
 irr : ∀ a, ¬ gt a a
 tr : ∀ a b c, gt a b → gt b c → gt a c
theorem greatest {gt : β → β → Prop} (ho : Strict gt) {S : β → Prop} : ∀ (L : List β), (∃ k ∈ L, S k) → ∃ w ∈ L, S w ∧ ∀ v ∈ L, S v → ¬ gt v w
 | [], ⟨_, h, _⟩ => by simp at h
 | a :: L, ⟨k, hk, hS⟩ => by
  by_cases h : ∃ k ∈ L, S k
  ·obtain ⟨w, hw, hSw, hm⟩ := greatest ho L h
   by_cases ha : S a ∧ gt a w
   ·refine ⟨a, by simp, ha.1, fun v hv hSv hg => ?_⟩
    rcases List.mem_cons.1 hv with rfl | hv
    ·exact ho.irr _ hg
    ·exact hm v hv hSv (ho.tr _ _ _ hg ha.2)
   ·refine ⟨w, by simp [hw], hSw, fun v hv hSv hg => ?_⟩
    rcases List.mem_cons.1 hv with rfl | hv
    ·exact ha ⟨hSv, hg⟩
    ·exact hm v hv hSv hg
  ·rcases List.mem_cons.1 hk with rfl | hk
   ·refine ⟨k, by simp, hS, fun v hv hSv hg => ?_⟩
    rcases List.mem_cons.1 hv with rfl | hv
    ·exact ho.irr _ hg
    ·exact h ⟨v, hv, hSv⟩
   ·exact absurd ⟨k, hk, hS⟩ h
theorem gtM_irr {gt : β → β → Prop} (M : β → Nat) : ¬ gtM gt M M := fun h => by obtain ⟨⟨k, hk⟩, _⟩ := h; omega
theorem gtM_tr {gt : β → β → Prop} (ho : Strict gt) {M N P : β → Nat} {L : List β} (hL : ∀ k, k ∉ L → M k = 0 ∧ N k = 0 ∧ P k = 0) (h1 : gtM gt M N) (h2 : gtM gt N P) : gtM gt M P := by
 have hD : ∀ k, ¬ (M k = N k ∧ N k = P k) → k ∈ L := fun k hk => Classical.byContradiction fun hn => by
  obtain ⟨a, b, c⟩ := hL k hn
  exact hk ⟨by omega, by omega⟩
 have claim : ∀ z, ¬ (M z = N z ∧ N z = P z) → (∀ v, ¬ (M v = N v ∧ N v = P v) → ¬ gt v z) → P z < M z := fun z hz hm => by
  have a1 : N z ≤ M z := Nat.not_lt.1 fun h => by
   obtain ⟨k, hk, hlt⟩ := h1.2 z h
   exact hm k (by omega) hk
  have a2 : P z ≤ N z := Nat.not_lt.1 fun h => by
   obtain ⟨k, hk, hlt⟩ := h2.2 z h
   exact hm k (by omega) hk
  omega
 refine ⟨?_, fun y hy => ?_⟩
 ·obtain ⟨k, hk⟩ := h1.1
  obtain ⟨z, hz, hDz, hm⟩ := greatest ho (S := fun k => ¬ (M k = N k ∧ N k = P k)) L ⟨k, hD k (by omega), by omega⟩
  exact ⟨z, claim z hDz fun v hv => hm v (hD v hv) hv⟩
 ·obtain ⟨u, hu, hDu⟩ : ∃ u, gt u y ∧ ¬ (M u = N u ∧ N u = P u) := by
   rcases Nat.lt_or_ge (M y) (N y) with h | h
   ·obtain ⟨k, hk, hlt⟩ := h1.2 y h
    exact ⟨k, hk, by omega⟩
   ·obtain ⟨k, hk, hlt⟩ := h2.2 y (by omega)
    exact ⟨k, hk, by omega⟩
  obtain ⟨z, hz, ⟨hDz, hgz⟩, hm⟩ := greatest ho (S := fun k => ¬ (M k = N k ∧ N k = P k) ∧ gt k y) L ⟨u, hD u hDu, hDu, hu⟩
  exact ⟨z, hgz, claim z hDz fun v hv hg => hm v (hD v hv) ⟨hv, ho.tr _ _ _ hg hgz⟩ hg⟩
theorem covers_iff {gt : α → α → Bool} {gk : β → β → Prop} (hs : ∀ x y, same x y = true ↔ key x = key y) (hg : ∀ x y, gt x y = true ↔ gk (key x) (key y)) (l m : List α) :
  coversF gt (restF same l m) (restF same m l) = true ↔ gtM gk (cnt key l) (cnt key m) := by
 have hc := fun k => cnt_rest (key := key) hs k l m
 have hd := fun k => cnt_rest (key := key) hs k m l
 simp only [coversF, Bool.and_eq_true, Bool.not_eq_true', List.all_eq_true, List.any_eq_true]
 constructor
 ·rintro ⟨h1, h2⟩
  refine ⟨?_, fun k hk => ?_⟩
  ·cases hr : restF same l m with
   | nil => rw [hr] at h1; simp at h1
   | cons x r =>
    have := cnt_mem (key := key) (l := restF same l m) (x := x) (by rw [hr]; simp)
    rw [hc] at this
    exact ⟨key x, by omega⟩
  ·have : 0 < cnt key (restF same m l) k := by rw [hd]; omega
   obtain ⟨t, ht, rfl⟩ := cnt_pos this
   obtain ⟨s, hs', hgt⟩ := h2 t ht
   have := cnt_mem (key := key) hs'
   rw [hc] at this
   exact ⟨key s, (hg s t).1 hgt, by omega⟩
 ·rintro ⟨⟨k, hk⟩, h2⟩
  refine ⟨?_, fun t ht => ?_⟩
  ·have : 0 < cnt key (restF same l m) k := by rw [hc]; omega
   obtain ⟨x, hx, _⟩ := cnt_pos this
   cases hr : restF same l m with
   | nil => rw [hr] at hx; simp at hx
   | cons => rfl
  ·have := cnt_mem (key := key) ht
   rw [hd] at this
   obtain ⟨k', hgk, hlt⟩ := h2 (key t) (by omega)
   have : 0 < cnt key (restF same l m) k' := by rw [hc]; omega
   obtain ⟨s, hs', rfl⟩ := cnt_pos this
   exact ⟨s, hs', (hg s t).2 hgk⟩
theorem rest_nil_iff (hs : ∀ x y, same x y = true ↔ key x = key y) (l m : List α) : (restF same l m).length + (restF same m l).length = 0 ↔ cnt key l = cnt key m := by
 have hc := fun k => cnt_rest (key := key) hs k l m
 have hd := fun k => cnt_rest (key := key) hs k m l
 constructor
 ·intro h
  have h1 : restF same l m = [] := List.length_eq_zero_iff.1 (by omega)
  have h2 : restF same m l = [] := List.length_eq_zero_iff.1 (by omega)
  funext k
  have e1 := hc k
  have e2 := hd k
  rw [h1] at e1
  rw [h2] at e2
  simp only [cnt] at e1 e2
  omega
 ·intro h
  have h1 : restF same l m = [] := by
   cases hr : restF same l m with
   | nil => rfl
   | cons x r =>
    have := cnt_mem (key := key) (l := restF same l m) (x := x) (by rw [hr]; simp)
    rw [hc, h] at this
    omega
  have h2 : restF same m l = [] := by
   cases hr : restF same m l with
   | nil => rfl
   | cons x r =>
    have := cnt_mem (key := key) (l := restF same m l) (x := x) (by rw [hr]; simp)
    rw [hd, h] at this
    omega
  rw [h1, h2]; rfl
open Classical in
noncomputable def extM (gk : β → β → Prop) (M N : β → Nat) : Int := if M = N then 0 else if gtM gk M N then 1 else if gtM gk N M then -1 else 2
theorem extF_M {gt : α → α → Bool} {gk : β → β → Prop} (hs : ∀ x y, same x y = true ↔ key x = key y) (hg : ∀ x y, gt x y = true ↔ gk (key x) (key y)) (l m : List α) : extF same gt l m = extM gk (cnt key l) (cnt key m) := by
 unfold extF extM
 by_cases h0 : cnt key l = cnt key m
 ·rw [if_pos ((rest_nil_iff hs l m).2 h0), if_pos h0]
 ·rw [if_neg fun h => h0 ((rest_nil_iff hs l m).1 h), if_neg h0]
  by_cases h1 : gtM gk (cnt key l) (cnt key m)
  ·rw [if_pos ((covers_iff hs hg l m).2 h1), if_pos h1]
  ·rw [if_neg fun h => h1 ((covers_iff hs hg l m).1 h), if_neg h1]
   by_cases h2 : gtM gk (cnt key m) (cnt key l)
   ·rw [if_pos ((covers_iff hs hg m l).2 h2), if_pos h2]
   ·rw [if_neg fun h => h2 ((covers_iff hs hg m l).1 h), if_neg h2]
theorem extM_or (gk : β → β → Prop) (M N : β → Nat) : extM gk M N = 0 ∨ extM gk M N = 1 ∨ extM gk M N = -1 ∨ extM gk M N = 2 := by
 unfold extM
 split
 ·exact .inl rfl
 ·split
  ·exact .inr (.inl rfl)
  ·split
   ·exact .inr (.inr (.inl rfl))
   ·exact .inr (.inr (.inr rfl))
theorem extM_one {gk : β → β → Prop} {M N : β → Nat} : extM gk M N = 1 ↔ gtM gk M N := by
 unfold extM
 by_cases h0 : M = N
 ·rw [if_pos h0]
  constructor
  ·intro h; cases h
  ·intro h; subst h0; exact absurd h (gtM_irr _)
 ·rw [if_neg h0]
  by_cases h1 : gtM gk M N
  ·simp [h1]
  ·rw [if_neg h1]
   constructor
   ·intro h; split at h <;> cases h
   ·intro h; exact absurd h h1
theorem extM_swap {gk : β → β → Prop} (ho : Strict gk) {M N : β → Nat} {L : List β} (hL : ∀ k, k ∉ L → M k = 0 ∧ N k = 0) : extM gk N M = if extM gk M N = 2 then 2 else - extM gk M N := by
 have has : ∀ h1 : gtM gk M N, ¬ gtM gk N M := fun h1 h2 => gtM_irr M (gtM_tr ho (L := L) (fun k hk => ⟨(hL k hk).1, (hL k hk).2, (hL k hk).1⟩) h1 h2)
 unfold extM
 by_cases h0 : M = N
 ·subst h0; simp
 ·rw [if_neg h0, if_neg (Ne.symm h0)]
  by_cases h1 : gtM gk M N
  ·rw [if_pos h1, if_neg (has h1), if_pos h1]; rfl
  ·rw [if_neg h1]
   by_cases h2 : gtM gk N M
   ·rw [if_pos h2, if_neg h1, if_pos h2]; rfl
   ·rw [if_neg h2, if_neg h2, if_neg h1]; rfl
end
end Go.Proofs.YtajilkmepjhkdaaGreat.Am

/-
 The order of terms, extended to literals and clauses, as mathematics. No condition.
-/
namespace Go.Proofs.YtajilkmepjhkdaaGreat.Am
open Go Go.Proofs
set_option linter.unusedSimpArgs false
set_option linter.unusedVariables false
def Lt.sides (x : Lt) : List Term := if x.neg then [x.l, x.l, x.r, x.r] else [x.l, x.r]
def Lt.right (x : Lt) : Prop := x.l.rightE = 0 ∧ x.r.rightE = 0
instance (x : Lt) : Decidable x.right := inferInstanceAs (Decidable (_ ∧ _))
noncomputable def Lt.key (x : Lt) : Term → Nat := cnt id x.sides
theorem Lt.mem_sides (x : Lt) (t : Term) : t ∈ x.sides ↔ t = x.l ∨ t = x.r := by
 unfold Lt.sides
 cases x.neg <;> simp <;> constructor <;> (intro h; rcases h with h | h | h | h <;> simp_all) <;> simp_all
theorem Lt.key_ne (x : Lt) (t : Term) : x.key t ≠ 0 ↔ t = x.l ∨ t = x.r := by
 rw [← x.mem_sides]
 constructor
 ·intro h
  obtain ⟨y, hy, rfl⟩ := cnt_pos (key := id) (l := x.sides) (k := t) (by unfold Lt.key at h; omega)
  exact hy
 ·intro h
  have := cnt_mem (key := id) h
  simp only [id] at this
  unfold Lt.key; omega
theorem same_refl_key {a b : Lt} (h : a.same b = true) : a.key = b.key := by
 obtain ⟨n, l, r⟩ := a
 obtain ⟨n2, l2, r2⟩ := b
 simp only [Lt.same, Bool.and_eq_true, Bool.or_eq_true, beq_iff_eq, sameB_eq] at h
 obtain ⟨rfl, ⟨rfl, rfl⟩ | ⟨rfl, rfl⟩⟩ := h
 ·rfl
 ·funext t
  simp only [Lt.key, Lt.sides]
  cases n <;> simp only [cnt, id, if_true, if_false, Bool.false_eq_true] <;> omega
open Classical in
theorem pair_eq {β : Type} (l r l2 r2 : β) (h : ∀ t, (if l = t then 1 else 0) + (if r = t then 1 else 0) = (if l2 = t then 1 else 0) + (if r2 = t then 1 else 0)) : (l = l2 ∧ r = r2) ∨ (l = r2 ∧ r = l2) := by
 by_cases e : l = l2
 ·subst e
  refine .inl ⟨rfl, Classical.byContradiction fun hne => ?_⟩
  have := h r
  rw [if_pos (show r = r from rfl), if_neg (show ¬ r2 = r from fun q => hne q.symm)] at this
  omega
 ·have h1 := h l
  rw [if_pos (show l = l from rfl), if_neg (show ¬ l2 = l from fun q => e q.symm)] at h1
  have e2 : r2 = l := Classical.byContradiction fun hne => by rw [if_neg hne] at h1; omega
  subst e2
  refine .inr ⟨rfl, Classical.byContradiction fun hne => ?_⟩
  have := h r
  rw [if_pos (show r = r from rfl), if_neg (show ¬ l2 = r from fun q => hne q.symm)] at this
  omega
open Classical in
theorem pair_odd {β : Type} (l r l2 r2 : β) (h : ∀ t, (if l = t then 1 else 0) + (if r = t then 1 else 0) = (if l2 = t then 1 else 0) + (if l2 = t then 1 else 0) + ((if r2 = t then 1 else 0) + (if r2 = t then 1 else 0))) : False := by
 have h1 := h l
 have h2 := h l2
 have h3 := h r2
 rw [if_pos (show l = l from rfl)] at h1
 rw [if_pos (show l2 = l2 from rfl)] at h2
 rw [if_pos (show r2 = r2 from rfl)] at h3
 by_cases a : l = l2
 ·subst a
  rw [if_pos rfl] at h1 h2
  by_cases b : r = l
  ·subst b
   rw [if_pos rfl] at h1 h2
   by_cases c : r2 = r
   ·subst c; simp at h1
   ·rw [if_neg (show ¬ r = r2 from fun q => c q.symm)] at h3
    omega
  ·rw [if_neg b] at h1
   by_cases c : r2 = l
   ·rw [if_pos c] at h1; omega
   ·rw [if_neg c] at h1; omega
 ·by_cases b : r = l2
  ·subst b
   rw [if_neg a, if_pos rfl] at h2
   by_cases c : r2 = r
   ·rw [if_pos c] at h2; omega
   ·rw [if_neg c] at h2; omega
  ·rw [if_neg a, if_neg b] at h2
   omega
theorem key_same {a b : Lt} (h : a.key = b.key) : a.same b = true := by
 obtain ⟨n, l, r⟩ := a
 obtain ⟨n2, l2, r2⟩ := b
 have H := fun t => congrFun h t
 clear h
 simp only [Lt.same, Bool.and_eq_true, Bool.or_eq_true, beq_iff_eq, sameB_eq]
 simp only [Lt.key, Lt.sides] at H
 cases n <;> cases n2
 ·refine ⟨rfl, pair_eq l r l2 r2 fun t => ?_⟩
  have := H t
  simp only [cnt, id, if_false, Bool.false_eq_true, Nat.add_zero] at this
  exact this
 ·exfalso
  refine pair_odd l r l2 r2 fun t => ?_
  have := H t
  simp only [cnt, id, if_true, if_false, Bool.false_eq_true, Nat.add_zero] at this
  rw [this]; omega
 ·exfalso
  refine pair_odd l2 r2 l r fun t => ?_
  have := H t
  simp only [cnt, id, if_true, if_false, Bool.false_eq_true, Nat.add_zero] at this
  rw [← this]; omega
 ·refine ⟨rfl, pair_eq l r l2 r2 fun t => ?_⟩
  have := H t
  simp only [cnt, id, if_true, Nat.add_zero] at this
  omega
theorem same_key (a b : Lt) : a.same b = true ↔ a.key = b.key := ⟨same_refl_key, key_same⟩
def Fin1 {β : Type} (M : β → Nat) : Prop := ∃ L : List β, ∀ k, k ∉ L → M k = 0
theorem cnt_fin {α β : Type} (key : α → β) (l : List α) : Fin1 (cnt key l) := ⟨l.map key, fun k hk => by
 rcases Nat.eq_zero_or_pos (cnt key l k) with h | h
 ·exact h
 ·obtain ⟨x, hx, rfl⟩ := cnt_pos h
  exact absurd (List.mem_map.2 ⟨x, hx, rfl⟩) hk⟩
section
variable (gr : Bool) (tc : Term → Term → Int)
def litsF (a b : Lt) : Int := if gr = true ∧ a.right ∧ b.right then extF Term.sameB (fun s t => decide (tc s t = 1)) a.sides b.sides else 2
def clausesF (c d : List Lt) : Int := if gr = true ∧ clE c = 0 ∧ clE d = 0 then extF Lt.same (fun a b => decide (litsF gr tc a b = 1)) c d else 2
def gkL (M N : Term → Nat) : Prop := gr = true ∧ (∀ t, M t ≠ 0 → t.rightE = 0) ∧ (∀ t, N t ≠ 0 → t.rightE = 0) ∧ Fin1 M ∧ Fin1 N ∧ gtM (fun s t => tc s t = 1) M N
variable {gr tc}
theorem strict_L (ho : Strict fun s t => tc s t = 1) : Strict (gkL gr tc) := by
 refine ⟨fun a h => gtM_irr _ h.2.2.2.2.2, fun a b c h1 h2 => ⟨h1.1, h1.2.1, h2.2.2.1, h1.2.2.2.1, h2.2.2.2.2.1, ?_⟩⟩
 obtain ⟨L1, hL1⟩ := h1.2.2.2.1
 obtain ⟨L2, hL2⟩ := h1.2.2.2.2.1
 obtain ⟨L3, hL3⟩ := h2.2.2.2.2.1
 refine gtM_tr ho (L := L1 ++ L2 ++ L3) (fun k hk => ?_) h1.2.2.2.2.2 h2.2.2.2.2.2
 simp only [List.mem_append, not_or] at hk
 exact ⟨hL1 k hk.1.1, hL2 k hk.1.2, hL3 k hk.2⟩
theorem sameB_id (x y : Term) : x.sameB y = true ↔ id x = id y := sameB_eq x y
theorem litsF_M (a b : Lt) : litsF gr tc a b = if gr = true ∧ a.right ∧ b.right then extM (fun s t => tc s t = 1) a.key b.key else 2 := by
 unfold litsF
 rw [extF_M (key := id) (gk := fun s t => tc s t = 1) sameB_id (fun x y => by simp) a.sides b.sides]
 rfl
theorem right_key (a : Lt) : a.right ↔ ∀ t, a.key t ≠ 0 → t.rightE = 0 := by
 constructor
 ·intro h t ht
  rcases (a.key_ne t).1 ht with rfl | rfl
  ·exact h.1
  ·exact h.2
 ·intro h
  exact ⟨h _ ((a.key_ne _).2 (.inl rfl)), h _ ((a.key_ne _).2 (.inr rfl))⟩
theorem litsF_one (a b : Lt) : litsF gr tc a b = 1 ↔ gkL gr tc a.key b.key := by
 rw [litsF_M]
 by_cases h : gr = true ∧ a.right ∧ b.right
 ·rw [if_pos h, extM_one]
  exact ⟨fun k => ⟨h.1, (right_key a).1 h.2.1, (right_key b).1 h.2.2, cnt_fin _ _, cnt_fin _ _, k⟩, fun k => k.2.2.2.2.2⟩
 ·rw [if_neg h]
  constructor
  ·intro k; cases k
  ·intro k; exact absurd ⟨k.1, (right_key a).2 k.2.1, (right_key b).2 k.2.2.1⟩ h
theorem litsF_swap (ho : Strict fun s t => tc s t = 1) (a b : Lt) : litsF gr tc b a = if litsF gr tc a b = 2 then 2 else - litsF gr tc a b := by
 rw [litsF_M, litsF_M]
 by_cases h : gr = true ∧ a.right ∧ b.right
 ·rw [if_pos h, if_pos ⟨h.1, h.2.2, h.2.1⟩]
  obtain ⟨L1, hL1⟩ := cnt_fin id a.sides
  obtain ⟨L2, hL2⟩ := cnt_fin id b.sides
  exact extM_swap ho (L := L1 ++ L2) fun k hk => by
   simp only [List.mem_append, not_or] at hk
   exact ⟨hL1 k hk.1, hL2 k hk.2⟩
 ·rw [if_neg h, if_neg fun k => h ⟨k.1, k.2.2, k.2.1⟩]; rfl
theorem litsF_tr (ho : Strict fun s t => tc s t = 1) {a b c : Lt} (h1 : litsF gr tc a b = 1) (h2 : litsF gr tc b c = 1) : litsF gr tc a c = 1 :=
 (litsF_one _ _).2 ((strict_L ho).tr _ _ _ ((litsF_one _ _).1 h1) ((litsF_one _ _).1 h2))
theorem extF_or {α : Type} (same gt : α → α → Bool) (l m : List α) : extF same gt l m = 0 ∨ extF same gt l m = 1 ∨ extF same gt l m = -1 ∨ extF same gt l m = 2 := by
 unfold extF
 split
 ·exact .inl rfl
 ·split
  ·exact .inr (.inl rfl)
  ·split
   ·exact .inr (.inr (.inl rfl))
   ·exact .inr (.inr (.inr rfl))
theorem litsF_or (a b : Lt) : litsF gr tc a b = 0 ∨ litsF gr tc a b = 1 ∨ litsF gr tc a b = -1 ∨ litsF gr tc a b = 2 := by
 unfold litsF
 split
 ·exact extF_or _ _ _ _
 ·exact .inr (.inr (.inr rfl))
theorem clausesF_or (c d : List Lt) : clausesF gr tc c d = 0 ∨ clausesF gr tc c d = 1 ∨ clausesF gr tc c d = -1 ∨ clausesF gr tc c d = 2 := by
 unfold clausesF
 split
 ·exact extF_or _ _ _ _
 ·exact .inr (.inr (.inr rfl))
theorem clausesF_M (c d : List Lt) : clausesF gr tc c d = if gr = true ∧ clE c = 0 ∧ clE d = 0 then extM (gkL gr tc) (cnt Lt.key c) (cnt Lt.key d) else 2 := by
 unfold clausesF
 rw [extF_M (key := Lt.key) (gk := gkL gr tc) same_key (fun x y => by simp [litsF_one]) c d]
theorem clausesF_one (c d : List Lt) : clausesF gr tc c d = 1 ↔ gr = true ∧ clE c = 0 ∧ clE d = 0 ∧ gtM (gkL gr tc) (cnt Lt.key c) (cnt Lt.key d) := by
 rw [clausesF_M]
 by_cases h : gr = true ∧ clE c = 0 ∧ clE d = 0
 ·rw [if_pos h, extM_one]; exact ⟨fun k => ⟨h.1, h.2.1, h.2.2, k⟩, fun k => k.2.2.2⟩
 ·rw [if_neg h]
  constructor
  ·intro k; cases k
  ·intro k; exact absurd ⟨k.1, k.2.1, k.2.2.1⟩ h
theorem clausesF_swap (ho : Strict fun s t => tc s t = 1) (c d : List Lt) : clausesF gr tc d c = if clausesF gr tc c d = 2 then 2 else - clausesF gr tc c d := by
 rw [clausesF_M, clausesF_M]
 by_cases h : gr = true ∧ clE c = 0 ∧ clE d = 0
 ·rw [if_pos h, if_pos ⟨h.1, h.2.2, h.2.1⟩]
  obtain ⟨L1, hL1⟩ := cnt_fin Lt.key c
  obtain ⟨L2, hL2⟩ := cnt_fin Lt.key d
  exact extM_swap (strict_L ho) (L := L1 ++ L2) fun k hk => by
   simp only [List.mem_append, not_or] at hk
   exact ⟨hL1 k hk.1, hL2 k hk.2⟩
 ·rw [if_neg h, if_neg fun k => h ⟨k.1, k.2.2, k.2.1⟩]; rfl
theorem clausesF_tr (ho : Strict fun s t => tc s t = 1) {c d e : List Lt} (h1 : clausesF gr tc c d = 1) (h2 : clausesF gr tc d e = 1) : clausesF gr tc c e = 1 := by
 rw [clausesF_one] at h1 h2 ⊢
 obtain ⟨L1, hL1⟩ := cnt_fin Lt.key c
 obtain ⟨L2, hL2⟩ := cnt_fin Lt.key d
 obtain ⟨L3, hL3⟩ := cnt_fin Lt.key e
 refine ⟨h1.1, h1.2.1, h2.2.2.1, gtM_tr (strict_L ho) (L := L1 ++ L2 ++ L3) (fun k hk => ?_) h1.2.2.2 h2.2.2.2⟩
 simp only [List.mem_append, not_or] at hk
 exact ⟨hL1 k hk.1.1, hL2 k hk.1.2, hL3 k hk.2⟩
theorem clausesF_more (c : List Lt) (x : Lt) (hg : gr = true) (h1 : clE (c ++ [x]) = 0) (h2 : clE c = 0) : clausesF gr tc (c ++ [x]) c = 1 := by
 rw [clausesF_one]
 refine ⟨hg, h1, h2, ⟨x.key, ?_⟩, fun k hk => ?_⟩
 ·rw [cnt_append]
  have := cnt_mem (key := Lt.key) (l := [x]) (x := x) (by simp)
  omega
 ·rw [cnt_append] at hk; omega
theorem maximal_some (ho : Strict fun s t => tc s t = 1) (d : List Lt) (hd : d ≠ []) : ∃ (i : Nat) (x : Lt), d[i]? = some x ∧ ∀ y ∈ d, litsF gr tc y x ≠ 1 := by
 obtain ⟨w, hw, _, hm⟩ := greatest (strict_L (gr := gr) ho) (S := fun _ => True) (d.map Lt.key) (by
  cases d with
  | nil => exact absurd rfl hd
  | cons a r => exact ⟨a.key, by simp, trivial⟩)
 obtain ⟨x, hx, rfl⟩ := List.mem_map.1 hw
 obtain ⟨i, hi⟩ := List.mem_iff_getElem?.1 hx
 exact ⟨i, x, hi, fun y hy h => hm y.key (List.mem_map.2 ⟨y, hy, rfl⟩) trivial ((litsF_one _ _).1 h)⟩
end
end Go.Proofs.YtajilkmepjhkdaaGreat.Am

/-
 An order of terms as data and as mathematics: by paths, or by weights. No condition.
-/
namespace Go.Proofs.YtajilkmepjhkdaaGreat.Am
open Go Go.Proofs
set_option linter.unusedSimpArgs false
set_option linter.unusedVariables false
structure Od where
 path : Bool
 g : Sg
def Od.enc (o : Od) : List D := .bool o.path :: o.g.enc
noncomputable def Od.cmp (o : Od) (s t : Term) : Int := if s.size ≤ 1048576 ∧ t.size ≤ 1048576 then (if o.path then o.g.lCmp s t else o.g.kCmp s t) else 2
theorem Od.cmp_small (o : Od) {s t : Term} (hs : s.size ≤ 1048576) (ht : t.size ≤ 1048576) : o.cmp s t = if o.path then o.g.lCmp s t else o.g.kCmp s t := if_pos ⟨hs, ht⟩
theorem Od.strict (o : Od) : Strict fun s t => o.cmp s t = 1 := by
 constructor
 ·intro a h
  unfold Od.cmp at h
  split at h
  ·rename_i hs
   split at h
   ·rcases lCmp_turn o.g a a with ⟨h1, _⟩ | ⟨_, h1⟩ <;> omega
   ·rcases kCmp_turn o.g a a hs.1 hs.1 with ⟨h1, _⟩ | ⟨_, h1⟩ <;> omega
  ·cases h
 ·intro a b c h1 h2
  unfold Od.cmp at h1 h2 ⊢
  by_cases hs : a.size ≤ 1048576 ∧ b.size ≤ 1048576
  ·by_cases ht : b.size ≤ 1048576 ∧ c.size ≤ 1048576
   ·rw [if_pos hs] at h1
    rw [if_pos ht] at h2
    rw [if_pos ⟨hs.1, ht.2⟩]
    cases hp : o.path <;> simp only [hp, if_true, Bool.false_eq_true, if_false] at h1 h2 ⊢
    ·exact kCmp_trans o.g a b c hs.1 hs.2 ht.2 h1 h2
    ·exact lCmp_trans o.g a b c h1 h2
   ·rw [if_neg ht] at h2; cases h2
  ·rw [if_neg hs] at h1; cases h1
end Go.Proofs.YtajilkmepjhkdaaGreat.Am


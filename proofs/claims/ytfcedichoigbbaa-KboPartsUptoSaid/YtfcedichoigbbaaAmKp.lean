/-
  The order of Knuth and Bendix as mathematics: what the program's function computes is it; through a third term; never both ways. No condition.
-/
import Derived.Test.YtfcedichoigbbaaAmKc
namespace Go.Proofs.Ytfcedichoigbbaa.Am
open Go Go.Proofs
set_option linter.unusedSimpArgs false
set_option linter.unusedVariables false

/-! ### Names -/
theorem bytes_loop (a : ByteArray) : ∀ (k i : Nat) (r : List UInt8), a.size - i = k → ByteArray.toList.loop a i r = r.reverse ++ a.data.toList.drop i := by
  intro k
  induction k with
  | zero =>
    intro i r h
    rw [ByteArray.toList.loop, if_neg (by omega)]
    have : a.data.toList.drop i = [] := List.drop_of_length_le (by have : a.data.toList.length = a.size := rfl; omega)
    simp [this]
  | succ k ih =>
    intro i r h
    have hi : i < a.size := by omega
    rw [ByteArray.toList.loop, if_pos hi, ih (i + 1) _ (by omega)]
    have hl : i < a.data.toList.length := hi
    rw [List.drop_eq_getElem_cons hl]
    simp only [List.reverse_cons, List.append_assoc, List.singleton_append]
    congr 2
    have hi2 : i < a.data.size := hi
    simp only [ByteArray.get!, Array.getElem_toList]
    exact getElem!_pos a.data i hi2
theorem bytes_toList (a : ByteArray) : a.toList = a.data.toList := by
  have := bytes_loop a a.size 0 [] rfl
  simpa [ByteArray.toList] using this
theorem bytes_ext {a b : ByteArray} (h : a.toList = b.toList) : a = b := by
  rw [bytes_toList, bytes_toList] at h
  cases a; cases b
  simp at h
  simp [h]
theorem bless_irrefl : ∀ (a : List UInt8), Op.bytesLess a a = false
  | [] => rfl
  | x :: r => by simp [Op.bytesLess, bless_irrefl r]
theorem bless_trans : ∀ (a b c : List UInt8), Op.bytesLess a b = true → Op.bytesLess b c = true → Op.bytesLess a c = true
  | [], [], _, h, _ => by simp [Op.bytesLess] at h
  | [], _ :: _, [], _, h => by simp [Op.bytesLess] at h
  | [], _ :: _, _ :: _, _, _ => by simp [Op.bytesLess]
  | _ :: _, [], _, h, _ => by simp [Op.bytesLess] at h
  | _ :: _, _ :: _, [], _, h => by simp [Op.bytesLess] at h
  | x :: r, y :: s, z :: t, h, k => by
    simp only [Op.bytesLess, Bool.or_eq_true, Bool.and_eq_true, decide_eq_true_eq, beq_iff_eq] at h k ⊢
    rcases h with h | ⟨rfl, h⟩ <;> rcases k with k | ⟨rfl, k⟩
    · exact .inl (UInt8.lt_trans h k)
    · exact .inl h
    · exact .inl k
    · exact .inr ⟨rfl, bless_trans r s t h k⟩
theorem bless_total : ∀ (a b : List UInt8), a ≠ b → Op.bytesLess a b = !Op.bytesLess b a
  | [], [], h => absurd rfl h
  | [], _ :: _, _ => rfl
  | _ :: _, [], _ => rfl
  | x :: r, y :: s, h => by
    by_cases hxy : x = y
    · subst hxy
      have := bless_total r s (fun e => h (by rw [e]))
      simp [Op.bytesLess, this]
    · have h1 : (y == x) = false := by simpa using fun e => hxy e.symm
      simp only [Op.bytesLess, beq_eq_false_iff_ne.2 hxy, h1, Bool.false_and, Bool.or_false]
      rcases UInt8.lt_or_lt_of_ne hxy with h | h
      · have := UInt8.lt_asymm h
        simp [h, this]
      · have := UInt8.lt_asymm h
        simp [h, this]
theorem bless_asymm {a b : List UInt8} (h : Op.bytesLess a b = true) : Op.bytesLess b a = false := by
  cases hb : Op.bytesLess b a with
  | false => rfl
  | true => have := bless_trans _ _ _ h hb; rw [bless_irrefl] at this; cases this
theorem gtS_eq (a b : ByteArray) : gtS a b = Op.bytesLess b.toList a.toList := by
  unfold gtS
  by_cases h : a.toList = b.toList
  · simp [h, bless_irrefl]
  · have := bless_total _ _ h
    simp [this, h]
theorem above_irrefl (g : Sg) (a : ByteArray) : g.above a a = false := by simp [Sg.above, gtS_eq, bless_irrefl]
theorem above_total (g : Sg) {a b : ByteArray} (h : a.toList ≠ b.toList) : g.above a b = !g.above b a := by
  unfold Sg.above
  rw [gtS_eq, gtS_eq]
  by_cases hr : g.rank a = g.rank b
  · rw [if_neg (by simpa using hr), if_neg (by simpa using hr.symm)]
    exact bless_total _ _ (Ne.symm h)
  · rw [if_pos hr, if_pos (Ne.symm hr)]
    by_cases h2 : g.rank a > g.rank b
    · have : ¬ g.rank b > g.rank a := by omega
      simp [h2, this]
    · have : g.rank b > g.rank a := by omega
      simp [h2, this]
theorem above_trans (g : Sg) {a b c : ByteArray} (h : g.above a b = true) (k : g.above b c = true) : g.above a c = true := by
  unfold Sg.above at *
  rw [gtS_eq] at *
  by_cases h1 : g.rank a = g.rank b <;> by_cases h2 : g.rank b = g.rank c
  · rw [if_neg (by simpa using h1)] at h
    rw [if_neg (by simpa using h2)] at k
    rw [if_neg (by simpa using h1.trans h2)]
    exact bless_trans _ _ _ k h
  · rw [if_pos h2] at k
    rw [if_pos (by rw [h1]; exact h2), h1]; exact k
  · rw [if_pos h1] at h
    rw [if_pos (by rw [← h2]; exact h1), ← h2]; exact h
  · rw [if_pos h1] at h
    rw [if_pos h2] at k
    simp at h k
    rw [if_pos (by omega)]
    simp; omega
theorem above_asymm (g : Sg) {a b : ByteArray} (h : g.above a b = true) : g.above b a = false := by
  cases hb : g.above b a with
  | false => rfl
  | true => have := above_trans g h hb; rw [above_irrefl] at this; cases this

/-! ### Terms: the same; how great; which variables; weights -/
theorem sameB_eq (t : Term) : ∀ u, (t.sameB u = true ↔ t = u) := by
  refine Term.ind (p := fun t => ∀ u, (t.sameB u = true ↔ t = u)) (fun v fn args ih u => ?_) t
  obtain ⟨v2, fn2, args2⟩ := u
  have hl : ∀ (a b : List Term), (∀ x ∈ a, ∀ u, (x.sameB u = true ↔ x = u)) → a.length = b.length → (sameBL a b = true ↔ a = b) := by
    intro a
    induction a with
    | nil => intro b _ h; cases b with | nil => simp [sameBL] | cons => simp at h
    | cons x r ih2 =>
      intro b h h2
      cases b with
      | nil => simp at h2
      | cons y s =>
        simp only [sameBL, Bool.and_eq_true, List.cons.injEq]
        rw [h x (by simp), ih2 s (fun z hz => h z (by simp [hz])) (by simpa using h2)]
  simp only [Term.sameB, Bool.and_eq_true, decide_eq_true_eq, beq_iff_eq, Term.mk.injEq]
  constructor
  · rintro ⟨⟨⟨h1, h2⟩, h3⟩, h4⟩
    exact ⟨h1, bytes_ext h2, (hl args args2 ih h3).1 h4⟩
  · rintro ⟨h1, h2, h3⟩
    exact ⟨⟨⟨h1, by rw [h2]⟩, by rw [h3]⟩, (hl args args2 ih (by rw [h3])).2 h3⟩
theorem sameB_ff {t u : Term} : t.sameB u = false ↔ t ≠ u := by
  rw [← Bool.not_eq_true, sameB_eq]
mutual
def Term.size : Term → Nat
  | .mk _ _ args => 1 + sizeL args
def sizeL : List Term → Nat
  | [] => 0
  | t :: r => t.size + sizeL r
end
mutual
def Term.occ : Term → List Int
  | .mk v fn args => (if fn.toList = [] then [v] else []) ++ occL args
def occL : List Term → List Int
  | [] => []
  | t :: r => t.occ ++ occL r
end
mutual
def Term.wt (g : Sg) : Term → Int
  | .mk _ fn args => g.of fn + wtL g args
def wtL (g : Sg) : List Term → Int
  | [] => 0
  | t :: r => t.wt g + wtL g r
end
theorem of_range (g : Sg) (s : ByteArray) : 1 ≤ g.of s ∧ g.of s ≤ 1000 := by
  unfold Sg.of
  simp only
  split
  · omega
  · split
    · omega
    · rename_i h; have := not_or.1 h; omega
theorem Term.size_pos (t : Term) : 0 < t.size := by cases t; simp [Term.size]; omega
theorem wt_range (g : Sg) (t : Term) : (t.size : Int) ≤ t.wt g ∧ t.wt g ≤ 1000 * t.size := by
  refine Term.ind (p := fun t => (t.size : Int) ≤ t.wt g ∧ t.wt g ≤ 1000 * t.size) (fun v fn args ih => ?_) t
  have hl : ∀ (a : List Term), (∀ x ∈ a, (x.size : Int) ≤ x.wt g ∧ x.wt g ≤ 1000 * x.size) → (sizeL a : Int) ≤ wtL g a ∧ wtL g a ≤ 1000 * sizeL a := by
    intro a
    induction a with
    | nil => intro _; simp [sizeL, wtL]
    | cons x r ih2 =>
      intro h
      have h1 := h x (by simp)
      have h2 := ih2 fun z hz => h z (by simp [hz])
      simp only [sizeL, wtL]; omega
  have h1 := hl args ih
  have h2 := of_range g fn
  simp only [Term.size, Term.wt]; omega
theorem wtL_range (g : Sg) : ∀ (a : List Term), (sizeL a : Int) ≤ wtL g a ∧ wtL g a ≤ 1000 * sizeL a
  | [] => by simp [sizeL, wtL]
  | x :: r => by
    have h1 := wt_range g x
    have h2 := wtL_range g r
    simp only [sizeL, wtL]; omega
theorem occ_len (t : Term) : t.occ.length ≤ t.size := by
  refine Term.ind (p := fun t => t.occ.length ≤ t.size) (fun v fn args ih => ?_) t
  have hl : ∀ (a : List Term), (∀ x ∈ a, x.occ.length ≤ x.size) → (occL a).length ≤ sizeL a := by
    intro a
    induction a with
    | nil => intro _; simp [sizeL, occL]
    | cons x r ih2 =>
      intro h
      have h1 := h x (by simp)
      have h2 := ih2 fun z hz => h z (by simp [hz])
      simp only [sizeL, occL, List.length_append]; omega
  have h1 := hl args ih
  simp only [Term.size, Term.occ, List.length_append]
  split <;> simp <;> omega
theorem sizeL_mem : ∀ {a : List Term} {x : Term}, x ∈ a → x.size ≤ sizeL a
  | t :: r, x, h => by
    rcases List.mem_cons.1 h with rfl | h
    · simp [sizeL]
    · have := sizeL_mem h; simp [sizeL]; omega

/-! ### What the program's function does to a map of counts -/
def look : List (Int × Int) → Int → Int
  | [], _ => 0
  | (u, n) :: r, x => if x = u then n else look r x
theorem bump_look (v k : Int) : ∀ (m : List (Int × Int)) (x : Int), look (bump m v k) x = if x = v then IntKind.i64.wrap (look m v + k) else look m x
  | [], x => by simp [bump, look]
  | (u, n) :: r, x => by
    by_cases h : v = u
    · subst h
      simp only [bump, if_pos, look]
      split <;> rfl
    · simp only [bump, if_neg h, look, bump_look v k r]
      by_cases h2 : x = v
      · subst h2; simp [h]
      · simp [h2]
theorem bump_keys (v k : Int) : ∀ (m : List (Int × Int)), ∀ x, x ∈ (bump m v k).map (·.1) ↔ x = v ∨ x ∈ m.map (·.1)
  | [], x => by simp [bump]
  | (u, n) :: r, x => by
    by_cases h : v = u
    · subst h; simp [bump]
    · simp only [bump, if_neg h, List.map_cons, List.mem_cons, bump_keys v k r]
      constructor
      · rintro (h | h | h)
        · exact .inr (.inl h)
        · exact .inl h
        · exact .inr (.inr h)
      · rintro (h | h | h)
        · exact .inr (.inl h)
        · exact .inl h
        · exact .inr (.inr h)
theorem bump_nodup (v k : Int) : ∀ (m : List (Int × Int)), (m.map (·.1)).Nodup → ((bump m v k).map (·.1)).Nodup
  | [], _ => by simp [bump]
  | (u, n) :: r, h => by
    by_cases h2 : v = u
    · subst h2; simpa [bump] using h
    · simp only [bump, if_neg h2, List.map_cons, List.nodup_cons] at h ⊢
      refine ⟨fun hm => ?_, bump_nodup v k r h.2⟩
      rcases (bump_keys v k r u).1 hm with e | e
      · exact h2 e.symm
      · exact h.1 e
theorem wrap_small {n : Int} (h : -4611686018427387904 ≤ n) (h2 : n ≤ 4611686018427387904) : IntKind.i64.wrap n = n := wrap_i64 (by omega) (by omega)
/-- The counts behind a call of load. -/
theorem loadW_ok (g : Sg) (k : Int) (hk : k = 1 ∨ k = -1) (t : Term) : ∀ m : List (Int × Int), (m.map (·.1)).Nodup → (t.size : Int) ≤ 1048576 → (∀ x, -4000000000 ≤ look m x - t.size ∧ look m x + t.size ≤ 4000000000) →
    (t.loadW g k m).1 = t.wt g ∧ ((t.loadW g k m).2.map (·.1)).Nodup ∧ ∀ x, look (t.loadW g k m).2 x = look m x + k * (t.occ.count x : Int) := by
  refine Term.ind (p := fun t => ∀ m : List (Int × Int), (m.map (·.1)).Nodup → (t.size : Int) ≤ 1048576 → (∀ x, -4000000000 ≤ look m x - t.size ∧ look m x + t.size ≤ 4000000000) →
    (t.loadW g k m).1 = t.wt g ∧ ((t.loadW g k m).2.map (·.1)).Nodup ∧ ∀ x, look (t.loadW g k m).2 x = look m x + k * (t.occ.count x : Int)) (fun v fn args ih m hm hs hb => ?_) t
  have hl : ∀ (a : List Term), (∀ x ∈ a, ∀ m : List (Int × Int), (m.map (·.1)).Nodup → (x.size : Int) ≤ 1048576 → (∀ z, -4000000000 ≤ look m z - x.size ∧ look m z + x.size ≤ 4000000000) →
    (x.loadW g k m).1 = x.wt g ∧ ((x.loadW g k m).2.map (·.1)).Nodup ∧ ∀ z, look (x.loadW g k m).2 z = look m z + k * (x.occ.count z : Int)) →
      ∀ (acc : Int) (m : List (Int × Int)), (m.map (·.1)).Nodup → (sizeL a : Int) ≤ 1048576 → 0 ≤ acc → acc + 1000 * sizeL a ≤ 4000000000 → (∀ z, -4000000000 ≤ look m z - sizeL a ∧ look m z + sizeL a ≤ 4000000000) →
      (loadWL g k acc m a).1 = acc + wtL g a ∧ ((loadWL g k acc m a).2.map (·.1)).Nodup ∧ ∀ z, look (loadWL g k acc m a).2 z = look m z + k * ((occL a).count z : Int) := by
    intro a
    induction a with
    | nil => intro _ acc m hm _ _ _ _; simp [loadWL, wtL, occL, hm]
    | cons x r ih2 =>
      intro h acc m hm hs h0 hacc hb
      simp only [sizeL] at hs hacc hb
      have hx := h x (by simp) m hm (by omega) (fun z => by have := hb z; omega)
      have hw := wt_range g x
      have hwr : IntKind.i64.wrap (acc + x.wt g) = acc + x.wt g := wrap_small (by omega) (by omega)
      have hr := ih2 (fun z hz => h z (by simp [hz])) (acc + x.wt g) (x.loadW g k m).2 hx.2.1 (by omega) (by omega) (by omega) (fun z => by
        have h1 := hx.2.2 z
        have h2 := hb z
        have h3 : x.occ.count z ≤ x.size := Nat.le_trans List.count_le_length (occ_len x)
        rcases hk with rfl | rfl <;> omega)
      simp only [loadWL, hx.1, hwr]
      refine ⟨by rw [hr.1]; simp only [wtL]; omega, hr.2.1, fun z => ?_⟩
      rw [hr.2.2 z, hx.2.2 z]
      simp only [occL, List.count_append]
      rcases hk with rfl | rfl <;> omega
  have ho := of_range g fn
  simp only [Term.size] at hs hb
  by_cases hv : fn.toList = []
  · have hbl : ∀ x, look (bump m v k) x = look m x + k * (([v] : List Int).count x : Int) := fun x => by
      rw [bump_look]
      by_cases hx : x = v
      · subst hx
        have := hb x
        simp only [if_true, List.count_singleton_self]
        rw [wrap_small (by rcases hk with rfl | rfl <;> omega) (by rcases hk with rfl | rfl <;> omega)]
        omega
      · have : ([v] : List Int).count x = 0 := List.count_eq_zero.2 (by simpa using hx)
        simp [hx, this]
    have hr := hl args ih (g.of fn) (bump m v k) (bump_nodup v k m hm) (by omega) (by omega) (by omega) (fun z => by
      have h1 := hbl z
      have h2 := hb z
      have h3 : ([v] : List Int).count z ≤ 1 := by simpa using List.count_le_length (a := z) (l := [v])
      rcases hk with rfl | rfl <;> omega)
    simp only [Term.loadW, if_pos hv, Term.wt, Term.occ, List.count_append]
    refine ⟨hr.1, hr.2.1, fun x => ?_⟩
    rw [hr.2.2 x, hbl x]
    rcases hk with rfl | rfl <;> omega
  · have hr := hl args ih (g.of fn) m hm (by omega) (by omega) (by omega) (fun z => by have := hb z; omega)
    simp only [Term.loadW, if_neg hv, Term.wt, Term.occ, List.nil_append]
    exact hr
theorem look_mem : ∀ {m : List (Int × Int)}, (m.map (·.1)).Nodup → ∀ q ∈ m, look m q.1 = q.2
  | (u, n) :: r, h, q, hq => by
    simp only [List.map_cons, List.nodup_cons] at h
    rcases List.mem_cons.1 hq with rfl | hq
    · simp [look]
    · have : q.1 ≠ u := fun e => h.1 (e ▸ List.mem_map.2 ⟨q, hq, rfl⟩)
      simp only [look, if_neg this]
      exact look_mem h.2 q hq
theorem look_ne : ∀ {m : List (Int × Int)} {x : Int}, look m x ≠ 0 → (x, look m x) ∈ m
  | [], x, h => absurd rfl h
  | (u, n) :: r, x, h => by
    by_cases hx : x = u
    · subst hx; simp [look]
    · simp only [look, if_neg hx] at h ⊢
      exact List.mem_cons.2 (.inr (look_ne h))
theorem any_look {m : List (Int × Int)} (h : (m.map (·.1)).Nodup) (p : Int → Bool) (h0 : p 0 = false) : m.any (fun q => p q.2) = true ↔ ∃ x, p (look m x) = true := by
  rw [List.any_eq_true]
  constructor
  · rintro ⟨q, hq, hp⟩
    exact ⟨q.1, by rw [look_mem h q hq]; exact hp⟩
  · rintro ⟨x, hx⟩
    exact ⟨_, look_ne (fun e => by rw [e, h0] at hx; cases hx), hx⟩

theorem shapeB_v' {v : Int} {fn : ByteArray} {args : List Term} (h : (Term.mk v fn args).shapeB = true) (hv : fn.toList ≠ []) : v = 0 := by
  have hn : noName fn = false := by simp [noName, hv]
  simp [Term.shapeB, rightB, hn] at h
  exact h.1.1.1
theorem shapeBL_mem' : ∀ {ts : List Term}, shapeBL ts = true → ∀ x ∈ ts, x.shapeB = true
  | [], _, x, hx => by simp at hx
  | t :: r, h, x, hx => by
    simp only [shapeBL, Bool.and_eq_true] at h
    rcases List.mem_cons.1 hx with e | hx
    · exact e ▸ h.1
    · exact shapeBL_mem' h.2 x hx
/-! ### The order -/
mutual
def kgt (g : Sg) : Term → Term → Prop
  | .mk v1 f1 a1, .mk v2 f2 a2 =>
    (∀ x, (Term.mk v2 f2 a2).occ.count x ≤ (Term.mk v1 f1 a1).occ.count x) ∧
    ((Term.mk v2 f2 a2).wt g < (Term.mk v1 f1 a1).wt g ∨ ((Term.mk v1 f1 a1).wt g = (Term.mk v2 f2 a2).wt g ∧ f1.toList ≠ [] ∧ f2.toList ≠ [] ∧
      ((f1.toList ≠ f2.toList ∧ g.above f1 f2 = true) ∨ (f1.toList = f2.toList ∧ (a2.length < a1.length ∨ (a1.length = a2.length ∧ kgtL g a1 a2))))))
def kgtL (g : Sg) : List Term → List Term → Prop
  | t :: r, u :: s => (t = u ∧ kgtL g r s) ∨ (t ≠ u ∧ kgt g t u)
  | _, _ => False
end
theorem kgtL_irrefl (g : Sg) : ∀ (a : List Term), ¬ kgtL g a a
  | [], h => by simp [kgtL] at h
  | x :: r, h => by
    simp only [kgtL] at h
    rcases h with ⟨_, h⟩ | ⟨h, _⟩
    · exact kgtL_irrefl g r h
    · exact h rfl
theorem kgt_irrefl (g : Sg) (t : Term) : ¬ kgt g t t := by
  refine Term.ind (p := fun t => ¬ kgt g t t) (fun v fn args ih => ?_) t
  simp only [kgt]
  rintro ⟨_, h | ⟨_, _, _, ⟨h, _⟩ | ⟨_, h | ⟨_, h⟩⟩⟩⟩
  · omega
  · exact h rfl
  · omega
  · exact kgtL_irrefl g args h
theorem kgtL_trans_of {g : Sg} : ∀ (a b c : List Term), (∀ x ∈ a, ∀ y z, kgt g x y → kgt g y z → kgt g x z) → kgtL g a b → kgtL g b c → kgtL g a c
  | [], _, _, _, h, _ => by simp [kgtL] at h
  | _ :: _, [], _, _, h, _ => by simp [kgtL] at h
  | _ :: _, _ :: _, [], _, _, h => by simp [kgtL] at h
  | x :: r, y :: s, z :: t, hx, h, k => by
    simp only [kgtL] at h k ⊢
    rcases h with ⟨rfl, h⟩ | ⟨hn, h⟩ <;> rcases k with ⟨rfl, k⟩ | ⟨kn, k⟩
    · exact .inl ⟨rfl, kgtL_trans_of r s t (fun w hw => hx w (by simp [hw])) h k⟩
    · exact .inr ⟨kn, k⟩
    · exact .inr ⟨hn, h⟩
    · have := hx x (by simp) y z h k
      exact .inr ⟨fun e => kgt_irrefl g x (by rw [← e] at this; exact this), this⟩
theorem kgt_trans (g : Sg) (t : Term) : ∀ u w, kgt g t u → kgt g u w → kgt g t w := by
  refine Term.ind (p := fun t => ∀ u w, kgt g t u → kgt g u w → kgt g t w) (fun v fn args ih u w h k => ?_) t
  obtain ⟨v2, f2, a2⟩ := u
  obtain ⟨v3, f3, a3⟩ := w
  simp only [kgt] at h k ⊢
  obtain ⟨h1, h2⟩ := h
  obtain ⟨k1, k2⟩ := k
  refine ⟨fun x => Nat.le_trans (k1 x) (h1 x), ?_⟩
  rcases h2 with h2 | ⟨hw, n1, n2, h2⟩ <;> rcases k2 with k2 | ⟨kw, n3, n4, k2⟩
  · exact .inl (Int.lt_trans k2 h2)
  · exact .inl (by omega)
  · exact .inl (by omega)
  · refine .inr ⟨by omega, n1, n4, ?_⟩
    rcases h2 with ⟨hf, hab⟩ | ⟨hf, h2⟩ <;> rcases k2 with ⟨kf, kab⟩ | ⟨kf, k2⟩
    · have hac := above_trans g hab kab
      exact .inl ⟨fun e => (by have := bytes_ext e; subst this; rw [above_irrefl] at hac; cases hac), hac⟩
    · have := bytes_ext kf; subst this
      exact .inl ⟨hf, hab⟩
    · have := bytes_ext hf; subst this
      exact .inl ⟨kf, kab⟩
    · refine .inr ⟨hf.trans kf, ?_⟩
      rcases h2 with h2 | ⟨hlen, h2⟩ <;> rcases k2 with k2 | ⟨klen, k2⟩
      · exact .inl (by omega)
      · exact .inl (by omega)
      · exact .inl (by omega)
      · exact .inr ⟨hlen.trans klen, kgtL_trans_of args a2 a3 ih h2 k2⟩
theorem kgt_asymm {g : Sg} {t u : Term} (h : kgt g t u) : ¬ kgt g u t := fun k => kgt_irrefl g t (kgt_trans g t u t h k)
theorem kgtL_asymm {g : Sg} {a b : List Term} (h : kgtL g a b) : ¬ kgtL g b a := fun k => by
  exact kgtL_irrefl g a (kgtL_trans_of a b a (fun x _ y z => kgt_trans g x y z) h k)

/-! ### The program's function computes it -/
open Classical in
theorem kcmp_spec (g : Sg) (t : Term) : ∀ u, t.shapeB = true → u.shapeB = true → (t.size : Int) ≤ 1048576 → (u.size : Int) ≤ 1048576 →
    t.kcmp g u = if t = u then 0 else if kgt g t u then 1 else if kgt g u t then -1 else 2 := by
  refine Term.ind (p := fun t => ∀ u, t.shapeB = true → u.shapeB = true → (t.size : Int) ≤ 1048576 → (u.size : Int) ≤ 1048576 →
    t.kcmp g u = if t = u then 0 else if kgt g t u then 1 else if kgt g u t then -1 else 2) (fun v fn args ih u ht hu hts hus => ?_) t
  obtain ⟨v2, f2, a2⟩ := u
  have hl : ∀ (a b : List Term), (∀ x ∈ a, x ∈ args) → (∀ x ∈ b, x ∈ a2) → a.length = b.length → a ≠ b → kcmpL g a b = if kgtL g a b then 1 else if kgtL g b a then -1 else 2 := by
    intro a
    induction a with
    | nil => intro b _ _ h h2; cases b with | nil => exact absurd rfl h2 | cons => simp at h
    | cons x r ih2 =>
      intro b ha hb h h2
      cases b with
      | nil => simp at h
      | cons y s =>
        by_cases hxy : x = y
        · subst hxy
          have := ih2 s (fun z hz => ha z (by simp [hz])) (fun z hz => hb z (by simp [hz])) (by simpa using h) (fun e => h2 (by rw [e]))
          simp only [kcmpL, if_pos ((sameB_eq x x).2 rfl), kgtL, this]
          simp
        · have hx := ha x (by simp)
          have hy := hb y (by simp)
          simp only [Term.shapeB, Bool.and_eq_true] at ht hu
          simp only [Term.size] at hts hus
          have h3 := sizeL_mem hx
          have h4 := sizeL_mem hy
          have hs : x.sameB y = false := sameB_ff.2 hxy
          have hyx : ¬ y = x := fun e => hxy e.symm
          have := ih x hx y (shapeBL_mem' ht.2 _ hx) (shapeBL_mem' hu.2 _ hy) (by omega) (by omega)
          simp only [kcmpL, hs, kgtL, this]
          simp [hxy, hyx]
  by_cases he : Term.mk v fn args = .mk v2 f2 a2
  · rw [if_pos he]
    simp only [Term.kcmp, if_pos ((sameB_eq _ _).2 he)]
  · rw [if_neg he]
    have hs : (Term.mk v fn args).sameB (.mk v2 f2 a2) = false := sameB_ff.2 he
    have h1 := loadW_ok g 1 (.inl rfl) (.mk v fn args) [] (by simp) hts (fun x => by simp [look]; omega)
    have h2 := loadW_ok g (-1) (.inr rfl) (.mk v2 f2 a2) ((Term.mk v fn args).loadW g 1 []).2 h1.2.1 hus (fun x => by
      have h3 := h1.2.2 x
      have h4 : (Term.mk v fn args).occ.count x ≤ (Term.mk v fn args).size := Nat.le_trans List.count_le_length (occ_len _)
      simp [look] at h3
      omega)
    have hlk : ∀ x, look (((Term.mk v2 f2 a2).loadW g (-1) ((Term.mk v fn args).loadW g 1 []).2).2) x = ((Term.mk v fn args).occ.count x : Int) - ((Term.mk v2 f2 a2).occ.count x : Int) := fun x => by
      rw [h2.2.2 x, h1.2.2 x]; simp [look]; omega
    have hmore := any_look h2.2.1 (fun n => decide (0 < n)) (by simp)
    have hless := any_look h2.2.1 (fun n => decide (n < 0)) (by simp)
    simp only [hlk, decide_eq_true_eq] at hmore hless
    have w1 := wt_range g (.mk v fn args)
    have w2 := wt_range g (.mk v2 f2 a2)
    have hd : IntKind.i64.wrap (((Term.mk v fn args).loadW g 1 []).1 - ((Term.mk v2 f2 a2).loadW g (-1) ((Term.mk v fn args).loadW g 1 []).2).1) = (Term.mk v fn args).wt g - (Term.mk v2 f2 a2).wt g := by
      rw [h1.1, h2.1]; exact wrap_small (by omega) (by omega)
    simp only [Term.kcmp, hs, hd]
    simp only [Bool.false_eq_true, if_false]
    have hmo : ((((Term.mk v2 f2 a2).loadW g (-1) ((Term.mk v fn args).loadW g 1 []).2).2.any fun q => decide (0 < q.2)) = true) ↔ ¬ ∀ x, (Term.mk v fn args).occ.count x ≤ (Term.mk v2 f2 a2).occ.count x := by
      rw [hmore, Classical.not_forall]
      exact exists_congr fun x => by omega
    have hle : ((((Term.mk v2 f2 a2).loadW g (-1) ((Term.mk v fn args).loadW g 1 []).2).2.any fun q => decide (q.2 < 0)) = true) ↔ ¬ ∀ x, (Term.mk v2 f2 a2).occ.count x ≤ (Term.mk v fn args).occ.count x := by
      rw [hless, Classical.not_forall]
      exact exists_congr fun x => by omega
    have hmo' := (Bool.eq_iff_iff.2 (hmo.trans (decide_eq_true_iff (p := ¬ ∀ x, (Term.mk v fn args).occ.count x ≤ (Term.mk v2 f2 a2).occ.count x)).symm))
    have hle' := (Bool.eq_iff_iff.2 (hle.trans (decide_eq_true_iff (p := ¬ ∀ x, (Term.mk v2 f2 a2).occ.count x ≤ (Term.mk v fn args).occ.count x)).symm))
    have hra : fn.toList ≠ [] → v = 0 := shapeB_v' ht
    have hrb : f2.toList ≠ [] → v2 = 0 := shapeB_v' hu
    have hl := hl args a2 (fun _ h => h) (fun _ h => h)
    clear hmo hle hmore hless hlk h1 h2 hd w1 w2
    rcases Classical.em (∀ x, (Term.mk v2 f2 a2).occ.count x ≤ (Term.mk v fn args).occ.count x) with hLE | hLE <;> rcases Classical.em (∀ x, (Term.mk v fn args).occ.count x ≤ (Term.mk v2 f2 a2).occ.count x) with hGE | hGE
    all_goals
      simp only [hLE, hGE, not_true_eq_false, not_false_eq_true, decide_true, decide_false] at hmo' hle'
      simp only [kgt, hmo', hle', hLE, hGE, true_and, false_and]
      rcases Int.lt_trichotomy ((Term.mk v fn args).wt g) ((Term.mk v2 f2 a2).wt g) with hw | hw | hw
      · have q1 : ¬ 0 < (Term.mk v fn args).wt g - (Term.mk v2 f2 a2).wt g := by omega
        have q2 : (Term.mk v fn args).wt g - (Term.mk v2 f2 a2).wt g < 0 := by omega
        have q3 : ¬ (Term.mk v2 f2 a2).wt g < (Term.mk v fn args).wt g := by omega
        have q4 : ¬ (Term.mk v fn args).wt g = (Term.mk v2 f2 a2).wt g := by omega
        have q5 : ¬ (Term.mk v2 f2 a2).wt g = (Term.mk v fn args).wt g := by omega
        simp [q1, q2, q3, q4, q5, hw]
      · simp only [hw, Int.sub_self, Int.lt_irrefl, if_false, false_or, true_and]
        by_cases n1 : fn.toList = []
        · simp [n1]
        by_cases n2 : f2.toList = []
        · simp [n1, n2]
        simp only [n1, n2, or_self, if_false, not_false_eq_true, true_and, ne_eq]
        by_cases hf : fn.toList = f2.toList
        · have hf' := hf.symm
          have := bytes_ext hf; subst this
          simp only [not_true, false_and, false_or, true_and, if_false, not_true_eq_false]
          rcases Nat.lt_trichotomy args.length a2.length with hlen | hlen | hlen
          · have b1 : ¬ args.length = a2.length := by omega
            have b2 : ¬ a2.length < args.length := by omega
            have b3 : ¬ a2.length = args.length := by omega
            simp [b1, b2, b3, hlen, sideI]
          · have hne : args ≠ a2 := fun e => he (by rw [e, hra n1, hrb n2])
            have hk := hl hlen hne
            rw [hk]
            have b1 : ¬ args.length < a2.length := by omega
            have b2 : ¬ a2.length < args.length := by omega
            simp only [hlen, Nat.lt_irrefl, false_or, true_and, not_true, if_false, not_true_eq_false]
            by_cases g1 : kgtL g args a2
            · have g2 := kgtL_asymm g1
              simp [g1, g2]
            · by_cases g2 : kgtL g a2 args
              · simp [g1, g2]
              · simp [g1, g2]
          · have b1 : ¬ args.length = a2.length := by omega
            have b2 : ¬ args.length < a2.length := by omega
            have b3 : ¬ a2.length = args.length := by omega
            simp [b1, b2, b3, hlen, sideI]
        · have hf' : ¬ f2.toList = fn.toList := fun e => hf e.symm
          have ht := above_total g hf
          cases hab : g.above f2 fn
          · rw [hab] at ht
            simp [hf, hf', hab, ht, sideI]
          · rw [hab] at ht
            simp [hf, hf', hab, ht, sideI]
      · have q1 : 0 < (Term.mk v fn args).wt g - (Term.mk v2 f2 a2).wt g := by omega
        have q3 : ¬ (Term.mk v fn args).wt g < (Term.mk v2 f2 a2).wt g := by omega
        have q4 : ¬ (Term.mk v fn args).wt g = (Term.mk v2 f2 a2).wt g := by omega
        have q5 : ¬ (Term.mk v2 f2 a2).wt g = (Term.mk v fn args).wt g := by omega
        simp [q1, q3, q4, q5, hw]
end Go.Proofs.Ytfcedichoigbbaa.Am

/-
  Terms as mathematics: sizes, depths, variables, substitutions, parts. No condition.
-/
import Derived.Test.YtiafeijkifpfaaaAmTerm
import Derived.Test.YtiafeijkifpfaaaAmBind
namespace Go.Proofs.Ytiafeijkifpfaaa.Am
open Go Go.Proofs
set_option linter.unusedSimpArgs false
set_option linter.unusedVariables false

theorem bytes_loop (a : ByteArray) : ∀ (k i : Nat) (r : List UInt8), a.size - i = k → ByteArray.toList.loop a i r = r.reverse ++ a.data.toList.drop i := by
  intro k
  induction k with
  | zero =>
    intro i r h
    rw [ByteArray.toList.loop, if_neg (by omega)]
    have : a.data.toList.drop i = [] := List.drop_of_length_le (by have : a.data.toList.length = a.size := rfl; omega)
    simp [this]
  | succ k ih =>
    intro i r h
    have hi : i < a.size := by omega
    rw [ByteArray.toList.loop, if_pos hi, ih (i + 1) _ (by omega)]
    have hl : i < a.data.toList.length := hi
    rw [List.drop_eq_getElem_cons hl]
    simp only [List.reverse_cons, List.append_assoc, List.singleton_append]
    congr 2
    have hi2 : i < a.data.size := hi
    simp only [ByteArray.get!, Array.getElem_toList]
    exact getElem!_pos a.data i hi2
theorem bytes_toList (a : ByteArray) : a.toList = a.data.toList := by
  have := bytes_loop a a.size 0 [] rfl
  simpa [ByteArray.toList] using this
theorem bytes_ext {a b : ByteArray} (h : a.toList = b.toList) : a = b := by
  rw [bytes_toList, bytes_toList] at h
  cases a; cases b
  simp at h
  simp [h]
theorem sameB_eq (t : Term) : ∀ u, (t.sameB u = true ↔ t = u) := by
  refine Term.ind (p := fun t => ∀ u, (t.sameB u = true ↔ t = u)) (fun v fn args ih u => ?_) t
  obtain ⟨v2, fn2, args2⟩ := u
  have hl : ∀ (a b : List Term), (∀ x ∈ a, ∀ u, (x.sameB u = true ↔ x = u)) → a.length = b.length → (sameBL a b = true ↔ a = b) := by
    intro a
    induction a with
    | nil => intro b _ h; cases b with | nil => simp [sameBL] | cons => simp at h
    | cons x r ih2 =>
      intro b h h2
      cases b with
      | nil => simp at h2
      | cons y s =>
        simp only [sameBL, Bool.and_eq_true, List.cons.injEq]
        rw [h x (by simp), ih2 s (fun z hz => h z (by simp [hz])) (by simpa using h2)]
  simp only [Term.sameB, Bool.and_eq_true, decide_eq_true_eq, beq_iff_eq, Term.mk.injEq]
  constructor
  · rintro ⟨⟨⟨h1, h2⟩, h3⟩, h4⟩
    exact ⟨h1, bytes_ext h2, (hl args args2 ih h3).1 h4⟩
  · rintro ⟨h1, h2, h3⟩
    exact ⟨⟨⟨h1, by rw [h2]⟩, by rw [h3]⟩, (hl args args2 ih (by rw [h3])).2 h3⟩
theorem sameB_ff {t u : Term} : t.sameB u = false ↔ t ≠ u := by
  rw [← Bool.not_eq_true, sameB_eq]
mutual
def Term.size : Term → Nat
  | .mk _ _ args => 1 + sizeL args
def sizeL : List Term → Nat
  | [] => 0
  | t :: r => t.size + sizeL r
end
mutual
def Term.occ : Term → List Int
  | .mk v fn args => (if fn.toList = [] then [v] else []) ++ occL args
def occL : List Term → List Int
  | [] => []
  | t :: r => t.occ ++ occL r
end
theorem Term.size_pos (t : Term) : 0 < t.size := by cases t; simp [Term.size]; omega
theorem occ_len (t : Term) : t.occ.length ≤ t.size := by
  refine Term.ind (p := fun t => t.occ.length ≤ t.size) (fun v fn args ih => ?_) t
  have hl : ∀ (a : List Term), (∀ x ∈ a, x.occ.length ≤ x.size) → (occL a).length ≤ sizeL a := by
    intro a
    induction a with
    | nil => intro _; simp [sizeL, occL]
    | cons x r ih2 =>
      intro h
      have h1 := h x (by simp)
      have h2 := ih2 fun z hz => h z (by simp [hz])
      simp only [sizeL, occL, List.length_append]; omega
  have h1 := hl args ih
  simp only [Term.size, Term.occ, List.length_append]
  split <;> simp <;> omega
theorem sizeL_mem : ∀ {a : List Term} {x : Term}, x ∈ a → x.size ≤ sizeL a
  | t :: r, x, h => by
    rcases List.mem_cons.1 h with rfl | h
    · simp [sizeL]
    · have := sizeL_mem h; simp [sizeL]; omega

theorem wrap_small {n : Int} (h : -4611686018427387904 ≤ n) (h2 : n ≤ 4611686018427387904) : IntKind.i64.wrap n = n := wrap_i64 (by omega) (by omega)
theorem shapeB_v' {v : Int} {fn : ByteArray} {args : List Term} (h : (Term.mk v fn args).shapeB = true) (hv : fn.toList ≠ []) : v = 0 := by
  have hn : noName fn = false := by simp [noName, hv]
  simp [Term.shapeB, rightB, hn] at h
  exact h.1.1.1
theorem shapeBL_mem' : ∀ {ts : List Term}, shapeBL ts = true → ∀ x ∈ ts, x.shapeB = true
  | [], _, x, hx => by simp at hx
  | t :: r, h, x, hx => by
    simp only [shapeBL, Bool.and_eq_true] at h
    rcases List.mem_cons.1 hx with e | hx
    · exact e ▸ h.1
    · exact shapeBL_mem' h.2 x hx
mutual
def Term.depth : Term → Nat
  | .mk _ _ args => depthL args + 1
def depthL : List Term → Nat
  | [] => 0
  | t :: r => max t.depth (depthL r)
end
theorem depth_size (t : Term) : t.depth ≤ t.size := by
  refine Term.ind (p := fun t => t.depth ≤ t.size) (fun v fn args ih => ?_) t
  have hl : ∀ (a : List Term), (∀ x ∈ a, x.depth ≤ x.size) → depthL a ≤ sizeL a := by
    intro a
    induction a with
    | nil => intro _; simp [depthL, sizeL]
    | cons x r ih2 =>
      intro h
      have h1 := h x (by simp)
      have h2 := ih2 fun z hz => h z (by simp [hz])
      simp only [depthL, sizeL]; omega
  have := hl args ih
  simp only [Term.depth, Term.size]; omega
theorem sizeW_eq (t : Term) : (t.size : Int) ≤ 4611686018427387904 → t.sizeW = t.size := by
  refine Term.ind (p := fun t => (t.size : Int) ≤ 4611686018427387904 → t.sizeW = t.size) (fun v fn args ih hs => ?_) t
  have hl : ∀ (a : List Term), (∀ x ∈ a, (x.size : Int) ≤ 4611686018427387904 → x.sizeW = x.size) → ∀ acc : Int, 0 ≤ acc → acc + sizeL a ≤ 4611686018427387904 → sizeWL acc a = acc + sizeL a := by
    intro a
    induction a with
    | nil => intro _ acc _ _; simp [sizeWL, sizeL]
    | cons x r ih2 =>
      intro h acc h0 h1
      simp only [sizeL] at h1
      have hx := h x (by simp) (by omega)
      simp only [sizeWL, hx, sizeL]
      rw [wrap_small (by omega) (by omega), ih2 (fun z hz => h z (by simp [hz])) _ (by omega) (by omega)]
      omega
  simp only [Term.size] at hs
  have := hl args ih 1 (by omega) (by omega)
  simp only [Term.sizeW, Term.size, this]; omega
theorem depthW_eq (t : Term) : (t.size : Int) ≤ 4611686018427387904 → t.depthW = t.depth := by
  refine Term.ind (p := fun t => (t.size : Int) ≤ 4611686018427387904 → t.depthW = t.depth) (fun v fn args ih hs => ?_) t
  have hl : ∀ (a : List Term), (∀ x ∈ a, (x.size : Int) ≤ 4611686018427387904 → x.depthW = x.depth) → (sizeL a : Int) ≤ 4611686018427387904 → ∀ acc : Nat, depthWL acc a = (max acc (depthL a) : Nat) := by
    intro a
    induction a with
    | nil => intro _ _ acc; simp [depthWL, depthL]
    | cons x r ih2 =>
      intro h h1 acc
      simp only [sizeL] at h1
      have hx := h x (by simp) (by omega)
      simp only [depthWL, hx, depthL]
      by_cases hm : (x.depth : Int) > acc
      · rw [if_pos hm, ih2 (fun z hz => h z (by simp [hz])) (by omega)]
        congr 1; omega
      · rw [if_neg hm, ih2 (fun z hz => h z (by simp [hz])) (by omega)]
        congr 1; omega
  simp only [Term.size] at hs
  have h1 := hl args ih (by omega) 0
  have h2 : depthL args + 1 ≤ 1 + sizeL args := depth_size (.mk v fn args)
  simp only [Term.depthW, Term.depth]
  rw [show (0 : Int) = ((0 : Nat) : Int) from rfl, h1, Nat.zero_max, wrap_small (by omega) (by omega)]
  omega
/-- Which terms are right. -/
theorem rightE_iff (t : Term) (h : (t.size : Int) ≤ 4611686018427387904) : t.rightE = 0 ↔ t.shapeB = true ∧ t.depth ≤ 60 ∧ t.size ≤ 4000 := by
  unfold Term.rightE
  rw [sizeW_eq t h, depthW_eq t h]
  by_cases hs : t.shapeB = true
  · rw [if_pos hs]
    by_cases hd : (t.depth : Int) > 60
    · rw [if_pos hd]; simp; omega
    · rw [if_neg hd]
      by_cases hz : (t.size : Int) > 4000
      · rw [if_pos hz]; simp; omega
      · rw [if_neg hz]; simp [hs]; omega
  · rw [if_neg hs]; simp [hs]

def ofS (s : List Bd) (v : Int) : Term := match s.find? (fun b => decide (b.v = v)) with | some b => b.t | none => .mk v (ByteArray.mk #[]) []
mutual
def Term.putS (s : List Bd) : Term → Term
  | .mk v fn args => if fn.toList = [] then ofS s v else .mk 0 fn (putSL s args)
def putSL (s : List Bd) : List Term → List Term
  | [] => []
  | t :: r => t.putS s :: putSL s r
end
theorem putSL_len (s : List Bd) : ∀ (a : List Term), (putSL s a).length = a.length
  | [] => rfl
  | t :: r => by simp [putSL, putSL_len s r]
/-- The shape of a variable: nothing hangs on it. -/
theorem shape_var {v : Int} {fn : ByteArray} {args : List Term} (h : (Term.mk v fn args).shapeB = true) (hv : fn.toList = []) : args = [] := by
  have hn : noName fn = true := by simp [noName, hv]
  simp [Term.shapeB, rightB, hn] at h
  exact h.1.2
theorem putS_size (s : List Bd) (B : Nat) (hB : 1 ≤ B) (hs : ∀ b ∈ s, b.t.size ≤ B) (t : Term) : (t.putS s).size ≤ t.size * B := by
  refine Term.ind (p := fun t => (t.putS s).size ≤ t.size * B) (fun v fn args ih => ?_) t
  have hl : ∀ (a : List Term), (∀ x ∈ a, (x.putS s).size ≤ x.size * B) → sizeL (putSL s a) ≤ sizeL a * B := by
    intro a
    induction a with
    | nil => intro _; simp [putSL, sizeL]
    | cons x r ih2 =>
      intro h
      have h1 := h x (by simp)
      have h2 := ih2 fun z hz => h z (by simp [hz])
      simp only [putSL, sizeL, Nat.add_mul]; omega
  have h1 := hl args ih
  by_cases hv : fn.toList = []
  · simp only [Term.putS, if_pos hv, Term.size, Nat.add_mul, Nat.one_mul]
    have : (ofS s v).size ≤ B := by
      unfold ofS
      cases hf : s.find? (fun b => decide (b.v = v)) with
      | none => simpa [Term.size, sizeL] using hB
      | some b => exact hs b (List.mem_of_find?_eq_some hf)
    omega
  · simp only [Term.putS, if_neg hv, Term.size, Nat.add_mul, Nat.one_mul]; omega

def Term.at : Term → List Int → Option Term
  | t, [] => some t
  | .mk _ _ args, k :: p => if k < 0 then none else match args[k.toNat]? with
    | some x => x.at p
    | none => none
def Term.putAt : Term → List Int → Term → Option Term
  | _, [], s => some s
  | .mk _ fn args, k :: p, s => if k < 0 then none else match args[k.toNat]? with
    | some x => (x.putAt p s).map fun y => .mk 0 fn (args.set k.toNat y)
    | none => none
theorem depthL_mem : ∀ {a : List Term} {x : Term}, x ∈ a → x.depth ≤ depthL a
  | t :: r, x, h => by
    rcases List.mem_cons.1 h with rfl | h
    · simp only [depthL]; omega
    · have := depthL_mem h; simp only [depthL]; omega
/-- A part of a right term is a right term, not greater. -/
theorem at_right : ∀ (p : List Int) (t x : Term), t.at p = some x → t.shapeB = true → x.shapeB = true ∧ x.depth ≤ t.depth ∧ x.size ≤ t.size
  | [], t, x, h, hs => by
    have : t = x := by cases t; simpa [Term.at] using h
    subst this; exact ⟨hs, Nat.le_refl _, Nat.le_refl _⟩
  | k :: p, .mk v fn args, x, h, hs => by
    simp only [Term.at] at h
    split at h
    · cases h
    · cases hg : args[k.toNat]? with
      | none => rw [hg] at h; cases h
      | some y =>
        rw [hg] at h
        have hm := List.mem_of_getElem? hg
        simp only [Term.shapeB, Bool.and_eq_true] at hs
        have := at_right p y x h (shapeBL_mem' hs.2 y hm)
        have h1 := sizeL_mem hm
        have h2 := depthL_mem hm
        simp only [Term.size, Term.depth]
        exact ⟨this.1, by omega, by omega⟩
theorem set_size : ∀ (a : List Term) (i : Nat) (y : Term), sizeL (a.set i y) ≤ sizeL a + y.size
  | [], i, y => by simp [sizeL]
  | t :: r, 0, y => by simp only [List.set_cons_zero, sizeL]; omega
  | t :: r, i + 1, y => by have := set_size r i y; simp only [List.set_cons_succ, sizeL]; omega
theorem putAt_size (s : Term) : ∀ (p : List Int) (t u : Term), t.putAt p s = some u → u.size ≤ t.size * (p.length + 1) + s.size
  | [], t, u, hu => by
    have h2 : s = u := by cases t; simpa [Term.putAt] using hu
    subst h2; omega
  | i :: p, .mk v fn args, u, hu => by
    simp only [Term.putAt] at hu
    split at hu
    · cases hu
    · cases hg : args[i.toNat]? with
      | none => rw [hg] at hu; cases hu
      | some y =>
        rw [hg] at hu
        simp only [Option.map_eq_some_iff] at hu
        obtain ⟨w, hw, rfl⟩ := hu
        have h1 := putAt_size s p y w hw
        have h2 := sizeL_mem (List.mem_of_getElem? hg)
        have h3 := set_size args i.toNat w
        have h4 : y.size * (p.length + 1) ≤ sizeL args * (p.length + 1) := Nat.mul_le_mul_right _ h2
        simp only [Term.size, List.length_cons, Nat.add_mul, Nat.mul_add, Nat.one_mul, Nat.mul_one] at h4 h1 ⊢
        omega

end Go.Proofs.Ytiafeijkifpfaaa.Am

/-
  Maps of counts; weights. No condition.
-/
import Derived.Test.YtfcedichoigbbaaAmG
namespace Go.Proofs.Ytfcedichoigbbaa.Am
open Go

/-- A map from numbers to numbers, as it stands after insertions: the stamp is the place. -/
def encMi (i : Nat) : List (Int × Int) → List (D × AV × Nat)
  | [] => []
  | (u, n) :: r => (.int .i64 u, .d (.int .i64 n), i) :: encMi (i + 1) r
@[simp] theorem encMi_len : ∀ (i : Nat) (m : List (Int × Int)), (encMi i m).length = m.length
  | _, [] => rfl
  | i, _ :: r => by simp [encMi, encMi_len]
def encM (m : List (Int × Int)) : Am.Obj := .mp (false, [.int .i64]) (encMi 0 m) m.length
def bump : List (Int × Int) → Int → Int → List (Int × Int)
  | [], v, k => [(v, IntKind.i64.wrap (0 + k))]
  | (u, n) :: r, v, k => if v = u then (v, IntKind.i64.wrap (n + k)) :: r else (u, n) :: bump r v k
/-- What is found at a key, what is stored there. -/
theorem bump_spec (v k : Int) : ∀ (m : List (Int × Int)) (i : Nat),
    (∃ j n, findK (.int .i64 v) (encMi i m) i = some (i + j, .d (.int .i64 n), i + j) ∧ stampAt ((i + j : Nat) : Int) (encMi i m) i = some (i + j, .int .i64 v) ∧ (encMi i m).set j (.int .i64 v, .d (.int .i64 (IntKind.i64.wrap (n + k))), i + j) = encMi i (bump m v k) ∧ (bump m v k).length = m.length) ∨
    (findK (.int .i64 v) (encMi i m) i = none ∧ (∀ z, stampAt ((i + m.length : Nat) : Int) (encMi i m ++ [(.int .i64 v, z, i + m.length)]) i = some (i + m.length, .int .i64 v)) ∧
      (∀ z, (encMi i m ++ [((D.int .i64 v), z, i + m.length)]).set m.length (.int .i64 v, .d (.int .i64 (IntKind.i64.wrap (0 + k))), i + m.length) = encMi i (bump m v k)) ∧ (bump m v k).length = m.length + 1)
  | [], i => .inr ⟨rfl, fun z => by simp [encMi, stampAt], fun z => by simp [encMi, bump], rfl⟩
  | (u, n) :: r, i => by
    by_cases h : v = u
    · subst h
      exact .inl ⟨0, n, by simp [encMi, findK, eqD, eq1], by simp [encMi, stampAt], by simp [encMi, bump], by simp [bump]⟩
    · have h2 : ¬ (((i : Int)) = ((i + 1 + r.length : Nat) : Int)) := by omega
      rcases bump_spec v k r (i + 1) with ⟨j, n', h1, h3, h4, h5⟩ | ⟨h1, h3, h4, h5⟩
      · refine .inl ⟨j + 1, n', ?_, ?_, ?_, ?_⟩
        · have he : ¬ eqD (D.int .i64 v) (D.int .i64 u) = true := by simpa [eqD, eq1] using h
          simp only [encMi, findK, if_neg he, h1]
          simp; omega
        · simp only [encMi, stampAt]
          rw [if_neg (by omega)]
          rw [show i + (j + 1) = i + 1 + j by omega]
          exact h3
        · simp only [encMi, List.set_cons_succ, bump, if_neg h]
          rw [show i + (j + 1) = i + 1 + j by omega, h4]
        · simp [bump, if_neg h, h5]
      · refine .inr ⟨?_, fun z => ?_, fun z => ?_, ?_⟩
        · have he : ¬ eqD (D.int .i64 v) (D.int .i64 u) = true := by simpa [eqD, eq1] using h
          simp only [encMi, findK, if_neg he, h1]
        · simp only [encMi, List.cons_append, stampAt, List.length_cons]
          rw [if_neg (by omega)]
          rw [show i + (r.length + 1) = i + 1 + r.length by omega]
          exact h3 z
        · simp only [encMi, List.cons_append, List.length_cons, List.set_cons_succ, bump, if_neg h]
          rw [show i + (r.length + 1) = i + 1 + r.length by omega, h4]
        · simp [bump, if_neg h, h5]

/-! ### What the program computes of a term: its weight, and the counts of its variables -/
mutual
def Term.loadW (g : Sg) (k : Int) : Term → List (Int × Int) → Int × List (Int × Int)
  | .mk v fn args, m => loadWL g k (g.of fn) (if fn.toList = [] then bump m v k else m) args
def loadWL (g : Sg) (k : Int) (acc : Int) (m : List (Int × Int)) : List Term → Int × List (Int × Int)
  | [] => (acc, m)
  | t :: r => loadWL g k (IntKind.i64.wrap (acc + (t.loadW g k m).1)) (t.loadW g k m).2 r
end
end Go.Proofs.Ytfcedichoigbbaa.Am

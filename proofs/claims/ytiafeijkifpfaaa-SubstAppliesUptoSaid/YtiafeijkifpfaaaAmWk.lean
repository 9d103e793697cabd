/-
  Data of which less is known: terms, binds, names, numbers are that already. No condition.
-/
import Derived.Test.YtiafeijkifpfaaaAmG
import Derived.Test.YtiafeijkifpfaaaAmBind
namespace Go.Proofs.Ytiafeijkifpfaaa.Am
open Go Go.Proofs
set_option linter.unusedSimpArgs false

@[simp] theorem wkL_encL : ∀ (ts : List Term), wkL (encL ts) = encL ts
  | [] => rfl
  | .mk v fn args :: r => by simp [encL, Term.enc, wkL_encL args, wkL_encL r]
@[simp] theorem wkL_encS (l : List ByteArray) : wkL (encS l) = encS l := by induction l <;> simp_all [encS]
@[simp] theorem wkL_encI (l : List Int) : wkL (encI l) = encI l := by induction l <;> simp_all [encI]
@[simp] theorem wkL_encB : ∀ (bs : List Bd), wkL (encB bs) = encB bs
  | [] => rfl
  | ⟨x, .mk v fn args⟩ :: r => by
    have := wkL_encB r
    simp [encB] at this
    simp [encB, Bd.enc, Term.enc, this]
theorem mapD_encT (H : Hp) (n : Nat) : ∀ (l : List D), mapD (reify H n) (l.map .d) = some (l, [])
  | [] => rfl
  | x :: r => by
    have h := mapD_encT H n r
    rw [List.map_cons, mapD, h]
    cases n <;> simp [reify]
end Go.Proofs.Ytiafeijkifpfaaa.Am

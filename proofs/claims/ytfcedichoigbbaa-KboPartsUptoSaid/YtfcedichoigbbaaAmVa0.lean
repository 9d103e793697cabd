/-
  Rows that grow: appending. No condition.
-/
import Derived.Test.YtfcedichoigbbaaAmGw
import Derived.Test.YtfcedichoigbbaaAmT
namespace Go.Proofs.Ytfcedichoigbbaa.Am
open Go Go.Proofs
set_option maxHeartbeats 4000000
set_option linter.unusedSimpArgs false

/-- A row of numbers that grows. -/
def rowI (l : List Int) : Am.Obj := if l = [] then .vnil else .grow ((encI l).map .d)
theorem rowI_isRow (l : List Int) : (rowI l).isRow = true := by unfold rowI; split <;> rfl
theorem rowI_len (l : List Int) : (rowI l).cs.length = l.length := by unfold rowI; split <;> simp [Obj.cs, *]
theorem rowI_nil : rowI [] = .vnil := rfl
theorem growO_rowI (H : Hp) (o : Oid) (l : List Int) (n : Int) :
    growO H o (rowI l) 0 l.length 1 l.length 1 1 [.int .i64 n] = some (.osl o 0 (l.length + 1) 1 (l.length + 1), upd H o (rowI (l ++ [n]))) := by
  unfold rowI
  cases l with
  | nil => simp [growO, encI]
  | cons x r =>
    have h : ¬ (r.length + 1 ≤ r.length) := by omega
    simp [growO, encI, h]
    rw [List.take_of_length_le (by simp)]
theorem append_rowI {H : Hp} {id : Nat} {o o2 : Oid} {l : List Int} {x : Int} (h : H o = some (rowI l)) (h2 : H o2 = some (.cells [.d (.int .i64 x)])) (hl : l.length ≤ 68719476735) :
    appendO Try.prog H id 23 23 (.osl o 0 l.length 1 l.length) (.osl o2 0 1 1 1) = some (.osl o 0 (l.length + 1) 1 (l.length + 1), upd H o (rowI (l ++ [x]))) := by
  have h3 : l.length ≤ 68719476736 := by omega
  have h4 : ([D.int .i64 x] : List D).length ≤ 68719476736 := by simp
  simp [appendO, srcCells, srcRaw, h, h2, rowI_isRow, rowI_len, growO_rowI, h3, kill, -Obj.isRow, -Obj.cs]
  simp [Obj.isRow, Obj.cs]
  exact growO_rowI H o l x
theorem mapD_encI (H : Hp) (n : Nat) : ∀ (l : List Int), mapD (reify H n) ((encI l).map .d) = some (encI l, [])
  | [] => rfl
  | x :: r => by
    have h := mapD_encI H n r
    simp only [encI, List.map_cons] at h ⊢
    rw [mapD, h]
    cases n <;> simp [reify]
theorem mapD_encI2 (H : Hp) (n : Nat) (l : List Int) : mapD (reify H n) (List.map (AV.d ∘ D.int .i64) l) = some (encI l, []) := by
  have := mapD_encI H n l
  simpa [encI] using this
theorem reify_rowI {H : Hp} {o : Oid} {l : List Int} (h : H o = some (rowI l)) (n : Nat) : (reify H (n + 1) (.osl o 0 l.length 1 l.length)).map (·.1) = some (.sl (encI l) l.length false (some (decide (l = [])))) := by
  cases l with
  | nil => simp [reify, h, rowI, Obj.isRow, Obj.cs, nlOf, mapD, encI]
  | cons x r =>
    have := mapD_encI2 H n r
    have hx : reify H n (.d (.int .i64 x)) = some (.int .i64 x, []) := by cases n <;> rfl
    simp [reify, h, rowI, Obj.isRow, Obj.cs, nlOf, mapD, encI, this, hx]
    rw [List.take_of_length_le (by simp), this]
    simp [encI]
end Go.Proofs.Ytfcedichoigbbaa.Am

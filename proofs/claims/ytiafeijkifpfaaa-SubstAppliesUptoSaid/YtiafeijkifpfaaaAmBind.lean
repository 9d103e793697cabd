/-
  Binds as data of the abstract machine; substitutions. No condition.
-/
import Derived.Test.YtiafeijkifpfaaaAmTerm
namespace Go.Proofs.Ytiafeijkifpfaaa.Am
open Go

structure Bd where
  v : Int
  t : Term
def Bd.enc (b : Bd) : List D := .int .i64 b.v :: b.t.enc
def encB (bs : List Bd) : List D := bs.flatMap Bd.enc
theorem Bd.enc_len (b : Bd) : b.enc.length = 4 := by simp [Bd.enc, Term.enc_len]
theorem encB_len : ∀ (bs : List Bd), (encB bs).length = bs.length * 4
  | [] => rfl
  | b :: r => by have := encB_len r; simp [encB, Bd.enc_len] at this ⊢; omega
theorem encB_at : ∀ (bs : List Bd) (i : Nat) (b : Bd), bs[i]? = some b → ((encB bs).drop (i * 4)).take 4 = b.enc
  | [], i, b, h => by simp at h
  | u :: r, 0, b, h => by
    simp at h; subst h
    have := u.enc_len
    simp [encB, this]
  | u :: r, i + 1, b, h => by
    have := u.enc_len
    have e := encB_at r i b (by simpa using h)
    simp only [encB, List.flatMap_cons] at e ⊢
    rw [show (i + 1) * 4 = u.enc.length + i * 4 by omega, List.drop_append, List.drop_of_length_le (by omega), List.nil_append, show u.enc.length + i * 4 - u.enc.length = i * 4 by omega]
    exact e
def okB (bs : List Bd) : Prop := bs.length ≤ 9223372036854775807 ∧ ∀ b ∈ bs, b.t.ok

/-- What a loop over binds needs at a place. -/
structure AtB (bs : List Bd) (i : Nat) (x v : Int) (fn : ByteArray) (args : List Term) : Prop where
  lt : i < bs.length
  mem : (⟨x, .mk v fn args⟩ : Bd) ∈ bs
  sz : (encB bs).length = bs.length * 4
  cells : ((encB bs).drop (i * 4)).take 4 = [.int .i64 x, .int .i64 v, .str fn, .sl (encL args) args.length false none]
  c0 : (encB bs)[i * 4]? = some (.int .i64 x)
  c1 : ((encB bs).drop (i * 4 + 1)).take 3 = [.int .i64 v, .str fn, .sl (encL args) args.length false none]
  c10 : (encB bs)[i * 4 + 1]? = some (.int .i64 v)
  c11 : (encB bs)[i * 4 + 2]? = some (.str fn)
  e0 : ∀ h : i * 4 < (encB bs).length, (encB bs)[i * 4]'h = .int .i64 x
  e10 : ∀ h : i * 4 + 1 < (encB bs).length, (encB bs)[i * 4 + 1]'h = .int .i64 v
  e11 : ∀ h : i * 4 + 2 < (encB bs).length, (encB bs)[i * 4 + 2]'h = .str fn
  lti : (i : Int) < (bs.length : Int)
  ltm : i * 4 < bs.length * 4
  le4 : 4 ≤ bs.length * 4 - i * 4
  le1 : 1 ≤ bs.length * 4 - i * 4
  le3 : 3 ≤ bs.length * 4 - (i * 4 + 1)
  le2 : 2 ≤ bs.length * 4 - (i * 4 + 1)
  le11 : 1 ≤ bs.length * 4 - (i * 4 + 1)
  dr : bs.drop i = ⟨x, .mk v fn args⟩ :: bs.drop (i + 1)
  w : IntKind.i64.wrap ((i : Int) + 1) = (i : Int) + 1
  w0 : IntKind.i64.wrap (i : Int) = (i : Int)
theorem atB_ok {bs : List Bd} (h : bs.length ≤ 9223372036854775807) {i : Nat} (hil : i < bs.length) : ∃ x v fn args, AtB bs i x v fn args := by
  obtain ⟨b, hb⟩ : ∃ b, bs[i]? = some b := ⟨bs[i], by simp [hil]⟩
  obtain ⟨x, t⟩ := b
  obtain ⟨v, fn, args⟩ := t
  have hc := encB_at bs i _ hb
  simp only [Bd.enc, Term.enc] at hc
  have hg : ∀ j, j < 4 → (encB bs)[i * 4 + j]? = ([.int .i64 x, .int .i64 v, .str fn, .sl (encL args) args.length false none] : List D)[j]? := fun j hj => by
    rw [← hc, List.getElem?_take, if_pos hj, List.getElem?_drop]
  refine ⟨x, v, fn, args, hil, List.mem_of_getElem? hb, encB_len bs, hc, by simpa using hg 0 (by omega), ?_, by simpa using hg 1 (by omega), by simpa using hg 2 (by omega), fun h => by simpa [h] using hg 0 (by omega), fun h => by simpa [h] using hg 1 (by omega), fun h => by simpa [h] using hg 2 (by omega), by omega, by omega, by omega, by omega, by omega, by omega, by omega, ?_, wrap_i64 (by omega) (by omega), wrap_i64 (by omega) (by omega)⟩
  · have := congrArg (List.drop 1) hc
    rw [List.drop_take, List.drop_drop] at this
    simpa [Nat.add_comm] using this
  · rw [List.drop_eq_getElem_cons hil]
    congr 1
    rw [List.getElem?_eq_getElem hil] at hb
    exact Option.some.inj hb

/-! ### Which are substitutions -/
/-- Is a bind the variable itself? -/
def Bd.own : Bd → Bool
  | ⟨x, .mk v fn _⟩ => noName fn && decide (v = x)
def Bd.badB (n : Nat) (last : Int) (b : Bd) : Bool := decide (b.v ≤ last) || decide (1000000 ≤ b.v) || b.own || decide (b.t.rightE ≠ 0) || decide ((4000 : Int) < (n : Int))
def subOk (n : Nat) : Int → List Bd → Bool
  | _, [] => true
  | last, b :: r => !b.badB n last && subOk n b.v r
def prevB (x : Int) : Option Int → Bool
  | some p => decide (x ≤ p)
  | none => false
def Bd.badR (prev : Option Int) (b : Bd) : Bool :=
  decide (b.v < 0) || decide (1000000 ≤ b.v) || prevB b.v prev || decide (b.t.rightE ≠ 0) || b.own
def isOk : Option Int → List Bd → Bool
  | _, [] => true
  | prev, b :: r => !b.badR prev && isOk (some b.v) r
def isB (bs : List Bd) : Bool := decide ((bs.length : Int) ≤ 4000) && isOk none bs
def pairB (a b : Bd) : Bool := decide (a.v = b.v) && a.t.sameB b.t
def allB (p : Bd → Bd → Bool) : List Bd → List Bd → Bool
  | t :: r, u :: s => p t u && allB p r s
  | _, _ => true
theorem isOk_sub (n : Nat) (hn : ¬ (4000 : Int) < (n : Int)) : ∀ (l : List Bd) (prev : Option Int) (last : Int), (prev = none ∧ last = -1 ∨ prev = some last ∧ 0 ≤ last) → isOk prev l = subOk n last l := by
  intro l
  induction l with
  | nil => intro prev last _; rfl
  | cons b r ih =>
    intro prev last hp
    simp only [isOk, subOk]
    have hb : b.badR prev = b.badB n last := by
      rcases hp with ⟨rfl, rfl⟩ | ⟨rfl, h0⟩
      · simp only [Bd.badR, Bd.badB, prevB, hn, decide_false, Bool.or_false]
        have : decide (b.v < 0) = decide (b.v ≤ -1) := by congr 1; simp; omega
        rw [this]
        cases b.own <;> simp
      · simp only [Bd.badR, Bd.badB, prevB, hn, decide_false, Bool.or_false]
        by_cases h1 : b.v ≤ last
        · simp [h1]
        · have : ¬ b.v < 0 := by omega
          simp only [h1, this, decide_false, Bool.false_or, Bool.or_false]
          cases b.own <;> simp
    rw [hb]
    cases hq : b.badB n last with
    | true => simp
    | false =>
      rw [ih (some b.v) b.v (.inr ⟨rfl, by
        simp only [Bd.badB, Bool.or_eq_false_iff, decide_eq_false_iff_not] at hq
        rcases hp with ⟨_, rfl⟩ | ⟨_, h0⟩ <;> omega⟩)]
theorem isB_sub (bs : List Bd) : isB bs = subOk bs.length (-1) bs := by
  unfold isB
  by_cases h : (bs.length : Int) ≤ 4000
  · rw [isOk_sub bs.length (by omega) bs none (-1) (.inl ⟨rfl, rfl⟩)]
    simp [h]
  · cases bs with
    | nil => simp at h
    | cons b r =>
      have h2 : (4000 : Int) < ((b :: r).length : Int) := by omega
      have e1 : decide (((b :: r).length : Int) ≤ 4000) = false := decide_eq_false h
      have e2 : decide ((4000 : Int) < ((b :: r).length : Int)) = true := decide_eq_true h2
      simp only [subOk, Bd.badB, e1, e2, Bool.or_true, Bool.not_true, Bool.false_and]

end Go.Proofs.Ytiafeijkifpfaaa.Am

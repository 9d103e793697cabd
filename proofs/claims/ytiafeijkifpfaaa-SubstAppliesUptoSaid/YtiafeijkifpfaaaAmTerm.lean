/-
  Terms as data of the abstract machine. No condition.
-/
import Derived.Test.YtiafeijkifpfaaaAmS
namespace Go.Proofs.Ytiafeijkifpfaaa.Am
open Go

inductive Term where
  | mk (v : Int) (fn : ByteArray) (args : List Term)
mutual
def Term.enc : Term → List D
  | .mk v fn args => [.int .i64 v, .str fn, .sl (encL args) args.length false none]
def encL : List Term → List D
  | [] => []
  | t :: r => t.enc ++ encL r
end
theorem Term.enc_len (t : Term) : t.enc.length = 3 := by cases t; rfl
theorem encL_len : ∀ (ts : List Term), (encL ts).length = ts.length * 3
  | [] => rfl
  | t :: r => by simp [encL, Term.enc_len, encL_len r]; omega
theorem encL_at : ∀ (ts : List Term) (i : Nat) (t : Term), ts[i]? = some t → ((encL ts).drop (i * 3)).take 3 = t.enc
  | [], i, t, h => by simp at h
  | u :: r, 0, t, h => by
    simp at h; subst h
    have := u.enc_len
    simp [encL, this]
  | u :: r, i + 1, t, h => by
    have := u.enc_len
    have e := encL_at r i t (by simpa using h)
    simp only [encL]
    rw [show (i + 1) * 3 = u.enc.length + i * 3 by omega, List.drop_append, List.drop_of_length_le (by omega), List.nil_append, show u.enc.length + i * 3 - u.enc.length = i * 3 by omega]
    exact e
mutual
def Term.ok : Term → Prop
  | .mk _ _ args => args.length ≤ 9223372036854775807 ∧ okL args
def okL : List Term → Prop
  | [] => True
  | t :: r => t.ok ∧ okL r
end
theorem okL_mem : ∀ {ts : List Term}, okL ts → ∀ x ∈ ts, x.ok
  | [], _, x, hx => by simp at hx
  | t :: r, h, x, hx => by
    rcases List.mem_cons.1 hx with e | hx
    · exact e ▸ h.1
    · exact okL_mem h.2 x hx
/-- Induction over terms. -/
theorem Term.ind {p : Term → Prop} (h : ∀ v fn args, (∀ x ∈ args, p x) → p (.mk v fn args)) (t : Term) : p t :=
  Term.rec (motive_1 := p) (motive_2 := fun l => ∀ x ∈ l, p x) h (fun x hx => by simp at hx) (fun t r ht hr x hx => by
    rcases List.mem_cons.1 hx with e | hx
    · exact e ▸ ht
    · exact hr x hx) t

/-- What a loop over terms needs at a place. -/
structure At (ts : List Term) (i : Nat) (v : Int) (fn : ByteArray) (args : List Term) : Prop where
  lt : i < ts.length
  mem : Term.mk v fn args ∈ ts
  sz : (encL ts).length = ts.length * 3
  cells : ((encL ts).drop (i * 3)).take 3 = [.int .i64 v, .str fn, .sl (encL args) args.length false none]
  lti : (i : Int) < (ts.length : Int)
  ltm : i * 3 < ts.length * 3
  le3 : 3 ≤ ts.length * 3 - i * 3
  dr : ts.drop i = .mk v fn args :: ts.drop (i + 1)
  w : IntKind.i64.wrap ((i : Int) + 1) = (i : Int) + 1
  get : ts[i] = .mk v fn args
theorem at_ok {ts : List Term} (h : ts.length ≤ 9223372036854775807) {i : Nat} (hil : i < ts.length) : ∃ v fn args, At ts i v fn args := by
  obtain ⟨t, ht⟩ : ∃ t, ts[i]? = some t := ⟨ts[i], by simp [hil]⟩
  obtain ⟨v, fn, args⟩ := t
  refine ⟨v, fn, args, hil, List.mem_of_getElem? ht, encL_len ts, encL_at ts i _ ht, by omega, by omega, by omega, ?_, wrap_i64 (by omega) (by omega), by rw [List.getElem?_eq_getElem hil] at ht; exact Option.some.inj ht⟩
  rw [List.drop_eq_getElem_cons hil]
  congr 1
  rw [List.getElem?_eq_getElem hil] at ht
  exact Option.some.inj ht

/-! ### What both programs compute -/
mutual
def Term.sizeW : Term → Int
  | .mk _ _ args => sizeWL 1 args
def sizeWL (acc : Int) : List Term → Int
  | [] => acc
  | t :: r => sizeWL (IntKind.i64.wrap (acc + t.sizeW)) r
end
mutual
def Term.depthW : Term → Int
  | .mk _ _ args => IntKind.i64.wrap (depthWL 0 args + 1)
def depthWL (acc : Int) : List Term → Int
  | [] => acc
  | t :: r => depthWL (if t.depthW > acc then t.depthW else acc) r
end
/-- Is it no name? -/
def noName (fn : ByteArray) : Bool := fn.toList.isEmpty
def rightB (v : Int) (fn : ByteArray) (n : Nat) : Bool :=
  if noName fn then decide (0 ≤ v) && decide (v < 1000000) && decide (n = 0) else decide (v = 0) && decide ((fn.size : Int) ≤ 64) && decide ((n : Int) ≤ 16)
mutual
def Term.shapeB : Term → Bool
  | .mk v fn args => rightB v fn args.length && shapeBL args
def shapeBL : List Term → Bool
  | [] => true
  | t :: r => t.shapeB && shapeBL r
end
/-- All pairs. -/
def all2 (p : Term → Term → Bool) : List Term → List Term → Bool
  | t :: r, u :: s => p t u && all2 p r s
  | _, _ => true
mutual
def Term.sameB : Term → Term → Bool
  | .mk v fn args, .mk v2 fn2 args2 => decide (v = v2) && (fn.toList == fn2.toList) && decide (args.length = args2.length) && sameBL args args2
def sameBL : List Term → List Term → Bool
  | t :: r, u :: s => t.sameB u && sameBL r s
  | _, _ => true
end
def Term.rightE (t : Term) : Int :=
  if t.shapeB then (if t.depthW > 60 then 22 else if t.sizeW > 4000 then 3 else 0) else 1

theorem sameBL_all2 : ∀ (ts us : List Term), sameBL ts us = all2 Term.sameB ts us
  | t :: r, u :: s => by simp [sameBL, all2, sameBL_all2 r s]
  | [], _ => by simp [sameBL, all2]
  | _ :: _, [] => by simp [sameBL, all2]

end Go.Proofs.Ytiafeijkifpfaaa.Am

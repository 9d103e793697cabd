/-
  Signatures as data: names and weights; names' places, which signatures are right, which name is above. No condition.
-/
import Derived.Test.YtiafeijkifpfaaaAmTerm
namespace Go.Proofs.Ytiafeijkifpfaaa.Am
open Go

structure Sg where
  names : List ByteArray
  weights : List Int
def encS (ns : List ByteArray) : List D := ns.map .str
def encI (ws : List Int) : List D := ws.map (.int .i64)
@[simp] theorem encS_len (ns : List ByteArray) : (encS ns).length = ns.length := by simp [encS]
@[simp] theorem encI_len (ns : List Int) : (encI ns).length = ns.length := by simp [encI]
@[simp] theorem encS_get (ns : List ByteArray) (i : Nat) (h : i < (encS ns).length) : (encS ns)[i] = .str (ns[i]'(by simpa using h)) := by simp [encS]
@[simp] theorem encI_get (ns : List Int) (i : Nat) (h : i < (encI ns).length) : (encI ns)[i] = .int .i64 (ns[i]'(by simpa using h)) := by simp [encI]
def Sg.enc (g : Sg) : List D := [.sl (encS g.names) g.names.length false none, .sl (encI g.weights) g.weights.length false none]
def Sg.ok (g : Sg) : Prop := g.names.length ≤ 9223372036854775807 ∧ g.weights.length ≤ 9223372036854775807

def eqS (a b : ByteArray) : Bool := a.toList == b.toList
/-- A name's place. -/
def idxS (ns : List ByteArray) (s : ByteArray) : Int := match ns.findIdx? (fun n => eqS n s) with | some k => k | none => -1
def dollarTrue : List UInt8 := [36, 116, 114, 117, 101]
def badN (ns : List ByteArray) (i : Nat) (n : ByteArray) : Bool := n.toList.isEmpty || decide (64 < (n.size : Int)) || (n.toList == dollarTrue) || decide (idxS ns n ≠ (i : Int))
def badW (w : Int) : Bool := decide (w < 1) || decide (1000 < w)
/-- Is there one, with its place, from a place on? -/
def anyI {α : Type} (p : Nat → α → Bool) (l : List α) (i : Nat) : Bool := (l.drop i).zipIdx i |>.any fun q => p q.2 q.1
theorem anyI_end {α : Type} (p : Nat → α → Bool) (l : List α) : anyI p l l.length = false := by simp [anyI]
theorem anyI_step {α : Type} {p : Nat → α → Bool} {l : List α} {i : Nat} (h : i < l.length) : anyI p l i = (p i l[i] || anyI p l (i + 1)) := by
  unfold anyI
  rw [List.drop_eq_getElem_cons h, List.zipIdx_cons, List.any_cons]
def Sg.right (g : Sg) : Bool :=
  !(decide (200 < (g.names.length : Int)) || decide (g.names.length < g.weights.length) || anyI (badN g.names) g.names 0 || anyI (fun _ => badW) g.weights 0)
/-- A name's rank, and which name is above. -/
def Sg.rank (g : Sg) (s : ByteArray) : Int := if s.toList = dollarTrue then -2 else idxS g.names s
def gtS (a b : ByteArray) : Bool := !(Op.bytesLess a.toList b.toList || a.toList == b.toList)
def Sg.above (g : Sg) (a b : ByteArray) : Bool := if g.rank a ≠ g.rank b then decide (g.rank a > g.rank b) else gtS a b
def Sg.aboveR (g : Sg) (a b : ByteArray) : Bool :=
  if a.toList = b.toList ∨ a.toList = dollarTrue then false else if b.toList = dollarTrue then true
  else if idxS g.names a < 0 ∧ idxS g.names b < 0 then gtS a b else decide (idxS g.names a > idxS g.names b)
/-- A name's weight. -/
def Sg.of (g : Sg) (s : ByteArray) : Int :=
  let i := idxS g.names s
  if s.toList = [] ∨ i < 0 ∨ (g.weights.length : Int) ≤ i then 1 else
  let w := g.weights.getD i.toNat 0
  if w < 1 ∨ 1000 < w then 1 else w
theorem idxS_lt {ns : List ByteArray} {s : ByteArray} : idxS ns s = -1 ∨ ∃ k : Nat, idxS ns s = k ∧ k < ns.length := by
  unfold idxS
  cases h : ns.findIdx? (fun n => eqS n s) with
  | none => exact .inl rfl
  | some k =>
    rw [List.findIdx?_eq_some_iff_getElem] at h
    exact .inr ⟨k, rfl, h.1⟩
end Go.Proofs.Ytiafeijkifpfaaa.Am

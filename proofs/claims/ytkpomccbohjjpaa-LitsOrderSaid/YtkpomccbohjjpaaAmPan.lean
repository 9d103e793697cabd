/-
  Joined texts: AmX2, AmPol, AmX3, AmCq, AmNa. No condition.
-/
import Derived.Test.YtkpomccbohjjpaaAmPam
import Derived.Test.YtkpomccbohjjpaaProg
import Derived.WalkKit
import Derived.ProofKit
/-
 A call that is known by another policy is a call of the machine. No condition.
-/
namespace Go.Proofs.Ytkpomccbohjjpaa.Am
open Go Go.Proofs
set_option linter.unusedSimpArgs false
set_option linter.unusedVariables false
theorem row_orders : Try.prog.follows .mixedOrders = true := by kernel_rfl
theorem mapD_all (H : Hp) (n : Nat) : ∀ (l : List D), mapD (reify H n) (l.map .d) = some (l, [])
 | [] => rfl
 | x :: r => by
  have h := mapD_all H n r
  rw [List.map_cons, mapD, h]
  cases n <;> simp [reify]
theorem sim_of_pcl {pol : Pol} (hp : PolOk Try.prog pol) {f : FuncId} {ds : List D} {x : D} (hne : f ≠ yieldF) (hraw : pol.raw f = false) (hweak : pol.weak f = false) (h : pcl (acall Try.prog pol) f ds = some x) {C : Cx} {args : Array Value} (hI : Inv C) {nx : Nat} (hlt : ∀ o, C.U o → o.1 < nx)
  (hv : args.size = ds.length ∧ ∀ j d, ds[j]? = some d → RepD C.F C.w d (args.getD j undef)) :
  Enters Try.prog f ∧ Calls Try.prog f args C.w fun e w' => ∃ v C', e = .returned v ∧ w' = C'.w ∧ CallPost C nx (.d x) C.H nx v C' := by
 refine callA_sim (pol := pol) (acall_sim row_orders hp) hne (vs := ds.map .d) ?_ hI hlt ⟨by simp [hv.1], fun j y hy => ?_⟩
 ·unfold callA reifyAll
  rw [mapD_all, hraw, hweak]
  simp [h, kill_nil']
 ·simp only [List.getElem?_map, Option.map_eq_some_iff] at hy
  obtain ⟨d, hd, rfl⟩ := hy
  exact .d _ _ (hv.2 j d hd)
end Go.Proofs.Ytkpomccbohjjpaa.Am

/-
 Which functions of this seat lose what is known of nil: the document's Right; what is known from elsewhere: the chapter's examples. No condition.
-/
namespace Go.Proofs.Ytkpomccbohjjpaa.Am
open Go Go.Proofs
def aliveX : CallF' := fun vs H nx => match vs with
 | [] => some (.d (.bool true), H, nx)
 | _ => none
def plc : Pol := { raw := fun _ => false, weak := fun f => f == 7, ext := fun f => if f == 8 then some aliveX else none }
theorem plc_raw (f : FuncId) : plc.raw f = false := rfl
@[simp] theorem plc_weak (f : FuncId) : plc.weak f = (f == 7) := rfl
@[simp] theorem plc_deep (f : FuncId) : plc.deep f = 6 := rfl
theorem plc_ext (f : FuncId) : plc.ext f = if f == 8 then some aliveX else none := rfl
noncomputable abbrev Cp := acall Try.prog plc
end Go.Proofs.Ytkpomccbohjjpaa.Am

/-
 The chapter's examples hold: the machine runs them. No condition.
-/
namespace Go.Proofs.Ytkpomccbohjjpaa.Am
open Go Go.Proofs
set_option maxHeartbeats 4000000
set_option linter.unusedSimpArgs false
set_option linter.unusedVariables false
def pol0 : Pol := { raw := fun f => f == 58 || f == 60 || f == 84 || f == 101 || f == 63 || f == 64 || f == 74, weak := fun f => f == 10 }
theorem pol0_ok : PolOk Try.prog pol0 := ⟨fun f g h => (by cases h), fun c g h => (by cases h)⟩
theorem alive_pol0 : pcl (acall Try.prog pol0) 8 [] = some (.bool true) :=
 pcl_mono (fun f vs H nx r h => (acall_some Try.prog pol0).2 ⟨60, h⟩) (show pcl (oracles Try.prog pol0 60).1 8 [] = some (.bool true) by kernel_rfl)
theorem aliveX_sim : SimF Try.prog 8 aliveX := by
 intro vs H nx r H' nx' h
 match vs, h with
 | [], h =>
  simp [aliveX] at h
  obtain ⟨rfl, rfl, rfl⟩ := h
  refine ⟨⟨Try.f8, Try.func8, by kernel_rfl, by kernel_rfl⟩, fun C args hI hH hlt hv => ?_⟩
  have := sim_of_pcl pol0_ok (by decide) (by rfl) (by rfl) alive_pol0 hI hlt (args := args) ⟨by simpa using hv.1, fun j d hd => by simp at hd⟩
  refine this.2.mono ?_
  rintro e w' ⟨v', C', rfl, rfl, hp⟩
  exact ⟨v', C', rfl, rfl, ⟨hp.H.trans hH, hp.inv, hp.ext, hp.rep, hp.le, hp.lt, hp.use⟩⟩
theorem row_pol : PolOk Try.prog plc := by
 refine ⟨fun f g h => ?_, fun c g h => (by cases h)⟩
 by_cases h2 : f = 8
 ·subst h2
  have : g = aliveX := (Option.some.inj h).symm
  subst this
  exact aliveX_sim
 ·have : plc.ext f = none := by rw [plc_ext]; simp [h2]
  rw [this] at h; cases h
end Go.Proofs.Ytkpomccbohjjpaa.Am

/-
 The order of terms as mathematics. No condition.
-/
namespace Go.Proofs.Ytkpomccbohjjpaa.Am
open Go Go.Proofs
set_option linter.unusedSimpArgs false
set_option linter.unusedVariables false
def cmpI (a b : Int) : Int := if a < b then -1 else if b < a then 1 else 0
def cmpS (a b : List UInt8) : Int := if Op.bytesLess a b then -1 else if a = b then 0 else 1
mutual
def Term.cmp : Term → Term → Int
 | .mk v fn args, .mk v2 fn2 args2 =>
  if fn.toList = [] ∧ fn2.toList = [] then cmpI v v2
  else if fn.toList = fn2.toList then (if args.length = args2.length then cmpL args args2 else cmpI args.length args2.length)
  else cmpS fn.toList fn2.toList
def cmpL : List Term → List Term → Int
 | t :: r, u :: s => if t.cmp u = 0 then cmpL r s else t.cmp u
 | _, _ => 0
end
theorem less_irrefl : ∀ a : List UInt8, Op.bytesLess a a = false
 | [] => rfl
 | x :: r => by simp [Op.bytesLess, less_irrefl r]
theorem less_trans : ∀ a b c : List UInt8, Op.bytesLess a b = true → Op.bytesLess b c = true → Op.bytesLess a c = true
 | _, [], _, h, _ => by simp [Op.bytesLess] at h
 | _, _ :: _, [], _, h => by simp [Op.bytesLess] at h
 | [], _ :: _, _ :: _, _, _ => by simp [Op.bytesLess]
 | x :: a, y :: b, z :: c, h, k => by
  simp only [Op.bytesLess, Bool.or_eq_true, Bool.and_eq_true, decide_eq_true_eq, beq_iff_eq] at h k ⊢
  rcases h with h | ⟨rfl, h⟩
  ·rcases k with k | ⟨rfl, k⟩
   ·exact .inl (UInt8.lt_trans h k)
   ·exact .inl h
  ·rcases k with k | ⟨rfl, k⟩
   ·exact .inl k
   ·exact .inr ⟨rfl, less_trans a b c h k⟩
theorem less_total : ∀ a b : List UInt8, Op.bytesLess a b = false → a ≠ b → Op.bytesLess b a = true
 | [], [], _, h => absurd rfl h
 | _ :: _, [], _, _ => by simp [Op.bytesLess]
 | [], _ :: _, h, _ => by simp [Op.bytesLess] at h
 | x :: a, y :: b, h, k => by
  simp only [Op.bytesLess, Bool.or_eq_false_iff, Bool.and_eq_false_iff, decide_eq_false_iff_not, beq_eq_false_iff_ne] at h
  simp only [Op.bytesLess, Bool.or_eq_true, Bool.and_eq_true, decide_eq_true_eq, beq_iff_eq]
  by_cases hxy : x = y
  ·subst hxy
   exact .inr ⟨rfl, less_total a b (h.2.resolve_left fun q => q rfl) fun e => k (by rw [e])⟩
  ·have h1 := h.1
   rw [UInt8.not_lt] at h1
   exact .inl (UInt8.lt_of_le_of_ne h1 (Ne.symm hxy))
theorem less_asymm {a b : List UInt8} (h : Op.bytesLess a b = true) : Op.bytesLess b a = false := by
 cases k : Op.bytesLess b a with
 | false => rfl
 | true => have := less_trans a b a h k; rw [less_irrefl] at this; cases this
theorem cmpS_neg (a b : List UInt8) : cmpS a b = - cmpS b a := by
 unfold cmpS
 by_cases e : a = b
 ·subst e; simp [less_irrefl]
 ·cases h : Op.bytesLess a b with
  | true => simp [less_asymm h, Ne.symm e]
  | false => simp [less_total a b h e, e]
theorem cmpS_zero {a b : List UInt8} : cmpS a b = 0 ↔ a = b := by
 unfold cmpS
 by_cases e : a = b
 ·subst e; simp [less_irrefl]
 ·simp only [e, if_false, iff_false]
  split <;> simp
theorem cmpS_neg1 {a b : List UInt8} (h : a ≠ b) : cmpS a b ≤ 0 ↔ Op.bytesLess a b = true := by
 unfold cmpS
 rw [if_neg h]
 split <;> simp_all
theorem cmpI_neg (a b : Int) : cmpI a b = - cmpI b a := by
 unfold cmpI
 repeat' split
 all_goals omega
theorem cmpI_zero {a b : Int} : cmpI a b = 0 ↔ a = b := by
 unfold cmpI
 split
 ·constructor
  ·intro h; cases h
  ·intro h; omega
 ·split
  ·constructor
   ·intro h; cases h
   ·intro h; omega
  ·constructor
   ·intro _; omega
   ·intro _; rfl
theorem cmpI_le {a b : Int} : cmpI a b ≤ 0 ↔ a ≤ b := by
 unfold cmpI
 split
 ·constructor
  ·intro _; omega
  ·intro _; decide
 ·split
  ·constructor
   ·intro h; exact absurd h (by decide)
   ·intro h; omega
  ·constructor
   ·intro _; omega
   ·intro _; decide
theorem cmpL_neg : ∀ (ts us : List Term), (∀ x ∈ ts, ∀ u, x.cmp u = - u.cmp x) → cmpL ts us = - cmpL us ts
 | [], [], _ => by simp [cmpL]
 | [], _ :: _, _ => by simp [cmpL]
 | _ :: _, [], _ => by simp [cmpL]
 | t :: r, u :: s, h => by
  simp only [cmpL]
  rw [h t (by simp) u, cmpL_neg r s fun x hx => h x (by simp [hx])]
  by_cases e : u.cmp t = 0
  ·simp [e]
  ·rw [if_neg (by omega), if_neg e]
theorem cmp_neg (t : Term) : ∀ u : Term, t.cmp u = - u.cmp t := by
 refine Term.ind (p := fun t => ∀ u : Term, t.cmp u = - u.cmp t) (fun v fn args ih u => ?_) t
 obtain ⟨v2, fn2, args2⟩ := u
 simp only [Term.cmp]
 by_cases h1 : fn.toList = [] ∧ fn2.toList = []
 ·rw [if_pos h1, if_pos (And.symm h1)]; exact cmpI_neg _ _
 ·rw [if_neg h1, if_neg (show ¬(fn2.toList = [] ∧ fn.toList = []) from fun h => h1 (And.symm h))]
  by_cases h2 : fn.toList = fn2.toList
  ·rw [if_pos h2, if_pos (Eq.symm h2)]
   by_cases h3 : args.length = args2.length
   ·rw [if_pos h3, if_pos h3.symm]; exact cmpL_neg args args2 ih
   ·rw [if_neg h3, if_neg (Ne.symm h3)]; exact cmpI_neg _ _
  ·rw [if_neg h2, if_neg (Ne.symm h2)]; exact cmpS_neg _ _
theorem cmpL_zero : ∀ (ts us : List Term), (∀ x ∈ ts, x.shapeB = true → ∀ u : Term, u.shapeB = true → (x.cmp u = 0 ↔ x = u)) → shapeBL ts = true → shapeBL us = true → ts.length = us.length → (cmpL ts us = 0 ↔ ts = us)
 | [], [], _, _, _, _ => by simp [cmpL]
 | [], _ :: _, _, _, _, h => by simp at h
 | _ :: _, [], _, _, _, h => by simp at h
 | t :: r, u :: s, h, h1, h2, h3 => by
  simp only [shapeBL, Bool.and_eq_true] at h1 h2
  have ht := h t (by simp) h1.1 u h2.1
  have hr := cmpL_zero r s (fun x hx => h x (by simp [hx])) h1.2 h2.2 (by simpa using h3)
  simp only [cmpL, List.cons.injEq]
  by_cases e : t.cmp u = 0
  ·rw [if_pos e, hr]; simp [ht.1 e]
  ·rw [if_neg e]
   constructor
   ·intro q; exact absurd q e
   ·rintro ⟨q, _⟩; exact absurd (ht.2 q) e
theorem cmp_zero (t : Term) : t.shapeB = true → ∀ u : Term, u.shapeB = true → (t.cmp u = 0 ↔ t = u) := by
 refine Term.ind (p := fun t => t.shapeB = true → ∀ u : Term, u.shapeB = true → (t.cmp u = 0 ↔ t = u)) (fun v fn args ih hs u hu => ?_) t
 obtain ⟨v2, fn2, args2⟩ := u
 have hsa : shapeBL args = true := by simp only [Term.shapeB, Bool.and_eq_true] at hs; exact hs.2
 have hua : shapeBL args2 = true := by simp only [Term.shapeB, Bool.and_eq_true] at hu; exact hu.2
 simp only [Term.cmp]
 by_cases h1 : fn.toList = [] ∧ fn2.toList = []
 ·rw [if_pos h1, cmpI_zero]
  have e1 := shape_var hs h1.1
  have e2 := shape_var hu h1.2
  have e3 : fn = fn2 := bytes_ext (by rw [h1.1, h1.2])
  subst e1; subst e2; subst e3
  simp
 ·rw [if_neg h1]
  by_cases h2 : fn.toList = fn2.toList
  ·have e3 : fn = fn2 := bytes_ext h2
   subst e3
   have hne : fn.toList ≠ [] := fun e => h1 ⟨e, e⟩
   have e1 := shapeB_v' hs hne
   have e2 := shapeB_v' hu hne
   subst e1; subst e2
   rw [if_pos rfl]
   by_cases h3 : args.length = args2.length
   ·rw [if_pos h3, cmpL_zero args args2 ih hsa hua h3]; simp
   ·rw [if_neg h3, cmpI_zero]
    constructor
    ·intro q; exact absurd (by omega) h3
    ·intro q; simp only [Term.mk.injEq, true_and] at q; exact absurd (by rw [q]) h3
  ·rw [if_neg h2, cmpS_zero]
   constructor
   ·intro q; exact absurd q h2
   ·intro q; simp only [Term.mk.injEq] at q; exact absurd (by rw [q.2.1]) h2
theorem cmpL_le : ∀ (ts us ws : List Term), (∀ x ∈ ts, x.shapeB = true → ∀ u : Term, u.shapeB = true → ∀ w : Term, w.shapeB = true → x.cmp u ≤ 0 → u.cmp w ≤ 0 → x.cmp w ≤ 0) → shapeBL ts = true → shapeBL us = true → shapeBL ws = true → ts.length = us.length → us.length = ws.length → cmpL ts us ≤ 0 → cmpL us ws ≤ 0 → cmpL ts ws ≤ 0
 | [], _, _, _, _, _, _, _, _, _, _ => by simp [cmpL]
 | _ :: _, [], _, _, _, _, _, h, _, _, _ => by simp at h
 | _ :: _, _ :: _, [], _, _, _, _, _, h, _, _ => by simp at h
 | x :: r, y :: s, z :: q, h, h1, h2, h3, l1, l2, c1, c2 => by
  simp only [shapeBL, Bool.and_eq_true] at h1 h2 h3
  simp only [cmpL] at c1 c2 ⊢
  have hr := cmpL_le r s q (fun x hx => h x (by simp [hx])) h1.2 h2.2 h3.2 (by simpa using l1) (by simpa using l2)
  have hx := h x (by simp) h1.1 y h2.1 z h3.1
  by_cases e1 : x.cmp y = 0
  ·rw [if_pos e1] at c1
   have exy := (cmp_zero x h1.1 y h2.1).1 e1
   subst exy
   by_cases e2 : x.cmp z = 0
   ·rw [if_pos e2] at c2 ⊢; exact hr c1 c2
   ·rw [if_neg e2] at c2 ⊢; exact c2
  ·rw [if_neg e1] at c1
   by_cases e2 : y.cmp z = 0
   ·have eyz := (cmp_zero y h2.1 z h3.1).1 e2
    subst eyz
    rw [if_neg e1]; exact c1
   ·rw [if_neg e2] at c2
    have hxz := hx c1 c2
    have hne : x.cmp z ≠ 0 := fun e3 => by
     have exz := (cmp_zero x h1.1 z h3.1).1 e3
     subst exz
     have := cmp_neg x y
     omega
    rw [if_neg hne]; exact hxz
theorem cmp_le (t : Term) : t.shapeB = true → ∀ u : Term, u.shapeB = true → ∀ w : Term, w.shapeB = true → t.cmp u ≤ 0 → u.cmp w ≤ 0 → t.cmp w ≤ 0 := by
 refine Term.ind (p := fun t => t.shapeB = true → ∀ u : Term, u.shapeB = true → ∀ w : Term, w.shapeB = true → t.cmp u ≤ 0 → u.cmp w ≤ 0 → t.cmp w ≤ 0) (fun v fn args ih hs u hu w hw c1 c2 => ?_) t
 obtain ⟨v2, fn2, args2⟩ := u
 obtain ⟨v3, fn3, args3⟩ := w
 have hsa : shapeBL args = true := by simp only [Term.shapeB, Bool.and_eq_true] at hs; exact hs.2
 have hua : shapeBL args2 = true := by simp only [Term.shapeB, Bool.and_eq_true] at hu; exact hu.2
 have hwa : shapeBL args3 = true := by simp only [Term.shapeB, Bool.and_eq_true] at hw; exact hw.2
 have em : ∀ a : List UInt8, a ≠ [] → Op.bytesLess a [] = false ∧ Op.bytesLess [] a = true := fun a h => by
  cases a with
  | nil => exact absurd rfl h
  | cons => simp [Op.bytesLess]
 simp only [Term.cmp] at c1 c2 ⊢
 by_cases n1 : fn.toList = []
 ·by_cases n3 : fn3.toList = []
  ·by_cases n2 : fn2.toList = []
   ·rw [if_pos ⟨n1, n2⟩, cmpI_le] at c1
    rw [if_pos ⟨n2, n3⟩, cmpI_le] at c2
    rw [if_pos ⟨n1, n3⟩, cmpI_le]; omega
   ·rw [if_neg fun h => n2 h.1, if_neg fun h => n2 (by rw [h, n3]), cmpS_neg1 fun h => n2 (by rw [h, n3]), n3, (em _ n2).1] at c2
    cases c2
  ·rw [if_neg fun h => n3 h.2, if_neg fun h => n3 (by rw [← h, n1]), cmpS_neg1 fun h => n3 (by rw [← h, n1]), n1]
   exact (em _ n3).2
 ·have n2 : fn2.toList ≠ [] := fun n2 => by
   rw [if_neg fun h => n1 h.1, if_neg fun h => n1 (by rw [h, n2]), cmpS_neg1 fun h => n1 (by rw [h, n2]), n2, (em _ n1).1] at c1
   cases c1
  have n3 : fn3.toList ≠ [] := fun n3 => by
   rw [if_neg fun h => n2 h.1, if_neg fun h => n2 (by rw [h, n3]), cmpS_neg1 fun h => n2 (by rw [h, n3]), n3, (em _ n2).1] at c2
   cases c2
  rw [if_neg fun h => n1 h.1] at c1 ⊢
  rw [if_neg fun h => n2 h.1] at c2
  by_cases e1 : fn.toList = fn2.toList
  ·by_cases e2 : fn2.toList = fn3.toList
   ·rw [if_pos e1] at c1
    rw [if_pos e2] at c2
    rw [if_pos (e1.trans e2)]
    by_cases l1 : args.length = args2.length
    ·by_cases l2 : args2.length = args3.length
     ·rw [if_pos l1] at c1
      rw [if_pos l2] at c2
      rw [if_pos (l1.trans l2)]
      exact cmpL_le args args2 args3 (fun x hx a b c d e f g => ih x hx a b c d e f g) hsa hua hwa l1 l2 c1 c2
     ·rw [if_neg l2, cmpI_le] at c2
      rw [if_neg (by omega), cmpI_le]; omega
    ·rw [if_neg l1, cmpI_le] at c1
     by_cases l2 : args2.length = args3.length
     ·rw [if_neg (by omega), cmpI_le]; omega
     ·rw [if_neg l2, cmpI_le] at c2
      rw [if_neg (by omega), cmpI_le]; omega
   ·rw [if_neg e2] at c2
    rw [if_neg (by rw [e1]; exact e2), e1]; exact c2
  ·rw [if_neg e1, cmpS_neg1 e1] at c1
   by_cases e2 : fn2.toList = fn3.toList
   ·rw [← e2, if_neg e1, cmpS_neg1 e1]; exact c1
   ·rw [if_neg e2, cmpS_neg1 e2] at c2
    have h3 := less_trans _ _ _ c1 c2
    have e3 : fn.toList ≠ fn3.toList := fun e => by rw [e, less_irrefl] at h3; cases h3
    rw [if_neg e3, cmpS_neg1 e3]; exact h3
end Go.Proofs.Ytkpomccbohjjpaa.Am

/-
 Literals and clauses as data of the abstract machine; which are right, their order. No condition.
-/
namespace Go.Proofs.Ytkpomccbohjjpaa.Am
open Go Go.Proofs
set_option linter.unusedSimpArgs false
set_option linter.unusedVariables false
structure Lt where
 neg : Bool
 l : Term
 r : Term
def Lt.enc (x : Lt) : List D := .bool x.neg :: (x.l.enc ++ x.r.enc)
def Lt.ok (x : Lt) : Prop := x.l.ok ∧ x.r.ok
def encC : List Lt → List D
 | [] => []
 | x :: r => x.enc ++ encC r
theorem Lt.enc_len (x : Lt) : x.enc.length = 7 := by simp [Lt.enc, Term.enc_len]
theorem encC_len : ∀ (c : List Lt), (encC c).length = c.length * 7
 | [] => rfl
 | x :: r => by simp [encC, Lt.enc_len, encC_len r]; omega
theorem encC_at : ∀ (c : List Lt) (i : Nat) (x : Lt), c[i]? = some x → ((encC c).drop (i * 7)).take 7 = x.enc
 | [], i, x, h => by simp at h
 | y :: r, 0, x, h => by
  simp at h; subst h
  have := y.enc_len
  simp [encC, this]
 | y :: r, i + 1, x, h => by
  have := y.enc_len
  have e := encC_at r i x (by simpa using h)
  simp only [encC]
  rw [show (i + 1) * 7 = y.enc.length + i * 7 by omega, List.drop_append, List.drop_of_length_le (by omega), List.nil_append, show y.enc.length + i * 7 - y.enc.length = i * 7 by omega]
  exact e
theorem encC_append : ∀ (a b : List Lt), encC (a ++ b) = encC a ++ encC b
 | [], _ => rfl
 | x :: r, b => by simp [encC, encC_append r b]
def okC (c : List Lt) : Prop := c.length ≤ 9223372036854775807 ∧ ∀ x ∈ c, x.ok
structure AtC (c : List Lt) (i : Nat) (n : Bool) (v : Int) (fn : ByteArray) (args : List Term) (v2 : Int) (fn2 : ByteArray) (args2 : List Term) : Prop where
 lt : i < c.length
 mem : Lt.mk n (.mk v fn args) (.mk v2 fn2 args2) ∈ c
 sz : (encC c).length = c.length * 7
 cells : ((encC c).drop (i * 7)).take 7 = [.bool n, .int .i64 v, .str fn, .sl (encL args) args.length false none, .int .i64 v2, .str fn2, .sl (encL args2) args2.length false none]
 lti : (i : Int) < (c.length : Int)
 ltm : i * 7 < c.length * 7
 le7 : 7 ≤ c.length * 7 - i * 7
 dr : c.drop i = .mk n (.mk v fn args) (.mk v2 fn2 args2) :: c.drop (i + 1)
 w : IntKind.i64.wrap ((i : Int) + 1) = (i : Int) + 1
 get : c[i] = .mk n (.mk v fn args) (.mk v2 fn2 args2)
theorem atC_ok {c : List Lt} (h : c.length ≤ 9223372036854775807) {i : Nat} (hil : i < c.length) : ∃ n v fn args v2 fn2 args2, AtC c i n v fn args v2 fn2 args2 := by
 obtain ⟨t, ht⟩ : ∃ t, c[i]? = some t := ⟨c[i], by simp [hil]⟩
 obtain ⟨n, ⟨v, fn, args⟩, ⟨v2, fn2, args2⟩⟩ := t
 refine ⟨n, v, fn, args, v2, fn2, args2, hil, List.mem_of_getElem? ht, encC_len c, encC_at c i _ ht, by omega, by omega, by omega, ?_, wrap_i64 (by omega) (by omega), by rw [List.getElem?_eq_getElem hil] at ht; exact Option.some.inj ht⟩
 rw [List.drop_eq_getElem_cons hil]
 congr 1
 rw [List.getElem?_eq_getElem hil] at ht
 exact Option.some.inj ht
def Lt.sizeW (x : Lt) (acc : Int) : Int := IntKind.i64.wrap (IntKind.i64.wrap (acc + x.l.sizeW) + x.r.sizeW)
def csizeW (acc : Int) : List Lt → Int
 | [] => acc
 | x :: r => csizeW (x.sizeW acc) r
def firstE : List Lt → Int
 | [] => 0
 | x :: r => if x.l.rightE ≠ 0 then x.l.rightE else if x.r.rightE ≠ 0 then x.r.rightE else firstE r
def clE (c : List Lt) : Int := if c.length > 60 then 3 else if firstE c ≠ 0 then firstE c else if csizeW 0 c > 4000 then 3 else 0
theorem firstE_mem : ∀ {c : List Lt}, firstE c = 0 → ∀ x ∈ c, x.l.rightE = 0 ∧ x.r.rightE = 0
 | [], _, x, hx => by simp at hx
 | y :: r, h, x, hx => by
  simp only [firstE] at h
  by_cases h1 : y.l.rightE ≠ 0
  ·rw [if_pos h1] at h; exact absurd h h1
  ·rw [if_neg h1] at h
   by_cases h2 : y.r.rightE ≠ 0
   ·rw [if_pos h2] at h; exact absurd h h2
   ·rw [if_neg h2] at h
    rcases List.mem_cons.1 hx with rfl | hx
    ·exact ⟨Classical.not_not.1 h1, Classical.not_not.1 h2⟩
    ·exact firstE_mem h x hx
theorem clE_mem {c : List Lt} (h : clE c = 0) : ∀ x ∈ c, x.l.rightE = 0 ∧ x.r.rightE = 0 := by
 unfold clE at h
 by_cases h0 : c.length > 60
 ·rw [if_pos h0] at h; cases h
 ·rw [if_neg h0] at h
  by_cases h1 : firstE c ≠ 0
  ·rw [if_pos h1] at h; exact absurd h h1
  ·exact firstE_mem (Classical.not_not.1 h1)
def Lt.same (a b : Lt) : Bool := (a.neg == b.neg) && ((a.l.sameB b.l && a.r.sameB b.r) || (a.l.sameB b.r && a.r.sameB b.l))
def Lt.cmp (a b : Lt) : Int := if a.neg = b.neg then (if a.l.cmp b.l = 0 then a.r.cmp b.r else a.l.cmp b.l) else if b.neg then -1 else 1
theorem Lt.cmp_neg (a b : Lt) : a.cmp b = - b.cmp a := by
 unfold Lt.cmp
 obtain ⟨n, l, r⟩ := a
 obtain ⟨n2, l2, r2⟩ := b
 simp only
 by_cases h : n = n2
 ·subst h
  rw [if_pos rfl, if_pos rfl, Am.cmp_neg l l2, Am.cmp_neg r r2]
  by_cases h0 : l2.cmp l = 0
  ·rw [if_pos h0, if_pos (by omega)]
  ·rw [if_neg h0, if_neg (by omega)]
 ·rw [if_neg h, if_neg (Ne.symm h)]
  cases n <;> cases n2 <;> first | exact absurd rfl h | rfl
theorem Lt.cmp_le (a b c : Lt) (ha : a.l.shapeB = true ∧ a.r.shapeB = true) (hb : b.l.shapeB = true ∧ b.r.shapeB = true) (hc : c.l.shapeB = true ∧ c.r.shapeB = true) (h1 : a.cmp b ≤ 0) (h2 : b.cmp c ≤ 0) : a.cmp c ≤ 0 := by
 unfold Lt.cmp at h1 h2 ⊢
 obtain ⟨n, l, r⟩ := a
 obtain ⟨n2, l2, r2⟩ := b
 obtain ⟨n3, l3, r3⟩ := c
 simp only at h1 h2 ha hb hc ⊢
 have hl := Am.cmp_le l ha.1 l2 hb.1 l3 hc.1
 have hr := Am.cmp_le r ha.2 r2 hb.2 r3 hc.2
 have z1 := Am.cmp_zero l ha.1 l2 hb.1
 have z2 := Am.cmp_zero l2 hb.1 l3 hc.1
 have key : n = n2 → n2 = n3 → (if l.cmp l3 = 0 then r.cmp r3 else l.cmp l3) ≤ 0 := fun e1 e2 => by
  rw [if_pos e1] at h1
  rw [if_pos e2] at h2
  by_cases q1 : l.cmp l2 = 0
  ·rw [if_pos q1] at h1
   have e := z1.1 q1
   subst e
   by_cases q2 : l.cmp l3 = 0
   ·rw [if_pos q2] at h2 ⊢; exact hr h1 h2
   ·rw [if_neg q2] at h2 ⊢; exact h2
  ·rw [if_neg q1] at h1
   by_cases q2 : l2.cmp l3 = 0
   ·have e := z2.1 q2
    subst e
    rw [if_neg q1]; exact h1
   ·rw [if_neg q2] at h2
    have := hl h1 h2
    by_cases q3 : l.cmp l3 = 0
    ·exfalso
     have e := (Am.cmp_zero l ha.1 l3 hc.1).1 q3
     subst e
     have := Am.cmp_neg l l2
     omega
    ·rw [if_neg q3]; exact this
 cases n <;> cases n2 <;> cases n3 <;> first | (simp at h1; done) | (simp at h2; done) | exact key rfl rfl | (simp; exact key rfl rfl) | simp_all
end Go.Proofs.Ytkpomccbohjjpaa.Am


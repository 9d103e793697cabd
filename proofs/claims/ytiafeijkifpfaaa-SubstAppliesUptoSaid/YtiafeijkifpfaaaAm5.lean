/-
  The abstract machine: its operations on values are the machine's, one by one. No condition.
-/
import Derived.Test.YtiafeijkifpfaaaAmK
namespace Go.Proofs.Ytiafeijkifpfaaa.Am
open Go

section
variable {P : Program} {C : Cx}

theorem elem_und {t e : TypeId} (h : telem P t = some e) : P.underlying t = some (.slice e) := by
  unfold telem at h
  split at h
  · rename_i e' he; cases h; exact he
  · cases h
theorem field_und {t : TypeId} {i off : Nat} {ft : TypeId} (h : tfield P t i = some (off, ft)) : ∃ fs f, P.underlying t = some (.struct fs) ∧ fs[i]? = some f ∧ f.offset = off ∧ f.type = ft := by
  unfold tfield at h
  split at h
  · rename_i fs hfs
    simp only [Option.map_eq_some_iff, Prod.mk.injEq] at h
    obtain ⟨f, hf, h1, h2⟩ := h
    exact ⟨fs, f, hfs, hf, h1, h2⟩
  · cases h

/-- A scalar as the machine's value. -/
def sc : D → Value
  | .int k n => .int k n
  | .bool b => .bool b
  | .str s => .string s
  | _ => undef
theorem intOp_sim {op : BinOp} {k : IntKind} {a b : Int} {r : D} {t : TypeId} (h : intOp op k a b = some r) (w : World) (F : Nat → Prop) :
    (binOp op t (.int k a) (.int k b)).run P w = .ok (sc r) w ∧ RepD F w r (sc r) := by
  cases op <;> simp only [intOp, Option.some.injEq, reduceCtorEq] at h
  case quo =>
    split at h
    · cases h
    · rename_i hb; cases h; exact ⟨by simp [binOp, Op.intDiv, hb, sc], .int _ _⟩
  case rem =>
    split at h
    · cases h
    · rename_i hb; cases h; exact ⟨by simp [binOp, Op.intDiv, hb, sc], .int _ _⟩
  all_goals
    subst h
    refine ⟨by simp [binOp, Op.intArith, Op.intCmp, sc], ?_⟩
    first | exact .int _ _ | exact .bool _
theorem shiftD_sim {op : BinOp} {k k' : IntKind} {a b : Int} {r : D} {t : TypeId} (h : shiftD op k a b = some r) (w : World) (F : Nat → Prop) :
    (binOp op t (.int k a) (.int k' b)).run P w = .ok (sc r) w ∧ RepD F w r (sc r) := by
  unfold shiftD at h
  split at h
  · cases h
  · rename_i hb
    cases op <;> simp only [Option.some.injEq, reduceCtorEq] at h
    all_goals
      subst h
      exact ⟨by simp [binOp, Op.shift, hb, sc], .int _ _⟩
theorem strOp_sim {op : BinOp} {a b : ByteArray} {r : D} {t : TypeId} (h : strOp op a b = some r) (w : World) (F : Nat → Prop) :
    (binOp op t (.string a) (.string b)).run P w = .ok (sc r) w ∧ RepD F w r (sc r) := by
  cases op <;> simp only [strOp, Option.some.injEq, reduceCtorEq] at h
  case add =>
    split at h
    · rename_i hb
      cases h
      have : ¬ (((a.size + b.size : Nat) : Int) > IntKind.i64.max) := by
        show ¬ _ > (9223372036854775807 : Int)
        omega
      refine ⟨?_, .str _⟩
      simp only [binOp, Op.stringOp, if_neg this, sc]
      rfl
    · cases h
  all_goals
    subst h
    exact ⟨by simp [binOp, Op.stringOp, sc], .bool _⟩

theorem eqGuard_run {op : BinOp} {t : TypeId} {x y : Operand} {u v : Value} (hu : ∀ cs, u ≠ .agg cs) (hn : u ≠ .nilIface) (w : World) : (eqGuard op t x y u v).run P w = .ok () w := by
  cases u <;> first | exact absurd rfl hn | exact absurd rfl (hu _) | (cases op <;> rfl)
theorem kind_und {t : TypeId} {d : TypeDesc} (h : P.underlying t = some d) : P.underlying t = some d := h
theorem eqB_sim {op : BinOp} {t : TypeId} {x y : Operand} {u v : Value} {b : Bool} {r : AV} {w : World} (hr : eqB op b = some r) (hu : ∀ cs, u ≠ .agg cs) (hn : u ≠ .nilIface)
    (hs : ∀ k n, u ≠ .int k n) (hst : ∀ s, u ≠ .string s) (hf : ∀ k n, u ≠ .float k n) (hcx : ∀ k n m, u ≠ .complex k n m) (h : (Op.equal t u v).run P w = .ok b w) :
    ∃ z, (do eqGuard op t x y u v; binOp op t u v : Sem Value).run P w = .ok z w ∧ ∀ C : Cx, Rep C r z := by
  cases op <;> simp only [eqB, Option.some.injEq, reduceCtorEq] at hr
  all_goals
    subst hr
    refine ⟨.bool _, ?_, fun C => .d _ _ (.bool _)⟩
    rw [Sem.run_bind, eqGuard_run hu hn, Result.andThen_ok]
    cases u <;> first | exact absurd rfl (hs _ _) | exact absurd rfl (hst _) | exact absurd rfl (hf _ _) | exact absurd rfl (hcx _ _ _) | (simp [binOp, h])

theorem equalIn_bool (d : Nat) {t : TypeId} {a b : Bool} (ht : P.underlying t = some .bool) (w : World) : (Op.equalIn (d + 1) t (.bool a) (.bool b)).run P w = .ok (a == b) w := by
  simp [Op.equalIn, und_run ht]
theorem equalIn_ptr1 (d : Nat) {t e : TypeId} {a : Option Addr} (ht : P.underlying t = some (.pointer e)) (w : World) : (Op.equalIn (d + 1) t (.pointer none) (.pointer a)).run P w = .ok a.isNone w := by
  simp [Op.equalIn, und_run ht]
theorem equalIn_ptr2 (d : Nat) {t e : TypeId} {a : Addr} (ht : P.underlying t = some (.pointer e)) (w : World) : (Op.equalIn (d + 1) t (.pointer (some a)) (.pointer none)).run P w = .ok false w := by
  simp [Op.equalIn, und_run ht]
theorem equalIn_fn (d : Nat) {t : TypeId} {x y z} {f c1 c2} (ht : P.underlying t = some (.func x y z)) (w : World) : (Op.equalIn (d + 1) t (.func f c1 c2) .nilFunc).run P w = .ok false w := by
  simp [Op.equalIn, und_run ht]
theorem binD_sim {op : BinOp} {X Y r : AV} {x y : Operand} {u v : Value} {t : TypeId} (h : binD P op t X Y = some r) (hu : Rep C X u) (hv : Rep C Y v) :
    ∃ z, (do eqGuard op t x y u v; binOp op t u v : Sem Value).run P C.w = .ok z C.w ∧ Rep C r z := by
  unfold binD at h
  split at h
  · rename_i k a k' b
    split at h
    · simp only [Option.map_eq_some_iff] at h
      obtain ⟨d, hd, rfl⟩ := h
      cases hu.dinv
      cases hv.dinv
      obtain ⟨hz, hr⟩ := shiftD_sim (P := P) (t := t) (k' := k') hd C.w C.F
      refine ⟨_, ?_, .d _ _ hr⟩
      rw [Sem.run_bind, eqGuard_run (by simp) (by simp), Result.andThen_ok, hz]
    split at h
    · rename_i hk
      subst hk
      simp only [Option.map_eq_some_iff] at h
      obtain ⟨d, hd, rfl⟩ := h
      cases hu.dinv
      cases hv.dinv
      obtain ⟨hz, hr⟩ := intOp_sim (P := P) (t := t) hd C.w C.F
      refine ⟨_, ?_, .d _ _ hr⟩
      rw [Sem.run_bind, eqGuard_run (by simp) (by simp), Result.andThen_ok, hz]
    · cases h
  · rename_i a b
    simp only [Option.map_eq_some_iff] at h
    obtain ⟨d, hd, rfl⟩ := h
    cases hu.dinv
    cases hv.dinv
    obtain ⟨hz, hr⟩ := strOp_sim (P := P) (t := t) hd C.w C.F
    refine ⟨_, ?_, .d _ _ hr⟩
    rw [Sem.run_bind, eqGuard_run (by simp) (by simp), Result.andThen_ok, hz]
  · split at h
    · rename_i a b hk
      cases hu.dinv
      cases hv.dinv
      have ht : P.underlying t = some .bool := by unfold tkind at hk; split at hk <;> first | assumption | cases hk
      obtain ⟨z, hz, hr⟩ := eqB_sim (P := P) (t := t) (x := x) (y := y) (u := .bool a) (v := .bool b) (w := C.w) h (by simp) (by simp) (by simp) (by simp) (by simp) (by simp)
        (equalIn_bool 9999 ht C.w)
      exact ⟨z, hz, hr C⟩
    · cases h
  · split at h
    · rename_i hk
      cases hv.dinv
      cases hu
      have ht : ∃ e, P.underlying t = some (.pointer e) := by unfold tkind at hk; split at hk <;> first | exact ⟨_, by assumption⟩ | cases hk
      obtain ⟨e, ht⟩ := ht
      obtain ⟨z, hz, hr⟩ := eqB_sim (P := P) (t := t) (x := x) (y := y) (u := .pointer (some _)) (v := .pointer none) (w := C.w) h (by simp) (by simp) (by simp) (by simp) (by simp) (by simp)
        (equalIn_ptr2 9999 ht C.w)
      exact ⟨z, hz, hr C⟩
    · cases h
  · split at h
    · rename_i hk
      cases hu.dinv
      cases hv
      have ht : ∃ e, P.underlying t = some (.pointer e) := by unfold tkind at hk; split at hk <;> first | exact ⟨_, by assumption⟩ | cases hk
      obtain ⟨e, ht⟩ := ht
      obtain ⟨z, hz, hr⟩ := eqB_sim (P := P) (t := t) (x := x) (y := y) (u := .pointer none) (v := .pointer (some _)) (w := C.w) h (by simp) (by simp) (by simp) (by simp) (by simp) (by simp)
        (equalIn_ptr1 9999 ht C.w)
      exact ⟨z, hz, hr C⟩
    · cases h
  · split at h
    · rename_i hk
      cases hu.dinv
      cases hv.dinv
      have ht : ∃ e, P.underlying t = some (.pointer e) := by unfold tkind at hk; split at hk <;> first | exact ⟨_, by assumption⟩ | cases hk
      obtain ⟨e, ht⟩ := ht
      obtain ⟨z, hz, hr⟩ := eqB_sim (P := P) (t := t) (x := x) (y := y) (u := .pointer none) (v := .pointer none) (w := C.w) h (by simp) (by simp) (by simp) (by simp) (by simp) (by simp)
        (equalIn_ptr1 9999 ht C.w)
      exact ⟨z, hz, hr C⟩
    · cases h
  · split at h
    · rename_i hk
      cases hv.dinv
      cases hu
      have ht : ∃ a b c, P.underlying t = some (.func a b c) := by unfold tkind at hk; split at hk <;> first | exact ⟨_, _, _, by assumption⟩ | cases hk
      obtain ⟨e1, e2, e3, ht⟩ := ht
      obtain ⟨z, hz, hr⟩ := eqB_sim (P := P) (t := t) (x := x) (y := y) (u := .func _ _ _) (v := .nilFunc) (w := C.w) h (by simp) (by simp) (by simp) (by simp) (by simp) (by simp)
        (equalIn_fn 9999 ht C.w)
      exact ⟨z, hz, hr C⟩
    · cases h
  · split at h
    · rename_i a b _ l hsh
      split at h
      · rename_i hc
        simp only [Bool.and_eq_true, Bool.not_eq_true'] at hc
        obtain ⟨⟨hfa, hfb⟩, hg⟩ := hc
        have q1 : fitD (true, l) (.agg a) = true := hfa
        have q2 : fitD (true, l) (.agg b) = true := hfb
        have ru := hu.dinv
        have rv := hv.dinv
        obtain ⟨V, _, e1, _, _⟩ := key_val hsh q1
        obtain ⟨U, _, e2, _, _⟩ := key_val hsh q2
        obtain rfl := vOf_rep e1 ru
        obtain rfl := vOf_rep e2 rv
        have he := equal_key hsh q1 q2 e1 e2 C.w
        cases ru with
        | agg _ xs _ _ _ =>
          cases rv with
          | agg _ ys _ _ _ =>
            have he' : (Op.equalIn 10000 t (.agg xs) (.agg ys)).run P C.w = .ok (eqL a b) C.w := he
            cases op <;> simp only [eqB, Option.some.injEq, reduceCtorEq] at h
            · subst h
              refine ⟨.bool (eqL a b), ?_, .d _ _ (.bool _)⟩
              rw [Sem.run_bind, run_eqGuard_agg _ _ _ _ _ _ _ hg, Result.andThen_ok, run_eql_struct, he', Result.andThen_ok]
            · subst h
              refine ⟨.bool (!(eqL a b)), ?_, .d _ _ (.bool _)⟩
              rw [Sem.run_bind, run_eqGuard_agg _ _ _ _ _ _ _ hg, Result.andThen_ok, run_neq_struct, he', Result.andThen_ok]
      · cases h
    · cases h
  · cases h

theorem unD_sim {op : UnOp} {X r : AV} {u : Value} (h : unD op X = some r) (hu : Rep C X u) : ∃ z, (Op.unary op u).run P C.w = .ok z C.w ∧ Rep C r z := by
  unfold unD at h
  split at h
  · cases hu.dinv
    cases h
    exact ⟨_, by simp only [Op.unary, Op.intArith]; rfl, .d _ _ (.int _ _)⟩
  · cases hu.dinv
    cases h
    exact ⟨_, by simp only [Op.unary]; rfl, .d _ _ (.bool _)⟩
  · cases h

end
end Go.Proofs.Ytiafeijkifpfaaa.Am

/-
  Joined texts: AmTt, AmTu, AmTv, AmYa, AmYb, AmYc, AmYd, AmYe, AmYf, AmYg, AmYh, AmYi, AmYj. No condition.
-/
import Derived.Test.YtnlmonokkppagaaAmPal
/-
  The scheduler's laws: are rows of runs the same for the tenant 1, are rows of numbers the same? No condition.
-/
namespace Go.Proofs.Ytnlmonokkppagaa.Am
open Go Go.Proofs
set_option maxHeartbeats 4000000
set_option maxRecDepth 20000
set_option linter.unusedSimpArgs false
set_option linter.unusedVariables false
theorem encR_drop : ∀ (l : List Rn) (i : Nat), (encR l).drop (i * 3) = encR (l.drop i)
  | [], i => by simp [encR]
  | (t, x, k) :: r, 0 => by simp [encR]
  | (t, x, k) :: r, i + 1 => by rw [show (i + 1) * 3 = i * 3 + 1 + 1 + 1 by omega]; simp [encR, encR_drop r i]
structure RAt (l : List Rn) (i : Nat) (t x k : Int) : Prop where
  get : l[i]? = some (t, x, k)
  lti : (i : Int) < (l.length : Int)
  len : (encR l).length = l.length * 3
  ltm : i * 3 < l.length * 3
  dr : (encR l).drop (i * 3) = .int .i64 t :: .int .i64 x :: .int .i64 k :: encR (l.drop (i + 1))
  le1 : 1 ≤ l.length * 3 - i * 3
  le3 : 3 ≤ l.length * 3 - i * 3
  w : IntKind.i64.wrap ((i : Int) + 1) = (i : Int) + 1
theorem r_at {l : List Rn} (hn : l.length ≤ 9223372036854775807) {i : Nat} (hi : i < l.length) : ∃ t x k, RAt l i t x k := by
  have hd : l.drop i = l[i] :: l.drop (i + 1) := List.drop_eq_getElem_cons hi
  obtain ⟨r, he⟩ : ∃ r, r = l[i] := ⟨_, rfl⟩
  rw [← he] at hd
  obtain ⟨t, x, k⟩ := r
  exact ⟨t, x, k, by rw [List.getElem?_eq_getElem hi, he], by omega, encR_len l, by omega, by rw [encR_drop, hd]; simp [encR], by omega, by omega, wrap_i64 (by omega) (by omega)⟩
abbrev dR (l : List Rn) : D := .sl (encR l) l.length false none
abbrev alT (a b x y : List Rn) (i : AV) : List AV := [.d (dR a), .d (dR b), .junk, .junk, .d (.bool false), runA (1, 1) x, runA (2, 1) y, i, .junk, .junk, .junk, .junk, .junk, .junk, .junk, .junk, .junk, .junk, .junk, .junk, .junk, .junk, .junk, .junk, .junk, .junk, .junk, .junk, .junk, .junk, .junk, .junk, .junk, .junk, .junk, .junk, .junk, .junk, .junk, .junk, .junk, .junk, .junk, .junk, .junk, .junk, .junk, .junk, .junk, .junk, .junk, .junk, .junk, .junk, .junk, .junk, .junk, .junk, .junk, .junk, .junk, .junk, .junk, .junk, .junk, .junk, .junk, .junk]
abbrev alT1 (b x y : List Rn) (i : AV) : List AV := [.junk, .d (dR b), .junk, .junk, .d (.bool false), runA (1, 1) x, runA (2, 1) y, .junk, i, .junk, .junk, .junk, .junk, .junk, .junk, .junk, .junk, .junk, .junk, .junk, .junk, .junk, .junk, .junk, .junk, .junk, .junk, .junk, .junk, .junk, .junk, .junk, .junk, .junk, .junk, .junk, .junk, .junk, .junk, .junk, .junk, .junk, .junk, .junk, .junk, .junk, .junk, .junk, .junk, .junk, .junk, .junk, .junk, .junk, .junk, .junk, .junk, .junk, .junk, .junk, .junk, .junk, .junk, .junk, .junk, .junk, .junk, .junk]
abbrev alT2 (x y : List Rn) (i : AV) : List AV := [.junk, .junk, .junk, .junk, .d (.bool false), runA (1, 1) x, runA (2, 1) y, .junk, .junk, i, .junk, .junk, .junk, .junk, .junk, .junk, .junk, .junk, .junk, .junk, .junk, .junk, .junk, .junk, .junk, .junk, .junk, .junk, .junk, .junk, .junk, .junk, .junk, .junk, .junk, .junk, .junk, .junk, .junk, .junk, .junk, .junk, .junk, .junk, .junk, .junk, .junk, .junk, .junk, .junk, .junk, .junk, .junk, .junk, .junk, .junk, .junk, .junk, .junk, .junk, .junk, .junk, .junk, .junk, .junk, .junk, .junk, .junk]
abbrev alH (x y : List Rn) : Hp := upd (upd (fun _ => none) (1, 1) (runO x)) (2, 1) (runO y)
theorem one_take {l : List Rn} {i : Nat} {r : Rn} (h : l[i]? = some r) : one (l.take (i + 1)) = if r.1 = 1 then one (l.take i) ++ [r] else one (l.take i) := by
  have : l.take (i + 1) = l.take i ++ [r] := by rw [List.take_add_one, h]; rfl
  rw [this, one, List.filter_append]
  by_cases hr : r.1 = 1 <;> simp [one, hr]
theorem one_len (l : List Rn) : (one l).length ≤ l.length := List.length_filter_le ..
theorem upd_ext {H K : Hp} {o : Oid} {x y : Am.Obj} (h : x = y) (k : ∀ p, p ≠ o → H p = K p) : upd H o x = upd K o y := by
  funext p; simp only [upd]; split
  · rw [h]
  · rename_i e; exact k p e
theorem below_eq {n : Nat} {H K : Hp} (h : ∀ p : Oid, p.1 < n → H p = K p) (k : ∀ p : Oid, ¬ p.1 < n → K p = none) : below n H = K := by
  funext p; simp only [below]; split
  · rename_i e; exact h p e
  · rename_i e; exact (k p e).symm
theorem alH_hi {x y : List Rn} {n : Nat} (hn : 4 ≤ n) (p : Oid) (hp : ¬ p.1 < n) : alH x y p = none := by
  have e1 : p ≠ (1, 1) := fun e => hp (by rw [e]; simp only; omega)
  have e2 : p ≠ (2, 1) := fun e => hp (by rw [e]; simp only; omega)
  simp [alH, upd, e1, e2]
theorem al0 (a b : List Rn) (hn : a.length ≤ 1048576) (n : Nat) (h4 : 4 ≤ n) :
    ∃ st, aloop Try.prog plc b20_2 ⟨[true, true, false, false, true, true, true, true, true, true, false, false, false, false, false, false, false, false, false, false, false, false, false, false, false, false, false, false, false, true, true, true, true, true, true, true, true, true, true, true, true, true, true, true, true, true, true, true, true, true, true, true, true, true, true, true, true, true, true, true, true, true, true, true, true, true, true, true], some n⟩ ⟨alT a b [] [] (.d (.int .i64 0)), alH [] [], n⟩ = some (.exit 0, st) ∧ (st = ⟨alT a b (one a) [] (.d (.int .i64 a.length)), alH (one a) [], st.nx⟩ ∧ n ≤ st.nx) := by
  have key := loop_rule (P := Try.prog) (pol := plc) (c := b20_2) (m := ⟨[true, true, false, false, true, true, true, true, true, true, false, false, false, false, false, false, false, false, false, false, false, false, false, false, false, false, false, false, false, true, true, true, true, true, true, true, true, true, true, true, true, true, true, true, true, true, true, true, true, true, true, true, true, true, true, true, true, true, true, true, true, true, true, true, true, true, true, true], some n⟩)
    (b := n) (tm := fun (i : Nat) => alT a b (one (a.take i)) [] (.d (.int .i64 i))) (Hf := fun i => alH (one (a.take i)) [])
    (I := fun i => i ≤ a.length) (μ := fun i => a.length - i) (res := fun _ => ()) (R := fun _ e st => e = .exit 0 ∧ st = ⟨alT a b (one a) [] (.d (.int .i64 a.length)), alH (one a) [], st.nx⟩ ∧ n ≤ st.nx)
    (fun i nx hi => by
      rcases Nat.lt_or_ge i a.length with hl | hl
      · obtain ⟨t, x, k, q⟩ := r_at (by omega) hl
        by_cases ht : t = 1
        · have hs := one_take q.get
          rw [if_pos ht] at hs
          subst ht
          have happ := fun (id : Nat) (o : Oid) (H : Hp) (h1 : H (1, 1) = some (runO (one (a.take i)))) (h2 : H o = some (.cells [.d (.int .i64 1), .d (.int .i64 x), .d (.int .i64 k)])) => append_run (id := id) h1 h2 (by have := one_len (a.take i); simp at this; omega)
          rw [← hs] at happ
          simp only [runA] at happ
          have hg : ∀ (k j : Nat) (z : Am.Obj) (H : Hp), upd H (nx + (n + k), j) z (1, 1) = H (1, 1) := fun k j z H => upd_old (by simp only; omega) _ _ _
          conv => arg 9; arg 4; unfold b20_2
          simp [plc_raw, q.lti, q.len, q.ltm, q.dr, q.le1, q.le3, q.w, Nat.add_assoc, happ, runA, hg]
          refine .next (i + 1) (by omega) (by simp [runA]) ?_ hl (by omega) rfl
          refine below_eq (fun p hp => ?_) (alH_hi h4)
          rcases Classical.em (p = (1, 1)) with e1 | e1
          · subst e1; simp [alH]
          · rw [upd_ne e1, upd_old (by omega)]
            simp only [alH, upd, e1, if_false]
        · have hs := one_take q.get
          rw [if_neg ht] at hs
          conv => arg 9; arg 4; unfold b20_2
          simp [plc_raw, q.lti, q.len, q.ltm, q.dr, q.le1, q.le3, q.w, Nat.add_assoc, ht]
          refine .next (i + 1) (by omega) (by simp [runA, hs]) ?_ hl (by omega) rfl
          rw [hs]
          exact below_eq (fun _ _ => rfl) (alH_hi h4)
      · obtain rfl : i = a.length := Nat.le_antisymm hi hl
        simp [b20_2]
        refine .fin _ _ ⟨rfl, ?_, by simp only; omega⟩
        simp [below_eq (fun _ _ => rfl) (alH_hi h4)]) 0 (Nat.zero_le _)
  obtain ⟨e, st, h1, rfl, h2⟩ := key
  exact ⟨st, by simpa [one] using h1, h2⟩
theorem al1 (a b : List Rn) (hn : b.length ≤ 1048576) (n : Nat) (h4 : 4 ≤ n) :
    ∃ st, aloop Try.prog plc b20_1 ⟨[false, true, false, false, true, true, true, false, true, true, false, false, false, false, false, false, false, false, false, false, false, false, false, false, false, false, false, false, false, false, false, false, false, false, false, false, false, false, false, false, false, false, false, false, false, false, false, false, true, true, true, true, true, true, true, true, true, true, true, true, true, true, true, true, true, true, true, true], some n⟩ ⟨alT1 b (one a) [] (.d (.int .i64 0)), alH (one a) [], n⟩ = some (.exit 2, st) ∧ (st = ⟨alT1 b (one a) (one b) (.d (.int .i64 b.length)), alH (one a) (one b), st.nx⟩ ∧ n ≤ st.nx) := by
  have key := loop_rule (P := Try.prog) (pol := plc) (c := b20_1) (m := ⟨[false, true, false, false, true, true, true, false, true, true, false, false, false, false, false, false, false, false, false, false, false, false, false, false, false, false, false, false, false, false, false, false, false, false, false, false, false, false, false, false, false, false, false, false, false, false, false, false, true, true, true, true, true, true, true, true, true, true, true, true, true, true, true, true, true, true, true, true], some n⟩)
    (b := n) (tm := fun (i : Nat) => alT1 b (one a) (one (b.take i)) (.d (.int .i64 i))) (Hf := fun i => alH (one a) (one (b.take i)))
    (I := fun i => i ≤ b.length) (μ := fun i => b.length - i) (res := fun _ => ()) (R := fun _ e st => e = .exit 2 ∧ st = ⟨alT1 b (one a) (one b) (.d (.int .i64 b.length)), alH (one a) (one b), st.nx⟩ ∧ n ≤ st.nx)
    (fun i nx hi => by
      rcases Nat.lt_or_ge i b.length with hl | hl
      · obtain ⟨t, x, k, q⟩ := r_at (by omega) hl
        by_cases ht : t = 1
        · have hs := one_take q.get
          rw [if_pos ht] at hs
          subst ht
          have happ := fun (id : Nat) (o : Oid) (H : Hp) (h1 : H (2, 1) = some (runO (one (b.take i)))) (h2 : H o = some (.cells [.d (.int .i64 1), .d (.int .i64 x), .d (.int .i64 k)])) => append_run (id := id) h1 h2 (by have := one_len (b.take i); simp at this; omega)
          rw [← hs] at happ
          simp only [runA] at happ
          have hg : ∀ (k j : Nat) (z : Am.Obj) (H : Hp), upd H (nx + (n + k), j) z (2, 1) = H (2, 1) := fun k j z H => upd_old (by simp only; omega) _ _ _
          conv => arg 9; arg 4; unfold b20_1
          simp [plc_raw, q.lti, q.len, q.ltm, q.dr, q.le1, q.le3, q.w, Nat.add_assoc, happ, runA, hg]
          refine .next (i + 1) (by omega) (by simp [runA]) ?_ hl (by omega) rfl
          refine below_eq (fun p hp => ?_) (alH_hi h4)
          rcases Classical.em (p = (2, 1)) with e1 | e1
          · subst e1; simp [alH]
          · rw [upd_ne e1, upd_old (by omega)]
            simp only [alH, upd, e1, if_false]
        · have hs := one_take q.get
          rw [if_neg ht] at hs
          conv => arg 9; arg 4; unfold b20_1
          simp [plc_raw, q.lti, q.len, q.ltm, q.dr, q.le1, q.le3, q.w, Nat.add_assoc, ht]
          refine .next (i + 1) (by omega) (by simp [runA, hs]) ?_ hl (by omega) rfl
          rw [hs]
          exact below_eq (fun _ _ => rfl) (alH_hi h4)
      · obtain rfl : i = b.length := Nat.le_antisymm hi hl
        simp [b20_1]
        refine .fin _ _ ⟨rfl, ?_, by simp only; omega⟩
        simp [below_eq (fun _ _ => rfl) (alH_hi h4)]) 0 (Nat.zero_le _)
  obtain ⟨e, st, h1, rfl, h2⟩ := key
  exact ⟨st, by simpa [one] using h1, h2⟩
theorem al_row {x : List Rn} {i : Nat} {t z k : Int} (q : RAt x i t z k) : runO x = .grow ((encR x).map .d) ∧ wdR x = 3 ∧ ((encR x).map AV.d).drop (i * 3) = [.d (.int .i64 t), .d (.int .i64 z), .d (.int .i64 k)] ++ (encR (x.drop (i + 1))).map .d := by
  have hne : x ≠ [] := by
    rintro rfl
    have := q.ltm
    simp at this
  exact ⟨by unfold runO; rw [if_neg hne], by unfold wdR; rw [if_neg hne], by rw [← List.map_drop, q.dr]; rfl⟩
def AlEnd (x y : List Rn) (e : Ex) (st : St) : Prop := (e = .exit 4 ∧ x = y ∧ st.tm = alT2 x y (.d (.int .i64 x.length))) ∨ (e = .ret ∧ x ≠ y ∧ st.tm[4]? = some (.d (.bool false)))
theorem al2 (x y : List Rn) (hl : x.length = y.length) (hn : x.length ≤ 1048576) (n : Nat) (h4 : 4 ≤ n) :
    ∃ e st, aloop Try.prog plc b20_0 ⟨[false, false, false, false, true, true, true, false, false, true, false, false, false, false, false, false, false, false, false, false, false, false, false, false, false, false, false, false, false, false, false, false, false, false, false, false, false, false, false, false, false, false, false, false, false, false, false, false, false, false, false, false, false, false, false, false, false, false, false, false, false, false, false, false, false, false, false, false], some n⟩ ⟨alT2 x y (.d (.int .i64 0)), alH x y, n⟩ = some (e, st) ∧ AlEnd x y e st := by
  have key := loop_rule (P := Try.prog) (pol := plc) (c := b20_0) (m := ⟨[false, false, false, false, true, true, true, false, false, true, false, false, false, false, false, false, false, false, false, false, false, false, false, false, false, false, false, false, false, false, false, false, false, false, false, false, false, false, false, false, false, false, false, false, false, false, false, false, false, false, false, false, false, false, false, false, false, false, false, false, false, false, false, false, false, false, false, false], some n⟩)
    (b := n) (tm := fun (i : Nat) => alT2 x y (.d (.int .i64 i))) (Hf := fun _ => alH x y)
    (I := fun i => i ≤ x.length ∧ x.take i = y.take i) (μ := fun i => x.length - i) (res := fun _ => ()) (R := fun _ => AlEnd x y)
    (fun i nx hI => by
      obtain ⟨hi, hI⟩ := hI
      rcases Nat.lt_or_ge i x.length with hlt | hlt
      · obtain ⟨t, z, k, q⟩ := r_at (by omega) hlt
        obtain ⟨t2, z2, k2, q2⟩ := r_at (l := y) (by omega) (by omega : i < y.length)
        obtain ⟨a1, w1, a2⟩ := al_row q
        obtain ⟨a3, w2, a4⟩ := al_row q2
        have l3 : i * 3 + 3 ≤ y.length * 3 := by omega
        have tx : x.take (i + 1) = x.take i ++ [(t, z, k)] := by rw [List.take_add_one, q.get]; rfl
        have ty : y.take (i + 1) = y.take i ++ [(t2, z2, k2)] := by rw [List.take_add_one, q2.get]; rfl
        by_cases he : t = t2 ∧ z = z2 ∧ k = k2
        · obtain ⟨rfl, rfl, rfl⟩ := he
          conv => arg 9; arg 4; unfold b20_0
          simp [plc_raw, q.lti, q.len, q.ltm, q.le3, q2.lti, q2.len, q2.ltm, q2.le3, q.w, Nat.add_assoc, runA, a1, a2, a3, a4, w1, w2, hl, l3]
          exact .next (i + 1) (by omega) (by simp [runA, w1, w2, hl]) (below_eq (fun _ _ => rfl) (alH_hi h4)) ⟨by omega, by rw [tx, ty, hI]⟩ (by omega) rfl
        · have he2 : ¬ t = t2 ∨ ¬ z = z2 ∨ ¬ k = k2 := by
            by_cases e1 : t = t2
            · by_cases e2 : z = z2
              · exact .inr (.inr fun e3 => he ⟨e1, e2, e3⟩)
              · exact .inr (.inl e2)
            · exact .inl e1
          conv => arg 9; arg 4; unfold b20_0
          simp [plc_raw, q.lti, q.len, q.ltm, q.le3, q2.lti, q2.len, q2.ltm, q2.le3, q.w, Nat.add_assoc, runA, a1, a2, a3, a4, w1, w2, hl, l3, he2]
          refine .fin _ _ (.inr ⟨rfl, fun e => ?_, rfl⟩)
          subst e
          rw [tx] at ty
          simp at ty
          exact he ty
      · obtain rfl : i = x.length := Nat.le_antisymm hi hlt
        have hxy : x = y := by rw [List.take_of_length_le (Nat.le_refl _), List.take_of_length_le (by omega)] at hI; exact hI
        subst hxy
        simp [b20_0, runA]
        exact .fin _ _ (.inl ⟨rfl, rfl, by simp [runA]⟩)) 0 ⟨Nat.zero_le _, rfl⟩
  simpa using key
theorem alike_ok (a b : List Rn) (ha : a.length ≤ 1048576) (hb : b.length ≤ 1048576) : pcl Cp 20 [dR a, dR b] = some (.bool (decide (one a = one b))) := by
  obtain ⟨⟨tm1, H1, n1⟩, h1, e1, k1⟩ := al0 a b ha 4 (by omega)
  simp only [St.mk.injEq] at e1 k1
  obtain ⟨rfl, rfl, -⟩ := e1
  have la := one_len a
  have lb := one_len b
  refine pcl_body code20 ?_
  have hw0 : wdR [] = 1 := rfl
  have hO : runO [] = .vnil := rfl
  simp only [alT, alH, runA, hw0, hO, List.length_nil, Nat.zero_mul, Int.natCast_zero] at h1
  obtain ⟨⟨tm2, H2, n2⟩, h2, e2, k2⟩ := al1 a b hb (n1 + 1) (by omega)
  simp only [St.mk.injEq] at e2 k2
  obtain ⟨rfl, rfl, -⟩ := e2
  simp only [alT1, alH, runA, hw0, hO, List.length_nil, Nat.zero_mul, Int.natCast_zero] at h2
  by_cases hl : (one a).length = (one b).length
  · obtain ⟨e3, st3, h3, h4⟩ := al2 (one a) (one b) hl (by omega) (n2 + 6) (by omega)
    simp only [alT2, alH, runA, Int.natCast_zero] at h3
    rw [hl] at h3 h1 h2
    rcases h4 with ⟨rfl, he, htm⟩ | ⟨rfl, he, htm⟩
    · rw [show decide (one a = one b) = true from decide_eq_true he]
      simp [plc_raw, h1, h2, Nat.add_assoc, hl, h3, htm]
    · simp [plc_raw, h1, h2, Nat.add_assoc, hl, h3, he, htm]
  · have hl2 : ¬ ((one a).length : Int) = (one b).length := by omega
    have he : one a ≠ one b := fun e => hl (by rw [e])
    simp [plc_raw, h1, h2, Nat.add_assoc, hl2, hl, he]
end Go.Proofs.Ytnlmonokkppagaa.Am

/-
  Rows of numbers: are they the same? No condition.
-/
namespace Go.Proofs.Ytnlmonokkppagaa.Am
open Go Go.Proofs
set_option maxHeartbeats 4000000
set_option maxRecDepth 20000
set_option linter.unusedSimpArgs false
set_option linter.unusedVariables false
abbrev dI (l : List Int) : D := .sl (l.map fun x => .int .i64 x) l.length false none
abbrev inT (x y : List Int) (i : Nat) : List AV := [.d (dI x), .d (dI y), .junk, .junk, .d (.bool false), .d (.int .i64 i), .junk, .junk, .junk, .junk, .junk, .junk, .junk, .junk, .junk, .junk, .junk, .junk, .junk, .junk, .junk, .junk, .junk, .junk, .junk, .junk]
def InEnd (x y : List Int) (e : Ex) (st : St) : Prop := (e = .exit 0 ∧ x = y ∧ st.tm = inT x y x.length) ∨ (e = .ret ∧ x ≠ y ∧ st.tm[4]? = some (.d (.bool false)))
theorem in0 (x y : List Int) (hl : x.length = y.length) (hn : x.length ≤ 4611686018427387904) (n : Nat) :
    ∃ e st, aloop Try.prog plc b17_0 ⟨[true, true, false, false, true, true, false, false, false, false, false, false, false, false, false, false, false, false, false, false, false, false, false, false, false, false], some n⟩ ⟨inT x y 0, fun _ => none, n⟩ = some (e, st) ∧ InEnd x y e st := by
  have key := loop_rule (P := Try.prog) (pol := plc) (c := b17_0) (m := ⟨[true, true, false, false, true, true, false, false, false, false, false, false, false, false, false, false, false, false, false, false, false, false, false, false, false, false], some n⟩)
    (b := n) (tm := fun (i : Nat) => inT x y i) (Hf := fun _ => fun _ => none)
    (I := fun i => i ≤ x.length ∧ x.take i = y.take i) (μ := fun i => x.length - i) (res := fun _ => ()) (R := fun _ => InEnd x y)
    (fun i nx hI => by
      obtain ⟨hi, hI⟩ := hI
      rcases Nat.lt_or_ge i x.length with hlt | hlt
      · have hy : i < y.length := by omega
        have hyi : (i : Int) < y.length := by omega
        have hw : IntKind.i64.wrap ((i : Int) + 1) = (i : Int) + 1 := wrap_i64 (by omega) (by omega)
        have tx : x.take (i + 1) = x.take i ++ [x[i]] := by rw [List.take_add_one, List.getElem?_eq_getElem hlt]; rfl
        have ty : y.take (i + 1) = y.take i ++ [y[i]] := by rw [List.take_add_one, List.getElem?_eq_getElem hy]; rfl
        conv => arg 9; arg 4; unfold b17_0
        by_cases he : x[i] = y[i]
        · simp [plc_raw, Nat.add_assoc, hl, hy, hyi, hw, he]
          exact .next (i + 1) (by omega) (by simp [hl]) rfl ⟨by omega, by rw [tx, ty, hI, he]⟩ (by omega) rfl
        · simp [plc_raw, Nat.add_assoc, hl, hy, hyi, hw, he]
          refine .fin _ _ (.inr ⟨rfl, fun e => ?_, rfl⟩)
          subst e
          exact he rfl
      · obtain rfl : i = x.length := Nat.le_antisymm hi hlt
        have hxy : x = y := by rw [List.take_of_length_le (Nat.le_refl _), List.take_of_length_le (by omega)] at hI; exact hI
        subst hxy
        simp [b17_0]
        exact .fin _ _ (.inl ⟨rfl, rfl, by simp⟩)) 0 ⟨Nat.zero_le _, rfl⟩
  simpa using key
theorem ints_ok (x y : List Int) (hx : x.length ≤ 4611686018427387904) : pcl Cp 17 [dI x, dI y] = some (.bool (decide (x = y))) := by
  refine pcl_body code17 ?_
  by_cases hl : x.length = y.length
  · obtain ⟨e, st, h1, h2⟩ := in0 x y hl hx 7
    simp only [inT, Int.natCast_zero] at h1
    rcases h2 with ⟨rfl, he, htm⟩ | ⟨rfl, he, htm⟩
    · rw [show decide (x = y) = true from decide_eq_true he]
      simp [plc_raw, hl, h1, htm, Nat.add_assoc]
    · simp [plc_raw, hl, h1, htm, he, Nat.add_assoc]
  · have hl2 : ¬ (x.length : Int) = y.length := by omega
    have he : x ≠ y := fun e => hl (by rw [e])
    simp [plc_raw, hl, hl2, he]
end Go.Proofs.Ytnlmonokkppagaa.Am

/-
  Rows of runs and of numbers as data; what calls leave of the clock. No condition.
-/
namespace Go.Proofs.Ytnlmonokkppagaa.Am
open Go Go.Proofs
set_option maxHeartbeats 4000000
set_option maxRecDepth 20000
set_option linter.unusedSimpArgs false
set_option linter.unusedVariables false
theorem wkL_encR : ∀ l, wkL (encR l) = encR l
  | [] => rfl
  | (t, i, k) :: r => by simp [encR, wkL_encR r]
theorem wkL_int : ∀ l : List Int, wkL (l.map fun x => D.int .i64 x) = l.map fun x => D.int .i64 x
  | [] => rfl
  | x :: r => by simp [wkL_int r]
theorem run_reify {H : Hp} {o : Oid} {l : List Rn} (h : H o = some (runO l)) (k : Nat) : ∃ x is, reify H (k + 1) (runA o l) = some (x, is) ∧ wk x = dR l := by
  cases l with
  | nil => exact ⟨.sl [] 0 false (some true), [], by simp [runO] at h; simp [runA, wdR, reify, h, Obj.isRow, Obj.cs, nlOf], by simp [dR, encR]⟩
  | cons y r =>
    have h1 := mapD_d (reify H k) (reify_d H k) (encR (y :: r))
    have h2 : (r.length + 1) * 3 = (encR (y :: r)).length := by rw [encR_len]; simp
    have h3 : List.take ((r.length + 1) * 3) ((encR (y :: r)).map AV.d) = (encR (y :: r)).map .d := List.take_of_length_le (by simp [h2])
    have h4 : encR (y :: r) ≠ [] := by obtain ⟨a, b, c⟩ := y; simp [encR]
    generalize hE : encR (y :: r) = E at *
    simp [runO, hE] at h
    refine ⟨.sl E (r.length + 1) false (some false), [o], ?_, by rw [← hE]; simp [dR, wkL_encR]⟩
    have h5 : ¬ E.length < (r.length + 1) * 3 := by omega
    simp [runA, wdR, reify, h, Obj.isRow, Obj.cs, nlOf, h1, ← h2, h3, h4]
theorem ids_reify {H : Hp} {o : Oid} {l : List Int} (h : H o = some (rowJ l)) (k : Nat) : ∃ x is, reify H (k + 1) (idsA o l) = some (x, is) ∧ wk x = dI l := by
  cases l with
  | nil => exact ⟨.sl [] 0 false (some true), [], by simp [rowJ] at h; simp [idsA, reify, h, Obj.isRow, Obj.cs, nlOf], by simp [dI]⟩
  | cons y r =>
    have h1 := mapD_d (reify H k) (reify_d H k) ((y :: r).map fun x => D.int .i64 x)
    simp only [List.map_map, List.map_cons] at h1
    have h3 : List.take r.length (List.map (fun x => AV.d (D.int IntKind.i64 x)) r) = List.map (fun x => AV.d (D.int IntKind.i64 x)) r := List.take_of_length_le (by simp)
    simp [rowJ] at h
    refine ⟨.sl ((y :: r).map fun x => D.int .i64 x) (r.length + 1) false (some false), [o], ?_, by simp [dI, wkL_int]⟩
    simp only [Function.comp_def] at h1
    simp [idsA, reify, h, Obj.isRow, Obj.cs, nlOf, h3, h1]
theorem SchH.small {H : Hp} {N : Nat} {oS oL : Oid} {vs : List AV} {os : List (Option Oid)} {S : Sc} (h : SchH H N oS oL vs os S) : ∀ l ∈ S.lines, l.length ≤ 64 := fun l hl => by
  obtain ⟨t, ht⟩ := List.mem_iff_getElem?.1 hl
  obtain ⟨v, l', o, _, h2, _, h4⟩ := h.get (List.getElem?_eq_some_iff.1 ht).1
  rw [ht] at h2; cases h2
  exact h4.le
theorem SchH.runsLe {H : Hp} {N : Nat} {oS oL : Oid} {vs : List AV} {os : List (Option Oid)} {S : Sc} (h : SchH H N oS oL vs os S) (hn : S.lines.length ≤ 16) : S.runs.length ≤ 1048576 := by
  have := runs_len S.ways (leftOf' S.next S.lines) 0
  rw [left_len] at this
  unfold Sc.runs; omega
theorem SchH.lateLe {H : Hp} {N : Nat} {oS oL : Oid} {vs : List AV} {os : List (Option Oid)} {S : Sc} (h : SchH H N oS oL vs os S) (hn : S.lines.length ≤ 16) : S.late.length ≤ 1048576 := by
  have := late_len S.next S.lines h.small 0
  unfold Sc.late; omega
theorem SchH.idsLe {H : Hp} {N : Nat} {oS oL : Oid} {vs : List AV} {os : List (Option Oid)} {S : Sc} (h : SchH H N oS oL vs os S) (t : Int) : (S.ids t).length ≤ 4611686018427387904 := by
  unfold Sc.ids
  split
  · unfold Sc.line
    rw [List.length_map, List.getD_eq_getElem?_getD]
    cases hq : S.lines[t.toNat]? with
    | none => simp
    | some l => have := h.small l (List.mem_of_getElem? hq); simp only [Option.getD_some]; omega
  · simp
/-- The clock goes right. -/
def Sc.Ok (S : Sc) : Prop := S.ways ≠ 0 ∧ 0 ≤ S.now ∧ S.now ≤ 1099511627776
theorem Sc.Ok.add {S : Sc} (h : S.Ok) (t id d : Int) : (S.add t id d).1.Ok := by
  unfold Sc.add; repeat' split
  all_goals exact h
theorem Sc.Ok.rem {S : Sc} (h : S.Ok) (t id : Int) : (S.rem t id).1.Ok := by
  unfold Sc.rem; repeat' split
  all_goals exact h
theorem Sc.Ok.tick {S : Sc} (h : S.Ok) : S.tick.Ok := by
  obtain ⟨h1, h2, h3⟩ := h
  refine ⟨h1, ?_, ?_⟩ <;> (simp only [Sc.tick, Sc.next]; split <;> omega)
theorem Rel.ok {S T : Sc} (h : Rel S T) (hS : S.Ok) : T.Ok := by
  obtain ⟨w, n, a0, a2, b0, b2, l, rfl, rfl⟩ := h
  exact hS
/-! ### A script -/
abbrev Op4 := Int × Int × Int × Int
def encO : List Op4 → List D
  | [] => []
  | (k, t, i, d) :: r => .int .i64 k :: .int .i64 t :: .int .i64 i :: .int .i64 d :: encO r
theorem encO_len : ∀ l : List Op4, (encO l).length = l.length * 4
  | [] => rfl
  | (k, t, i, d) :: r => by simp [encO, encO_len r]; omega
theorem encO_drop : ∀ (l : List Op4) (i : Nat), (encO l).drop (i * 4) = encO (l.drop i)
  | [], i => by simp [encO]
  | (k, t, x, d) :: r, 0 => by simp [encO]
  | (k, t, x, d) :: r, i + 1 => by rw [show (i + 1) * 4 = i * 4 + 1 + 1 + 1 + 1 by omega]; simp [encO, encO_drop r i]
abbrev dO (l : List Op4) : D := .sl (encO l) l.length false none
structure OAt (l : List Op4) (i : Nat) (k t x d : Int) : Prop where
  get : l[i]? = some (k, t, x, d)
  lti : (i : Int) < (l.length : Int)
  len : (encO l).length = l.length * 4
  ltm : i * 4 < l.length * 4
  dr : (encO l).drop (i * 4) = .int .i64 k :: .int .i64 t :: .int .i64 x :: .int .i64 d :: encO (l.drop (i + 1))
  le4 : 4 ≤ l.length * 4 - i * 4
  w : IntKind.i64.wrap ((i : Int) + 1) = (i : Int) + 1
theorem o_at {l : List Op4} (hn : l.length ≤ 9223372036854775807) {i : Nat} (hi : i < l.length) : ∃ k t x d, OAt l i k t x d := by
  have hd : l.drop i = l[i] :: l.drop (i + 1) := List.drop_eq_getElem_cons hi
  obtain ⟨r, he⟩ : ∃ r, r = l[i] := ⟨_, rfl⟩
  rw [← he] at hd
  obtain ⟨k, t, x, d⟩ := r
  exact ⟨k, t, x, d, by rw [List.getElem?_eq_getElem hi, he], by omega, encO_len l, by omega, by rw [encO_drop, hd]; simp [encO], by omega, wrap_i64 (by omega) (by omega)⟩
end Go.Proofs.Ytnlmonokkppagaa.Am

/-
  The document's scheduler: what makes it, and what adds to it. No condition.
-/
namespace Go.Proofs.Ytnlmonokkppagaa.Am
open Go Go.Proofs
set_option maxHeartbeats 4000000
set_option maxRecDepth 20000
set_option linter.unusedSimpArgs false
set_option linter.unusedVariables false
theorem isR_ok (S : Sc) (t : Int) : pcl Cp 26 [encS S, .int .i64 t] = some (.bool (S.isT t)) := by
  refine pcl_body code26 ?_
  unfold Sc.isT
  by_cases h : 0 ≤ t
  · simp [encS, h]
  · simp [encS, h]
abbrev atT (S : Sc) (t : Nat) (id : Int) (i : Nat) : List AV := [.d (encS S), .d (.int .i64 t), .d (.int .i64 id), .junk, .junk, .junk, .d (.int .i64 0), .d (.int .i64 i), .junk, .junk, .junk, .junk, .junk, .junk, .junk, .junk, .junk, .junk, .junk, .junk, .junk, .junk, .junk, .junk, .junk, .junk, .junk, .junk, .junk, .junk, .junk, .junk, .junk, .junk]
def AtEnd (r : Option Nat) (e : Ex) (st : St) : Prop :=
  match r with
  | some k => e = .ret ∧ st.tm[6]? = some (.d (.int .i64 k))
  | none => e = .exit 0 ∧ st.tm.length = 34
theorem at_loop (S : Sc) (t : Nat) (l : List Qu) (id : Int) (ht : S.lines[t]? = some l) (hn : S.lines.length ≤ 9223372036854775807) (hl : l.length ≤ 9223372036854775807) (n : Nat) :
    ∃ e st, aloop Try.prog plc b27_0 ⟨[true, true, true, false, false, false, true, true, false, false, false, false, false, false, false, false, false, false, false, false, false, false, false, false, false, false, false, false, false, false, false, false, false, false], some n⟩ ⟨atT S t id 0, fun _ => none, n⟩ = some (e, st) ∧ AtEnd (findQ l id) e st := by
  have htl := (List.getElem?_eq_some_iff.1 ht).1
  have hti : (t : Int) < S.lines.length := by omega
  have hcells : ∀ h : t < S.lines.length, (S.lines.map encLn)[t]'(by simpa using h) = encLn l := fun h => by simp [(List.getElem?_eq_some_iff.1 ht).2]
  have hf0 := fromI_zero (fun q : Qu => decide (q.id = id)) l
  have key := loop_rule (P := Try.prog) (pol := plc) (c := b27_0) (m := ⟨[true, true, true, false, false, false, true, true, false, false, false, false, false, false, false, false, false, false, false, false, false, false, false, false, false, false, false, false, false, false, false, false, false, false], some n⟩)
    (b := n) (tm := fun (i : Nat) => atT S t id i) (Hf := fun _ => fun _ => none)
    (I := fun i => i ≤ l.length) (μ := fun i => l.length - i) (res := fun i => fromI (fun q => decide (q.id = id)) l i) (R := AtEnd)
    (fun i nx hi => by
      rcases Nat.lt_or_ge i l.length with hl2 | hl2
      · obtain ⟨q, a⟩ := q_at hl hl2
        have hq : l[i] = q := by have := a.get; rw [List.getElem?_eq_getElem hl2] at this; exact Option.some.inj this
        have hfs := fromI_step (p := fun q : Qu => decide (q.id = id)) hl2
        rw [hq] at hfs
        have hd : (encQ l).drop (i * 3) = .int .i64 q.id :: .int .i64 q.dl :: .int .i64 q.tn :: encQ (l.drop (i + 1)) := by rw [encQ_drop, a.dr]; rfl
        have h1 : 1 ≤ l.length * 3 - i * 3 := by have := a.ltm; omega
        conv => arg 9; arg 4; unfold b27_0
        by_cases he : q.id = id
        · simp [encS, encLn, plc_raw, hti, htl, hcells, a.lti, a.len, a.ltm, hd, h1, a.w, Nat.add_assoc, he]
          refine .fin _ _ ?_
          rw [hfs, if_pos (by simp [he])]
          exact ⟨rfl, rfl⟩
        · simp [encS, encLn, plc_raw, hti, htl, hcells, a.lti, a.len, a.ltm, hd, h1, a.w, Nat.add_assoc, he]
          refine .next (i + 1) (by omega) (by simp [encS, encLn]) rfl hl2 (by omega) ?_
          rw [hfs, if_neg (by simp [he])]
      · obtain rfl : i = l.length := Nat.le_antisymm hi hl2
        simp [b27_0, encS, encLn, plc_raw, hti, htl, hcells]
        refine .fin _ _ ?_
        simp only [fromI_end]
        exact ⟨rfl, by simp⟩) 0 (Nat.zero_le _)
  rw [hf0] at key
  simpa [findQ] using key
theorem atR_ok (S : Sc) (t : Nat) (l : List Qu) (id : Int) (ht : S.lines[t]? = some l) (hn : S.lines.length ≤ 9223372036854775807) (hl : l.length ≤ 9223372036854775807) : pcl Cp 27 [encS S, .int .i64 t, .int .i64 id] = some (.int .i64 (match findQ l id with | some i => i | none => -1)) := by
  refine pcl_body code27 ?_
  obtain ⟨e, st, hr, hE⟩ := at_loop S t l id ht hn hl 2
  simp only [atT, Int.natCast_zero] at hr
  cases hq : findQ l id with
  | none =>
    rw [hq] at hE
    obtain ⟨rfl, htm⟩ := hE
    simp [plc_raw, hr, htm]
  | some k =>
    rw [hq] at hE
    obtain ⟨rfl, htm⟩ := hE
    simp [plc_raw, hr, htm]
theorem appendR_src {H : Hp} {v : AV} {l : List Qu} {o : Option Oid} (h : LineAt H v l o) {src : AV} {x : Qu} (hs : srcCells Try.prog H 3 65 src = some ([.int .i64 x.id, .int .i64 x.dl, .int .i64 x.tn], 1, [])) (id : Nat) (hsz : l.length < 64) :
    ∃ ver o' H', appendO Try.prog H id 65 65 v src = some (.osl o' 0 (l.length + 1) 3 ver, H') ∧ LineAt H' (.osl o' 0 (l.length + 1) 3 ver) (l ++ [x]) (some o') ∧ (o = some o' ∨ o = none ∧ o' = (id, 0)) ∧ (∀ p, p ≠ o' → H' p = H p) := by
  cases h with
  | nil =>
    refine ⟨3, (id, 0), upd H (id, 0) (.grow ([D.int .i64 x.id, .int .i64 x.dl, .int .i64 x.tn].map .d)), ?_, ?_, .inr ⟨rfl, rfl⟩, fun p hp => upd_ne hp⟩
    · simp [appendO, hs, growO]
    · exact .row (id, 0) [x] [D.int .i64 x.id, .int .i64 x.dl, .int .i64 x.tn] (upd_same _ _ _) (by simp) (by simp [encQ]) (by simp)
  | vn o h =>
    refine ⟨3, o, upd H o (.grow ([D.int .i64 x.id, .int .i64 x.dl, .int .i64 x.tn].map .d)), ?_, ?_, .inl rfl, fun p hp => upd_ne hp⟩
    · simp [appendO, hs, h, growO]
    · exact .row o [x] [D.int .i64 x.id, .int .i64 x.dl, .int .i64 x.tn] (upd_same _ _ _) (by simp) (by simp [encQ]) (by simp)
  | row o l cs h hv ht hb =>
    have hle : cs.length ≤ 68719476736 := by omega
    by_cases hf : l.length * 3 + 3 ≤ cs.length
    · obtain ⟨cs', hcs'⟩ : ∃ cs', cs' = cs.take (l.length * 3) ++ ([D.int .i64 x.id, .int .i64 x.dl, .int .i64 x.tn] ++ cs.drop (l.length * 3 + 3)) := ⟨_, rfl⟩
      have hlen : cs'.length = cs.length := by rw [hcs']; simp; omega
      have htk : cs'.take ((l ++ [x]).length * 3) = encQ (l ++ [x]) := by
        rw [hcs', ht, encQ_append, List.length_append, List.length_singleton, show (l.length + 1) * 3 = (encQ l).length + 3 by rw [encQ_len]; omega, List.take_append]
        have htl : (encQ l).take ((encQ l).length + 3) = encQ l := List.take_of_length_le (by omega)
        simp [encQ, htl]
      have hrow := LineAt.row (H := upd H o (.grow (cs'.map .d))) o (l ++ [x]) cs' (upd_same _ _ _) (by simp; omega) htk (by omega)
      rw [hlen, List.length_append, List.length_singleton] at hrow
      refine ⟨_, o, _, ?_, hrow, .inl rfl, fun p hp => upd_ne hp⟩
      simp [appendO, hs, h, hv, hle, growO, hf, hcs']
    · have ht2 : List.take (l.length * 3) (cs.map AV.d) = (encQ l).map .d := by rw [← List.map_take, ht]
      have hrow := LineAt.row (H := upd H o (.grow ((encQ (l ++ [x])).map .d))) o (l ++ [x]) (encQ (l ++ [x])) (upd_same _ _ _) (by rw [encQ_len]; omega) (by rw [List.take_of_length_le (by rw [encQ_len]; omega)]) (by rw [encQ_len]; simp; omega)
      rw [encQ_len, List.length_append, List.length_singleton] at hrow
      refine ⟨_, o, _, ?_, hrow, .inl rfl, fun p hp => upd_ne hp⟩
      rw [encQ_append]
      have h3 : (l.length + 1) * 3 = l.length * 3 + 3 := by omega
      simp only [h3]
      simp [appendO, hs, h, hv, hle, growO, hf, ht2, encQ]
theorem appendR_line {H : Hp} {v : AV} {l : List Qu} {o : Option Oid} (h : LineAt H v l o) {q : Oid} {x : Qu} (hq : H q = some (.cells [.d (.int .i64 x.id), .d (.int .i64 x.dl), .d (.int .i64 x.tn)])) (id : Nat) (hsz : l.length < 64) :
    ∃ ver o' H', appendO Try.prog H id 65 65 v (.osl q 0 1 3 3) = some (.osl o' 0 (l.length + 1) 3 ver, H') ∧ LineAt H' (.osl o' 0 (l.length + 1) 3 ver) (l ++ [x]) (some o') ∧ (o = some o' ∨ o = none ∧ o' = (id, 0)) ∧ (∀ p, p ≠ o' → H' p = H p) :=
  appendR_src h (by simp [srcCells, srcRaw, hq]) id hsz
theorem appendR_lit {H : Hp} {v : AV} {l : List Qu} {o : Option Oid} (h : LineAt H v l o) {x : Qu} (id : Nat) (hsz : l.length < 64) :
    ∃ ver o' H', appendO Try.prog H id 65 65 v (.d (.sl [.int .i64 x.id, .int .i64 x.dl, .int .i64 x.tn] 1 false (some false))) = some (.osl o' 0 (l.length + 1) 3 ver, H') ∧ LineAt H' (.osl o' 0 (l.length + 1) 3 ver) (l ++ [x]) (some o') ∧ (o = some o' ∨ o = none ∧ o' = (id, 0)) ∧ (∀ p, p ≠ o' → H' p = H p) :=
  appendR_src h (by simp [srcCells, srcRaw]) id hsz
theorem newR_ok (H : Hp) (nx n w : Nat) (h1 : 1 ≤ n) (h2 : n ≤ 16) (h3 : 1 ≤ w) (h4 : w ≤ 16) :
    ∃ H' nx' oS oL vs os, acall Try.prog plc 10 [.d (.int .i64 n), .d (.int .i64 w)] H nx = some (.ptr oS 0 3, H', nx') ∧ nx ≤ nx' ∧ SchH H' nx' oS oL vs os ⟨w, 0, List.replicate n []⟩ ∧ (∀ p : Oid, p.1 < nx → H' p = H p) ∧ ∀ p, Foot oS oL os p → nx ≤ p.1 := by
  have a1 : ¬ (n : Int) < 1 := by omega
  have a2 : ¬ (16 : Int) < n := by omega
  have a3 : ¬ (w : Int) < 1 := by omega
  have a4 : ¬ (16 : Int) < w := by omega
  have a5 : (n : Int) ≤ 1099511627776 := by omega
  refine ⟨upd (upd H (nx + 17, 0) (.cells (List.replicate n (.d (.sl [] 0 true (some true)))))) (nx + 19, 0) (.cells [.d (.int .i64 w), .d (.int .i64 0), .osl (nx + 17, 0) 0 n 1 n]), nx + 21, (nx + 19, 0), (nx + 17, 0), List.replicate n (.d (.sl [] 0 true (some true))), List.replicate n none, acall_body code10 ?_, by omega, ?_, ?_, ?_⟩
  · simp [a1, a2, a3, a4, a5, Nat.add_assoc]
  · refine ⟨by simp, by simp, by simp, by simp, fun t v l o e1 e2 e3 => ?_, fun a b o e1 => ?_, by simp, by simp, fun t o e => ?_, by simp, fun t o e => ?_, fun t o e => ?_⟩
    · have e1 := List.mem_of_getElem? e1
      have e2 := List.mem_of_getElem? e2
      have e3 := List.mem_of_getElem? e3
      simp at e1 e2 e3
      obtain ⟨_, rfl⟩ := e1; obtain ⟨_, rfl⟩ := e2; obtain ⟨_, rfl⟩ := e3
      exact .nil
    all_goals (have e := List.mem_of_getElem? ‹_ = some (some _)›; simp at e)
  · intro p hp; rw [upd_old (by omega), upd_old (by omega)]
  · rintro p (rfl | rfl | hp)
    · simp
    · simp
    · simp at hp
theorem newR_bad (H : Hp) (nx : Nat) (n w : Int) (h : n < 1 ∨ 16 < n ∨ w < 1 ∨ 16 < w) : ∃ nx', acall Try.prog plc 10 [.d (.int .i64 n), .d (.int .i64 w)] H nx = some (.d .nilptr, H, nx') := by
  refine ⟨nx + 16, acall_body code10 ?_⟩
  by_cases h1 : n < 1
  · simp [h1]
  by_cases h2 : 16 < n
  · simp [h1, h2]
  by_cases h3 : w < 1
  · simp [h1, h2, h3]
  by_cases h4 : 16 < w
  · simp [h1, h2, h3, h4]
  · omega
theorem addR_ok {H : Hp} {N : Nat} {oS oL : Oid} {vs : List AV} {os : List (Option Oid)} {S : Sc} (h : SchH H N oS oL vs os S) (nx : Nat) (hN : N ≤ nx) (hn : S.lines.length ≤ 16) (t id d : Int) :
    ∃ H' nx' vs' os', acall Try.prog plc 11 [.ptr oS 0 3, .d (.int .i64 t), .d (.int .i64 id), .d (.int .i64 d)] H nx = some (.d (.int .i64 (S.add t id d).2), H', nx') ∧ Did H nx oS oL os (S.add t id d).1 H' nx' vs' os' := by
  have hroot := h.root
  have htab := h.tab
  obtain ⟨x, is, hre, hwk⟩ := h.reify 3
  simp only [Nat.reduceAdd] at hre
  have his := isR_ok S t
  have same : ∀ nx', nx ≤ nx' → Did H nx oS oL os S H nx' vs os := fun nx' hn => ⟨hn, h.mono (by omega), fun _ _ _ => rfl, fun p hp => .inl hp⟩
  unfold Sc.add
  cases hT : S.isT t
  · rw [hT] at his
    simp only [true_or, if_true]
    refine ⟨H, _, vs, os, acall_body code11 ?_, same (nx + 10) (by omega)⟩
    simp [plc_raw, hre, reify_d, hwk, his, -reify]
  rw [hT] at his
  obtain ⟨n, rfl, hnl, htn⟩ := nth_get hT
  simp only [Bool.true_eq_false, false_or]
  by_cases hd : d < 0
  · rw [if_pos hd]
    refine ⟨H, _, vs, os, acall_body code11 ?_, same (nx + 10) (by omega)⟩
    simp [plc_raw, hre, reify_d, hwk, his, hd, -reify]
  rw [if_neg hd]
  obtain ⟨v, l, o, hv, hl, ho, hline⟩ := h.get hnl
  have hle := hline.le
  have hfd := atR_ok S n l id hl (by omega) (by omega)
  have hline' : S.line n = l := by simp [Sc.line, hl]
  rw [hline']
  cases hq : findQ l id with
  | some i =>
    rw [hq] at hfd
    have hi0 : (0 : Int) ≤ (i : Int) := by omega
    simp only [Option.isSome_some, if_true]
    refine ⟨H, _, vs, os, acall_body code11 ?_, same (nx + 15) (by omega)⟩
    simp [plc_raw, hre, reify_d, hwk, his, hd, hfd, hi0, -reify]
  | none =>
    rw [hq] at hfd
    simp only [Option.isSome_none, Bool.false_eq_true, if_false]
    have hni : (n : Int) < (S.lines.length : Int) := by omega
    have hve : ∀ h : n < vs.length, vs[n]'h = v := fun h => (List.getElem?_eq_some_iff.1 hv).2
    have hvl := h.vlen
    by_cases hf : 64 ≤ l.length
    · rw [if_pos hf]
      have hfi : (64 : Int) ≤ l.length := by omega
      refine ⟨H, _, vs, os, acall_body code11 ?_, same (nx + 24) (by omega)⟩
      cases hline with
      | nil => simp at hf
      | vn o h => simp at hf
      | row o l cs hc h1 h2 h3 => simp [plc_raw, hre, reify_d, hwk, his, hd, hfd, hroot, htab, hvl, hv, hve, hni, hnl, hfi, -reify]
    · rw [if_neg hf]
      have hfi : ¬ (64 : Int) ≤ l.length := by omega
      have hoq : o ≠ some (nx + 38, 0) := fun e => by rw [e] at ho; have := h.lt n _ ho; simp at this; omega
      have hline2 : LineAt (upd H (nx + 38, 0) (.cells [.d (.int .i64 id), .d (.int .i64 d), .d (.int .i64 0)])) v l o := hline.keep fun p hp => by rw [hp] at ho; have := h.lt n _ ho; rw [upd_old (by omega)]
      obtain ⟨ver, o', H1, ha, hl1, hoo, hk⟩ := appendR_line hline2 (x := ⟨id, d, 0⟩) (upd_same _ _ _) (nx + 39) (by omega)
      have hlt' : o'.1 < nx + 42 := by
        rcases hoo with e | ⟨_, e⟩
        · rw [e] at ho; have := h.lt n _ ho; omega
        · rw [e]; simp
      have hne : ∀ p, Foot oS oL os p → o ≠ some p → p ≠ o' := fun p hp h1 e => by
        rcases hoo with e1 | ⟨_, e1⟩
        · exact h1 (by rw [e, e1])
        · have := h.foot_lt hp; rw [e, e1] at this; simp at this; omega
      have hS : H1 oS = H oS := (hk oS (hne oS (.inl rfl) fun e => by rw [e] at ho; exact h.neS n _ ho rfl)).trans (upd_old (by have := h.ltS; omega) _ _ _)
      have hL : H1 oL = H oL := (hk oL (hne oL (.inr (.inl rfl)) fun e => by rw [e] at ho; exact h.neL n _ ho rfl)).trans (upd_old (by have := h.ltL; omega) _ _ _)
      have f1 : ∀ k j x, upd H (nx + k, j) x oS = H oS := fun k j x => upd_old (by have := h.ltS; omega) _ _ _
      have f2 : ∀ k j x, upd H (nx + k, j) x oL = H oL := fun k j x => upd_old (by have := h.ltL; omega) _ _ _
      have hset : vs.set n (.osl o' 0 (l.length + 1) 3 ver) = vs.take n ++ .osl o' 0 (l.length + 1) 3 ver :: vs.drop (n + 1) := by rw [List.set_eq_take_append_cons_drop, if_pos (by omega)]
      have hn1 : n + 1 ≤ S.lines.length := hnl
      refine ⟨upd H1 oL (.cells (vs.set n (.osl o' 0 (l.length + 1) 3 ver))), nx + 43, vs.set n (.osl o' 0 (l.length + 1) 3 ver), os.set n (some o'), acall_body code11 ?_, by omega, ?_, ?_, ?_⟩
      · rw [hset]
        cases hline with
        | nil => simp [plc_raw, hre, reify_d, hwk, his, hd, hfd, hroot, htab, hvl, hv, hve, hni, hnl, hn1, hfi, f1, f2, ha, hS, hL, Nat.add_assoc, -reify]
        | vn o h => simp [plc_raw, hre, reify_d, hwk, his, hd, hfd, hroot, htab, hvl, hv, hve, hni, hnl, hn1, hfi, f1, f2, ha, hS, hL, Nat.add_assoc, -reify]
        | row o l cs hc h1 h2 h3 => simp [plc_raw, hre, reify_d, hwk, his, hd, hfd, hroot, htab, hvl, hv, hve, hni, hnl, hn1, hfi, f1, f2, ha, hS, hL, Nat.add_assoc, -reify]
      · refine h.set (H' := upd H1 oL (.cells (vs.set n (.osl o' 0 (l.length + 1) 3 ver)))) (M := nx + 43) hnl ho (by omega) (fun p hp => ?_) (upd_same _ _ _) (hl1.keep fun p hp => ?_) (fun p hp h1 h2 => ?_)
        · cases hp
          refine ⟨?_, by omega⟩
          rcases hoo with e | ⟨_, e⟩
          · exact .inl e
          · rw [e]; exact .inr (by simp only; omega)
        · cases hp
          refine upd_ne ?_
          rcases hoo with e | ⟨_, e⟩
          · rw [e] at ho; exact h.neL n _ ho
          · rw [e]; exact fun e2 => by have := h.ltL; rw [← e2] at this; simp at this; omega
        · rw [upd_ne h1, hk p (fun e => ?_), upd_old (by omega)]
          rcases hoo with e1 | ⟨_, e1⟩
          · exact h2 (by rw [e, e1])
          · rw [e, e1] at hp; simp at hp; omega
      · intro p hp hF
        rw [upd_ne (fun e => hF (.inr (.inl e))), hk p (fun e => ?_), upd_old (by omega)]
        rcases hoo with e1 | ⟨_, e1⟩
        · exact hF (.inr (.inr (by rw [e, ← e1]; exact List.mem_of_getElem? ho)))
        · rw [e, e1] at hp; simp at hp; omega
      · intro p hp
        rcases List.mem_or_eq_of_mem_set hp with hp | hp
        · exact .inl hp
        · cases hp
          rcases hoo with e1 | ⟨_, e1⟩
          · exact .inl (by rw [← e1]; exact List.mem_of_getElem? ho)
          · exact .inr (by rw [e1]; simp only; omega)
end Go.Proofs.Ytnlmonokkppagaa.Am

/-
  The document's scheduler: what takes away from it. No condition.
-/
namespace Go.Proofs.Ytnlmonokkppagaa.Am
open Go Go.Proofs
set_option maxHeartbeats 4000000
set_option maxRecDepth 20000
set_option linter.unusedSimpArgs false
set_option linter.unusedVariables false
theorem upd_self {H : Hp} {o : Oid} {x : Am.Obj} (h : H o = some x) : upd H o x = H := by
  funext p; simp only [upd]; split
  · rename_i e; rw [e, h]
  · rfl
theorem appendR_rows {H : Hp} {p o : Oid} {a b : List Qu} {cs : List D} {off : Nat} (hp : H p = some (.grow ((encQ a).map .d))) (ho : H o = some (.grow (cs.map .d))) (hb : (cs.drop off).take (b.length * 3) = encQ b) (hle : off + b.length * 3 ≤ cs.length) (hsz : a.length + b.length ≤ 128) (id : Nat) :
    appendO Try.prog H id 65 65 (.osl p 0 a.length 3 (a.length * 3)) (.osl o off b.length 3 cs.length) = some (.osl p 0 (a.length + b.length) 3 ((a.length + b.length) * 3), upd H p (.grow ((encQ (a ++ b)).map .d))) := by
  have h1 : List.take (b.length * 3) (List.drop off (cs.map AV.d)) = (encQ b).map .d := by rw [← List.map_drop, ← List.map_take, hb]
  have h2 := allD_mapD (encQ b)
  have h3 : a.length * 3 ≤ 68719476736 := by omega
  have h4 : b.length * 3 ≤ 68719476736 := by omega
  cases b with
  | nil =>
    have hu := upd_self hp
    simp [encQ] at h1 h2
    simp at hle
    simp [appendO, srcCells, srcRaw, hp, ho, hle, h1, h2, encQ_len, encQ, h3, hu]
  | cons y r =>
    have h5 : ¬ (r.length + 1) * 3 ≤ 0 := by omega
    have h6 : List.take (a.length * 3) ((encQ a).map AV.d) = (encQ a).map .d := List.take_of_length_le (by simp [encQ_len])
    have h7 : a.length * 3 + (r.length + 1) * 3 = (a.length + (r.length + 1)) * 3 := by omega
    have h8 : ¬ (a.length + (r.length + 1)) * 3 ≤ a.length * 3 := by omega
    have h9 : ¬ 68719476736 < (r.length + 1) * 3 := by simp at h4; omega
    rw [encQ_append]
    generalize hE : encQ (y :: r) = E at *
    have hEl : E.length = (r.length + 1) * 3 := by rw [← hE, encQ_len]; simp
    simp only [List.length_cons] at h1 hle h4
    simp [appendO, srcCells, srcRaw, hp, ho, hle, h1, h2, encQ_len, hEl, h3, h4, h5, h6, h7, h8, h9, growO]
theorem remR_ok {H : Hp} {N : Nat} {oS oL : Oid} {vs : List AV} {os : List (Option Oid)} {S : Sc} (h : SchH H N oS oL vs os S) (nx : Nat) (hN : N ≤ nx) (hn : S.lines.length ≤ 16) (t id : Int) :
    ∃ H' nx' vs' os', acall Try.prog plc 13 [.ptr oS 0 3, .d (.int .i64 t), .d (.int .i64 id)] H nx = some (.d (.int .i64 (S.rem t id).2), H', nx') ∧ Did H nx oS oL os (S.rem t id).1 H' nx' vs' os' := by
  have hroot := h.root
  have htab := h.tab
  obtain ⟨x, is, hre, hwk⟩ := h.reify 3
  simp only [Nat.reduceAdd] at hre
  have his := isR_ok S t
  have same : ∀ nx', nx ≤ nx' → Did H nx oS oL os S H nx' vs os := fun nx' hn => ⟨hn, h.mono (by omega), fun _ _ _ => rfl, fun p hp => .inl hp⟩
  unfold Sc.rem
  cases hT : S.isT t
  · rw [hT] at his
    simp only [if_true]
    refine ⟨H, _, vs, os, acall_body code13 ?_, same (nx + 6) (by omega)⟩
    simp [plc_raw, hre, reify_d, hwk, his, -reify]
  rw [hT] at his
  obtain ⟨n, rfl, hnl, htn⟩ := nth_get hT
  simp only [Bool.true_eq_false, if_false]
  obtain ⟨v, l, o, hv, hl, ho, hline⟩ := h.get hnl
  have hle := hline.le
  have hfd := atR_ok S n l id hl (by omega) (by omega)
  have hline' : S.line n = l := by simp [Sc.line, hl]
  rw [hline']
  have hvl := h.vlen
  cases hq : findQ l id with
  | none =>
    rw [hq] at hfd
    simp only
    refine ⟨H, _, vs, os, acall_body code13 ?_, same (nx + 13) (by omega)⟩
    simp [plc_raw, hre, reify_d, hwk, his, hfd, -reify]
  | some i =>
    rw [hq] at hfd
    obtain ⟨a, q, b, hl2, ha, her⟩ := findQ_split hq
    simp only [her]
    subst hl2
    subst ha
    have hi0 : ¬ (a.length : Int) < 0 := by omega
    have hni : (n : Int) < (S.lines.length : Int) := by omega
    have hve : ∀ h : n < vs.length, vs[n]'h = v := fun h => (List.getElem?_eq_some_iff.1 hv).2
    have hL : (a ++ q :: b).length = a.length + b.length + 1 := by simp; omega
    have hn1 : n + 1 ≤ S.lines.length := hnl
    have f1 : ∀ k j x (K : Hp), upd K (nx + k, j) x oS = K oS := fun k j x K => upd_old (by have := h.ltS; omega) _ _ _
    have f2 : ∀ k j x (K : Hp), upd K (nx + k, j) x oL = K oL := fun k j x K => upd_old (by have := h.ltL; omega) _ _ _
    generalize hll : a ++ q :: b = l at *
    cases hline with
    | nil => simp at hL
    | vn o h => simp at hL
    | row o l cs hc h1 h2 h3 =>
      have hon := h.lt n o ho
      have f3 : ∀ k j x (K : Hp), upd K (nx + k, j) x o = K o := fun k j x K => upd_old (by omega) _ _ _
      have hcl : (a.length + b.length + 1) * 3 ≤ cs.length := by rw [← hL]; exact h1
      have ha3 : a.length * 3 ≤ cs.length := by omega
      have t1 : (cs.drop 0).take (a.length * 3) = encQ a := by
        have := congrArg (List.take (a.length * 3)) h2
        rw [List.take_take, Nat.min_eq_left (by rw [hL]; omega), encQ_take, ← hll] at this
        simpa using this
      have t2 : (cs.drop ((a.length + 1) * 3)).take (b.length * 3) = encQ b := by
        have := congrArg (List.drop ((a.length + 1) * 3)) h2
        rw [List.drop_take, encQ_drop, hL, ← hll] at this
        rw [show (a.length + b.length + 1) * 3 - (a.length + 1) * 3 = b.length * 3 by omega] at this
        rw [this]; simp
      obtain ⟨K0, hK0⟩ : ∃ K0 : Hp, K0 = upd H (nx + 17, 0) (.grow []) := ⟨_, rfl⟩
      have ko : K0 o = H o := by rw [hK0]; exact f3 _ _ _ _
      have k0 : K0 (nx + 17, 0) = some (.grow ((encQ []).map .d)) := by rw [hK0]; exact upd_same _ _ _
      have p1 := appendR_rows (a := []) (b := a) (off := 0) k0 (ko.trans hc) t1 (by omega) (by simp; omega) (nx + 27)
      obtain ⟨K1, hK1⟩ : ∃ K1 : Hp, K1 = upd K0 (nx + 17, 0) (.grow ((encQ ([] ++ a)).map .d)) := ⟨_, rfl⟩
      have k1 : K1 (nx + 17, 0) = some (.grow ((encQ a).map .d)) := by rw [hK1]; exact upd_same _ _ _
      have ko1 : K1 o = H o := by rw [hK1]; exact (f3 _ _ _ _).trans ko
      have p2 := appendR_rows (a := a) (b := b) (off := (a.length + 1) * 3) k1 (ko1.trans hc) t2 (by omega) (by omega) (nx + 38)
      obtain ⟨K2, hK2⟩ : ∃ K2 : Hp, K2 = upd K1 (nx + 17, 0) (.grow ((encQ (a ++ b)).map .d)) := ⟨_, rfl⟩
      have hw : IntKind.i64.wrap ((a.length : Int) + 1) = (a.length : Int) + 1 := wrap_i64 (by omega) (by rw [hL] at hle; omega)
      simp only [List.length_nil, Nat.zero_add, Nat.zero_mul] at p1
      rw [← hK1] at p1
      rw [← hK2] at p2
      have s0 : K0 oS = H oS := by rw [hK0]; exact f1 _ _ _ _
      have s1 : K1 oS = H oS := by rw [hK1]; exact (f1 _ _ _ _).trans s0
      have s2 : K2 oS = H oS := by rw [hK2]; exact (f1 _ _ _ _).trans s1
      have l0 : K0 oL = H oL := by rw [hK0]; exact f2 _ _ _ _
      have l1 : K1 oL = H oL := by rw [hK1]; exact (f2 _ _ _ _).trans l0
      have l2 : K2 oL = H oL := by rw [hK2]; exact (f2 _ _ _ _).trans l1
      have hrow := LineAt.row (H := K2) (nx + 17, 0) (a ++ b) (encQ (a ++ b)) (by rw [hK2]; exact upd_same _ _ _) (by rw [encQ_len]; exact Nat.le_refl _) (by rw [List.take_of_length_le (by rw [encQ_len]; exact Nat.le_refl _)]) (by rw [encQ_len]; simp; omega)
      rw [encQ_len, List.length_append] at hrow
      have hset : vs.set n (.osl (nx + 17, 0) 0 (a.length + b.length) 3 ((a.length + b.length) * 3)) = vs.take n ++ .osl (nx + 17, 0) 0 (a.length + b.length) 3 ((a.length + b.length) * 3) :: vs.drop (n + 1) := by rw [List.set_eq_take_append_cons_drop, if_pos (by omega)]
      refine ⟨upd K2 oL (.cells (vs.set n (.osl (nx + 17, 0) 0 (a.length + b.length) 3 ((a.length + b.length) * 3)))), _, vs.set n (.osl (nx + 17, 0) 0 (a.length + b.length) 3 ((a.length + b.length) * 3)), os.set n (some (nx + 17, 0)), acall_body code13 ?_, Did.of_line h hN hnl ho (nx1 := nx + 42) (fun p hp hq => ?_) hrow (fun p hp => ⟨.inr (by cases hp; simp), by cases hp; simp⟩) (by omega)⟩
      · rw [hset]
        have i1 : (a.length : Int) ≤ (l.length : Int) := by omega
        have q1 : (0 : Int) ≤ (a.length : Int) + 1 := by omega
        have q2 : a.length + 1 ≤ a.length + (b.length + 1) := by omega
        have q3 : (a.length + (b.length + 1)) * 3 ≤ cs.length := by omega
        have q4 : a.length + (b.length + 1) - (a.length + 1) = b.length := by omega
        have hc0 := ko.trans hc
        have hc1 := ko1.trans hc
        simp [plc_raw, hre, reify_d, hwk, his, hfd, hroot, htab, hvl, hv, hve, hni, hnl, hn1, hi0, hL, hw, p1, p2, hc0, hc1, q1, q2, q3, q4, ← hK0, s0, s1, s2, l0, l1, l2, hcl, ha3, Nat.add_assoc, -reify]
      · rw [hK2, upd_old (by omega), hK1, upd_old (by omega), hK0, upd_old (by omega)]
end Go.Proofs.Ytnlmonokkppagaa.Am

/-
  The document's scheduler: which queries a line has. No condition.
-/
namespace Go.Proofs.Ytnlmonokkppagaa.Am
open Go Go.Proofs
set_option maxHeartbeats 4000000
set_option maxRecDepth 20000
set_option linter.unusedSimpArgs false
set_option linter.unusedVariables false
abbrev quRT (oS : Oid) (t : Int) (r : AV) (o : Oid) (L : List Int) (i : Nat) : List AV := [.ptr oS 0 3, .d (.int .i64 t), .junk, .junk, r, idsA o L, .d (.int .i64 i), .junk, .junk, .junk, .junk, .junk, .junk, .junk, .junk, .junk, .junk, .junk, .junk, .junk, .junk, .junk, .junk, .junk, .junk, .junk, .junk, .junk, .junk, .junk, .junk, .junk, .junk, .junk, .junk, .junk, .junk, .junk, .junk]
def QuREnd (H0 : Hp) (b m : Nat) (o : Oid) (tm : List AV) (L : List Int) (e : Ex) (st : St) : Prop := b ≤ st.nx ∧ e = .exit 0 ∧ st.tm = tm ∧ st.hp o = some (rowJ L) ∧ ∀ p : Oid, p.1 < m → st.hp p = H0 p
theorem quR_loop {H0 : Hp} {N : Nat} {oS oL : Oid} {vs : List AV} {os : List (Option Oid)} {S : Sc} (h : SchH H0 N oS oL vs os S) {m : Nat} (hN : N ≤ m) (hn : S.lines.length ≤ 16) {t : Nat} (hT : S.isT t = true) (r : AV) {o : Oid} {b : Nat} (hm : m ≤ o.1) (hob : o.1 < b) {H : Hp} (hH : ∀ p : Oid, p.1 < m → H p = H0 p) (ho : H o = some (rowJ [])) :
    ∃ e st, aloop Try.prog plc b19_0 ⟨[true, true, false, false, true, true, true, false, false, false, false, false, false, false, false, false, false, false, false, false, false, false, false, false, false, false, false, false, false, false, false, false, false, false, false, false, false, false, true], some b⟩ ⟨quRT oS t r o [] 0, H, b⟩ = some (e, st) ∧ QuREnd H0 b m o (quRT oS t r o (S.ids t) (S.line t).length) (S.ids t) e st := by
  obtain ⟨n, hnt, hnl, htn⟩ := nth_get hT
  have hnt : n = t := by omega
  subst hnt
  obtain ⟨v, l, oo, hv, hl, hoo, hline⟩ := h.get hnl
  have hline' : S.line n = l := by simp [Sc.line, hl]
  have hids : S.ids n = l.map Qu.id := by simp [Sc.ids, hT, hline']
  rw [hids, hline']
  have hle := hline.le
  have his := isR_ok S n
  rw [hT] at his
  have hvl := h.vlen
  have fS := h.ltS; have fL := h.ltL
  have hve : ∀ h : n < vs.length, vs[n]'h = v := fun h => (List.getElem?_eq_some_iff.1 hv).2
  have hni : (n : Int) < (S.lines.length : Int) := by omega
  have key := loop_rule (P := Try.prog) (pol := plc) (c := b19_0) (m := ⟨[true, true, false, false, true, true, true, false, false, false, false, false, false, false, false, false, false, false, false, false, false, false, false, false, false, false, false, false, false, false, false, false, false, false, false, false, false, false, true], some b⟩)
    (b := b) (tm := fun (s : IxS) => quRT oS n r o ((l.take s.i).map Qu.id) s.i) (Hf := fun s => s.H)
    (I := fun s => s.i ≤ l.length ∧ Same m s.H H0 ∧ s.H o = some (rowJ ((l.take s.i).map Qu.id))) (μ := fun s => l.length - s.i) (res := fun _ => ()) (R := fun _ => QuREnd H0 b m o (quRT oS n r o (l.map Qu.id) l.length) (l.map Qu.id))
    (fun s nx1 hI => by
      obtain ⟨hi, hk, hr⟩ := hI
      have hs : SchH s.H N oS oL vs os S := h.keep fun p hp => hk p (by have := h.foot_lt hp; omega)
      obtain ⟨x, is, hre, hwk⟩ := hs.reify 3
      simp only [Nat.reduceAdd] at hre
      have zr := hs.root
      have zt := hs.tab
      have hbel : ∀ p : Oid, p.1 < m → below b s.H p = H0 p := fun p hp => by rw [below_lt (by omega)]; exact hk p hp
      rcases Nat.lt_or_ge s.i l.length with hl2 | hl2
      · obtain ⟨q, a⟩ := q_at (by omega) hl2
        have hL : (l.take (s.i + 1)).map Qu.id = (l.take s.i).map Qu.id ++ [q.id] := by rw [take_succ a.get]; simp
        cases hline with
        | nil => simp at hl2
        | vn => simp at hl2
        | row o1 l cs hc hv2 ht hb =>
          have hrow := row_at hv2 ht a
          have hc1 : s.H o1 = some (.grow (cs.map .d)) := (hk o1 (by have := h.lt n o1 hoo; omega)).trans hc
          have ha1 : s.i * 3 + 3 ≤ cs.length := by have := a.ltm; omega
          have ha2 : s.i * 3 ≤ cs.length := by omega
          have ha3 : s.i * 3 + 1 ≤ cs.length := by omega
          have hrow1 : cs[s.i * 3]? = some (D.int .i64 q.id) := by
            have hx := congrArg (fun z => z[0]?) hrow
            simp only [List.getElem?_take, List.getElem?_drop, List.getElem?_map, Nat.add_zero] at hx
            cases hcs : cs[s.i * 3]? with
            | none => rw [hcs] at hx; simp at hx
            | some c => rw [hcs] at hx; simpa using hx
          obtain ⟨Ha, hHa⟩ : ∃ Ha : Hp, Ha = upd s.H (nx1 + (b + 27), 0) (.cells [.d (.int .i64 q.id)]) := ⟨_, rfl⟩
          have kA : ∀ p : Oid, p.1 < b → Ha p = s.H p := fun p hp => by rw [hHa, upd_old (by omega)]
          have happ := append_id (id := nx1 + (b + 28)) (o := o) (q := (nx1 + (b + 27), 0)) (l := (l.take s.i).map Qu.id) (x := q.id) (H := Ha) ((kA o hob).trans hr) (by rw [hHa]; exact upd_same _ _ _) (by simp; omega)
          rw [← hL] at happ
          obtain ⟨W, hW⟩ : ∃ W, W = rowJ ((l.take (s.i + 1)).map Qu.id) := ⟨_, rfl⟩
          have e1 : ((l.take s.i).map Qu.id).length = s.i := by simp; omega
          have e2 : ((l.take (s.i + 1)).map Qu.id).length = s.i + 1 := by simp; omega
          have hmin : min s.i l.length = s.i := by omega
          simp only [idsA] at happ
          rw [← hW, e1, e2] at happ
          conv => arg 9; arg 4; unfold b19_0
          simp [plc_raw, hre, reify_d, hwk, his, zr, zt, hvl, hv, hve, hni, hnl, a.lti, a.ltm, hc1, hrow1, ha1, ha2, ha3, a.w, Nat.add_assoc, idsA, ← hHa, hmin, happ, -reify]
          refine .next (IxS.mk (s.i + 1) (below b (upd Ha o W))) (by omega) ?_ rfl ⟨hl2, fun p hp => ?_, ?_⟩ (by simp only; omega) rfl
          · have e3 : min (s.i + 1) l.length = s.i + 1 := by omega
            simp [idsA, e3]
          · show below b (upd Ha o W) p = _
            rw [below_lt (by omega), upd_ne (fun e => by rw [e] at hp; omega), kA p (by omega)]; exact hk p hp
          · show below b (upd Ha o W) o = _
            rw [below_lt hob, upd_same, hW]; simp
      · have hie : s.i = l.length := Nat.le_antisymm hi hl2
        have hfin : ∀ k, QuREnd H0 b m o (quRT oS n r o (l.map Qu.id) l.length) (l.map Qu.id) (.exit 0) ⟨quRT oS n r o ((l.take s.i).map Qu.id) s.i, below b s.H, nx1 + (b + k)⟩ := fun k =>
          ⟨by simp only; omega, rfl, by simp [hie], by simp only; rw [below_lt hob, hr, hie]; simp, fun p hp => hbel p hp⟩
        conv => arg 9; arg 4; unfold b19_0
        cases hline with
        | nil =>
          simp at hie
          have hf2 := hfin 15
          simp [hie] at hf2
          simp [plc_raw, hre, reify_d, hwk, his, zr, zt, hvl, hv, hve, hni, hnl, hie, Nat.add_assoc, -reify]
          exact .fin _ _ hf2
        | vn o1 ho1 =>
          simp at hie
          have hf2 := hfin 15
          simp [hie] at hf2
          have hz1 : s.H o1 = some .vnil := (hk o1 (by have := h.lt n o1 hoo; omega)).trans ho1
          simp [plc_raw, hre, reify_d, hwk, his, zr, zt, hvl, hv, hve, hni, hnl, hie, hz1, Nat.add_assoc, -reify]
          exact .fin _ _ hf2
        | row o1 l cs hc hv2 ht hb =>
          have hf2 := hfin 15
          simp [hie] at hf2
          have hc1 : s.H o1 = some (.grow (cs.map .d)) := (hk o1 (by have := h.lt n o1 hoo; omega)).trans hc
          simp [plc_raw, hre, reify_d, hwk, his, zr, zt, hvl, hv, hve, hni, hnl, hie, hc1, Nat.add_assoc, -reify]
          exact .fin _ _ hf2) ⟨0, H⟩ ⟨Nat.zero_le _, hH, by simpa using ho⟩
  simpa using key
theorem quR_loop0 {H0 : Hp} {N : Nat} {oS oL : Oid} {vs : List AV} {os : List (Option Oid)} {S : Sc} (h : SchH H0 N oS oL vs os S) {m : Nat} (hN : N ≤ m) {t : Int} (hT : S.isT t = false) (r : AV) {o : Oid} {b : Nat} (hm : m ≤ o.1) (hob : o.1 < b) {H : Hp} (hH : ∀ p : Oid, p.1 < m → H p = H0 p) (ho : H o = some (rowJ [])) :
    ∃ e st, aloop Try.prog plc b19_0 ⟨[true, true, false, false, true, true, true, false, false, false, false, false, false, false, false, false, false, false, false, false, false, false, false, false, false, false, false, false, false, false, false, false, false, false, false, false, false, false, true], some b⟩ ⟨quRT oS t r o [] 0, H, b⟩ = some (e, st) ∧ QuREnd H0 b m o (quRT oS t r o [] 0) [] e st := by
  have his := isR_ok S t
  rw [hT] at his
  have key := loop_rule (P := Try.prog) (pol := plc) (c := b19_0) (m := ⟨[true, true, false, false, true, true, true, false, false, false, false, false, false, false, false, false, false, false, false, false, false, false, false, false, false, false, false, false, false, false, false, false, false, false, false, false, false, false, true], some b⟩)
    (b := b) (tm := fun (s : Unit) => quRT oS t r o [] 0) (Hf := fun _ => H)
    (I := fun _ => True) (μ := fun _ => 0) (res := fun _ => ()) (R := fun _ => QuREnd H0 b m o (quRT oS t r o [] 0) [])
    (fun s nx1 hI => by
      have hs : SchH H N oS oL vs os S := h.keep fun p hp => hH p (by have := h.foot_lt hp; omega)
      obtain ⟨x, is, hre, hwk⟩ := hs.reify 3
      simp only [Nat.reduceAdd] at hre
      have hfin : ∀ k, QuREnd H0 b m o (quRT oS t r o [] 0) [] (.exit 0) ⟨quRT oS t r o [] 0, below b H, nx1 + (b + k)⟩ := fun k =>
        ⟨by simp only; omega, rfl, by simp, by simp only; rw [below_lt hob, ho], fun p hp => by simp only; rw [below_lt (by omega)]; exact hH p hp⟩
      have hf2 := hfin 15
      conv => arg 9; arg 4; unfold b19_0
      simp [plc_raw, hre, reify_d, hwk, his, Nat.add_assoc, -reify]
      exact .fin _ _ hf2) () trivial
  simpa using key
theorem queriesR_ok {H : Hp} {N : Nat} {oS oL : Oid} {vs : List AV} {os : List (Option Oid)} {S : Sc} (h : SchH H N oS oL vs os S) (nx : Nat) (hN : N ≤ nx) (hn : S.lines.length ≤ 16) (t : Int) :
    ∃ H' nx', acall Try.prog plc 19 [.ptr oS 0 3, .d (.int .i64 t)] H nx = some (idsA (nx + 1, 1) (S.ids t), H', nx') ∧ nx + 2 ≤ nx' ∧ H' (nx + 1, 1) = some (rowJ (S.ids t)) ∧ ∀ p : Oid, p.1 < nx → H' p = H p := by
  obtain ⟨Hz, hHz⟩ : ∃ Hz : Hp, Hz = upd (upd H (nx, 1) .vnil) (nx + 1, 1) .vnil := ⟨_, rfl⟩
  have kz : ∀ p : Oid, p.1 < nx → Hz p = H p := fun p hp => by rw [hHz, upd_old (by omega), upd_old (by omega)]
  have ho : Hz (nx + 1, 1) = some (rowJ []) := by rw [hHz, upd_same]; rfl
  cases hT : S.isT t with
  | false =>
    have hids : S.ids t = [] := by simp [Sc.ids, hT]
    rw [hids]
    obtain ⟨e, st, hrun, hq1, rfl, htm, hq2, hq3⟩ := quR_loop0 h hN hT (.osl (nx, 1) 0 0 1 0) (o := (nx + 1, 1)) (b := nx + 3) (by simp only; omega) (by simp only; omega) (H := Hz) kz ho
    obtain ⟨tm, Hq, nq⟩ := st
    simp only at htm hq1 hq2 hq3
    subst htm
    refine ⟨Hq, nq + 2, acall_body code19 ?_, by omega, hq2, hq3⟩
    simp only [quRT, idsA, Int.natCast_zero, List.length_nil] at hrun
    simp [plc_raw, ← hHz, hrun, idsA, Nat.add_assoc]
  | true =>
    obtain ⟨n, rfl, hnl, htn⟩ := nth_get hT
    obtain ⟨e, st, hrun, hq1, rfl, htm, hq2, hq3⟩ := quR_loop h hN hn hT (.osl (nx, 1) 0 0 1 0) (o := (nx + 1, 1)) (b := nx + 3) (by simp only; omega) (by simp only; omega) (H := Hz) kz ho
    obtain ⟨tm, Hq, nq⟩ := st
    simp only at htm hq1 hq2 hq3
    subst htm
    refine ⟨Hq, nq + 2, acall_body code19 ?_, by omega, hq2, hq3⟩
    simp only [quRT, idsA, Int.natCast_zero, List.length_nil] at hrun
    simp [plc_raw, ← hHz, hrun, idsA, Nat.add_assoc]
end Go.Proofs.Ytnlmonokkppagaa.Am

/-
  The scheduler's laws: are rows of runs the same? No condition.
-/
namespace Go.Proofs.Ytnlmonokkppagaa.Am
open Go Go.Proofs
set_option maxHeartbeats 4000000
set_option maxRecDepth 20000
set_option linter.unusedSimpArgs false
set_option linter.unusedVariables false
abbrev smT (x y : List Rn) (i : Nat) : List AV := [.d (dR x), .d (dR y), .junk, .junk, .d (.bool false), .d (.int .i64 i), .junk, .junk, .junk, .junk, .junk, .junk, .junk, .junk, .junk, .junk, .junk, .junk, .junk, .junk, .junk, .junk, .junk, .junk, .junk, .junk, .junk, .junk, .junk, .junk, .junk, .junk, .junk, .junk, .junk, .junk, .junk, .junk, .junk, .junk, .junk, .junk, .junk, .junk, .junk, .junk, .junk, .junk, .junk, .junk, .junk, .junk, .junk, .junk]
def SmEnd (x y : List Rn) (e : Ex) (st : St) : Prop := (e = .exit 0 ∧ x = y ∧ st.tm = smT x y x.length) ∨ (e = .ret ∧ x ≠ y ∧ st.tm[4]? = some (.d (.bool false)))
theorem sm0 (x y : List Rn) (hl : x.length = y.length) (hn : x.length ≤ 1048576) (n : Nat) :
    ∃ e st, aloop Try.prog plc b15_0 ⟨[true, true, false, false, true, true, false, false, false, false, false, false, false, false, false, false, false, false, false, false, false, false, false, false, false, false, false, false, false, false, false, false, false, false, false, false, false, false, false, false, false, false, false, false, false, false, false, false, false, false, false, false, false, false], some n⟩ ⟨smT x y 0, fun _ => none, n⟩ = some (e, st) ∧ SmEnd x y e st := by
  have key := loop_rule (P := Try.prog) (pol := plc) (c := b15_0) (m := ⟨[true, true, false, false, true, true, false, false, false, false, false, false, false, false, false, false, false, false, false, false, false, false, false, false, false, false, false, false, false, false, false, false, false, false, false, false, false, false, false, false, false, false, false, false, false, false, false, false, false, false, false, false, false, false], some n⟩)
    (b := n) (tm := fun (i : Nat) => smT x y i) (Hf := fun _ => fun _ => none)
    (I := fun i => i ≤ x.length ∧ x.take i = y.take i) (μ := fun i => x.length - i) (res := fun _ => ()) (R := fun _ => SmEnd x y)
    (fun i nx hI => by
      obtain ⟨hi, hI⟩ := hI
      rcases Nat.lt_or_ge i x.length with hlt | hlt
      · obtain ⟨t, z, k, q⟩ := r_at (by omega) hlt
        obtain ⟨t2, z2, k2, q2⟩ := r_at (l := y) (by omega) (by omega : i < y.length)
        have tx : x.take (i + 1) = x.take i ++ [(t, z, k)] := by rw [List.take_add_one, q.get]; rfl
        have ty : y.take (i + 1) = y.take i ++ [(t2, z2, k2)] := by rw [List.take_add_one, q2.get]; rfl
        have l2 : 2 ≤ y.length * 3 - i * 3 := by omega
        by_cases e1 : t = t2
        · by_cases e2 : z = z2
          · by_cases e3 : k = k2
            · subst e1; subst e2; subst e3
              conv => arg 9; arg 4; unfold b15_0
              simp [plc_raw, q.lti, q.len, q.ltm, q.le1, q.le3, q.dr, q2.lti, q2.len, q2.ltm, q2.le1, q2.le3, q2.dr, q.w, Nat.add_assoc, hl, l2]
              exact .next (i + 1) (by omega) (by simp) rfl ⟨by omega, by rw [tx, ty, hI]⟩ (by omega) rfl
            · subst e1; subst e2
              conv => arg 9; arg 4; unfold b15_0
              simp [plc_raw, q.lti, q.len, q.ltm, q.le1, q.le3, q.dr, q2.lti, q2.len, q2.ltm, q2.le1, q2.le3, q2.dr, q.w, Nat.add_assoc, hl, l2, e3]
              refine .fin _ _ (.inr ⟨rfl, fun e => ?_, rfl⟩)
              subst e; rw [tx] at ty; simp at ty; exact e3 ty
          · subst e1
            conv => arg 9; arg 4; unfold b15_0
            simp [plc_raw, q.lti, q.len, q.ltm, q.le1, q.le3, q.dr, q2.lti, q2.len, q2.ltm, q2.le1, q2.le3, q2.dr, q.w, Nat.add_assoc, hl, l2, e2]
            refine .fin _ _ (.inr ⟨rfl, fun e => ?_, rfl⟩)
            subst e; rw [tx] at ty; simp at ty; exact e2 ty.1
        · conv => arg 9; arg 4; unfold b15_0
          simp [plc_raw, q.lti, q.len, q.ltm, q.le1, q.le3, q.dr, q2.lti, q2.len, q2.ltm, q2.le1, q2.le3, q2.dr, q.w, Nat.add_assoc, hl, l2, e1]
          refine .fin _ _ (.inr ⟨rfl, fun e => ?_, rfl⟩)
          subst e; rw [tx] at ty; simp at ty; exact e1 ty.1
      · obtain rfl : i = x.length := Nat.le_antisymm hi hlt
        have hxy : x = y := by rw [List.take_of_length_le (Nat.le_refl _), List.take_of_length_le (by omega)] at hI; exact hI
        subst hxy
        simp [b15_0]
        exact .fin _ _ (.inl ⟨rfl, rfl, by simp⟩)) 0 ⟨Nat.zero_le _, rfl⟩
  simpa using key
theorem same_ok (x y : List Rn) (hx : x.length ≤ 1048576) : pcl Cp 15 [dR x, dR y] = some (.bool (decide (x = y))) := by
  refine pcl_body code15 ?_
  by_cases hl : x.length = y.length
  · obtain ⟨e, st, h1, h2⟩ := sm0 x y hl hx 7
    simp only [smT, Int.natCast_zero] at h1
    rcases h2 with ⟨rfl, he, htm⟩ | ⟨rfl, he, htm⟩
    · rw [show decide (x = y) = true from decide_eq_true he]
      simp [plc_raw, hl, h1, htm, Nat.add_assoc]
    · simp [plc_raw, hl, h1, htm, he, Nat.add_assoc]
  · have hl2 : ¬ (x.length : Int) = y.length := by omega
    have he : x ≠ y := fun e => hl (by rw [e])
    simp [plc_raw, hl, hl2, he]
end Go.Proofs.Ytnlmonokkppagaa.Am

/-
  The document's scheduler: a tick's inner loop. No condition.
-/
namespace Go.Proofs.Ytnlmonokkppagaa.Am
open Go Go.Proofs
set_option maxHeartbeats 4000000
set_option maxRecDepth 20000
set_option linter.unusedSimpArgs false
set_option linter.unusedVariables false
theorem appendR_run {H : Hp} {id : Nat} {o q : Oid} {l : List Rn} {t i k : Int} (h : H o = some (runO l)) (h2 : H q = some (.cells [.d (.int .i64 t), .d (.int .i64 i), .d (.int .i64 k)])) (hl : l.length ≤ 1048576) :
    appendO Try.prog H id 41 41 (runA o l) (.osl q 0 1 3 3) = some (runA o (l ++ [(t, i, k)]), upd H o (runO (l ++ [(t, i, k)]))) := by
  cases l with
  | nil =>
    simp [runO] at h
    simp [appendO, srcCells, srcRaw, h, h2, runA, wdR, runO, growO, encR]
  | cons x r =>
    have e1 : (encR (x :: r)).length = (r.length + 1) * 3 := by rw [encR_len]; simp
    have e2 : encR (x :: (r ++ [(t, i, k)])) = encR (x :: r) ++ [.int .i64 t, .int .i64 i, .int .i64 k] := by
      rw [show x :: (r ++ [(t, i, k)]) = (x :: r) ++ [(t, i, k)] from rfl, encR_append]; simp [encR]
    generalize hE : encR (x :: r) = E at *
    simp only [List.length_cons] at hl
    have i1 : (r.length + 1) * 3 ≤ 68719476736 := by omega
    have i2 : ¬ ((r.length + 1) * 3 + 3 ≤ (r.length + 1) * 3) := by omega
    have i3 : List.take ((r.length + 1) * 3) (E.map AV.d) = E.map AV.d := List.take_of_length_le (by simp [e1])
    have i5 : ¬ (r.length + 2) * 3 ≤ (r.length + 1) * 3 := by omega
    have i4 : (r.length + 1) * 3 + 3 = (r.length + 2) * 3 := by omega
    simp [runO, hE] at h
    simp [appendO, srcCells, srcRaw, h, h2, runA, wdR, runO, growO, e1, e2, hE, i1, i2, i3, i4, i5]
def wdQ (l : List Qu) : Nat := if l = [] then 1 else 3
def qA (o : Oid) (l : List Qu) : AV := .osl o 0 l.length (wdQ l) (l.length * 3)
def qO (l : List Qu) : Am.Obj := if l = [] then .vnil else .grow ((encQ l).map .d)
theorem appendR_left {H : Hp} {id : Nat} {o q : Oid} {l : List Qu} {x : Qu} (h : H o = some (qO l)) (h2 : H q = some (.cells [.d (.int .i64 x.id), .d (.int .i64 x.dl), .d (.int .i64 x.tn)])) (hl : l.length ≤ 1048576) :
    appendO Try.prog H id 65 65 (qA o l) (.osl q 0 1 3 3) = some (qA o (l ++ [x]), upd H o (qO (l ++ [x]))) := by
  cases l with
  | nil =>
    simp [qO] at h
    simp [appendO, srcCells, srcRaw, h, h2, qA, wdQ, qO, growO, encQ]
  | cons y r =>
    have e1 : (encQ (y :: r)).length = (r.length + 1) * 3 := by rw [encQ_len]; simp
    have e2 : encQ (y :: (r ++ [x])) = encQ (y :: r) ++ [.int .i64 x.id, .int .i64 x.dl, .int .i64 x.tn] := by
      rw [show y :: (r ++ [x]) = (y :: r) ++ [x] from rfl, encQ_append]; simp [encQ]
    generalize hE : encQ (y :: r) = E at *
    simp only [List.length_cons] at hl
    have i1 : (r.length + 1) * 3 ≤ 68719476736 := by omega
    have i2 : ¬ ((r.length + 1) * 3 + 3 ≤ (r.length + 1) * 3) := by omega
    have i3 : List.take ((r.length + 1) * 3) (E.map AV.d) = E.map AV.d := List.take_of_length_le (by simp [e1])
    have i5 : ¬ (r.length + 2) * 3 ≤ (r.length + 1) * 3 := by omega
    have i4 : (r.length + 1) * 3 + 3 = (r.length + 2) * 3 := by omega
    simp [qO, hE] at h
    simp [appendO, srcCells, srcRaw, h, h2, qA, wdQ, qO, growO, e1, e2, hE, i1, i2, i3, i4, i5]
theorem q_line {H : Hp} {o : Oid} {l : List Qu} (h : H o = some (qO l)) (hl : l.length ≤ 64) : LineAt H (qA o l) l (some o) := by
  cases l with
  | nil => exact .vn o h
  | cons y r =>
    have := LineAt.row (H := H) o (y :: r) (encQ (y :: r)) h (by rw [encQ_len]; exact Nat.le_refl _) (by rw [List.take_of_length_le (by rw [encQ_len]; exact Nat.le_refl _)]) (by rw [encQ_len]; omega)
    rw [encQ_len] at this
    exact this
abbrev inRT (oS : Oid) (r2 r3 rA : AV) (t : Nat) (oT oF : Oid) (L : List Rn) (F : List Qu) (i : Nat) : List AV := [.ptr oS 0 3, .junk, r2, r3, rA, runA oT L, .d (.int .i64 t), qA oF F, .d (.int .i64 i), .junk, .junk, .junk, .junk, .junk, .junk, .junk, .junk, .junk, .junk, .junk, .junk, .junk, .junk, .junk, .junk, .junk, .junk, .junk, .junk, .junk, .junk, .junk, .junk, .junk, .junk, .junk, .junk, .junk, .junk, .junk, .junk, .junk, .junk, .junk, .junk, .junk, .junk, .junk, .junk, .junk, .junk, .junk, .junk, .junk, .junk, .junk, .junk, .junk, .junk, .junk, .junk, .junk, .junk, .junk, .junk, .junk, .junk, .junk, .junk, .junk, .junk, .junk, .junk, .junk, .junk, .junk, .junk, .junk, .junk, .junk, .junk, .junk, .junk, .junk, .junk, .junk, .junk, .junk, .junk, .junk, .junk, .junk, .junk, .junk, .junk, .junk, .junk, .junk, .junk, .junk, .junk, .junk, .junk, .junk, .junk, .junk, .junk, .junk, .junk, .junk, .junk, .junk, .junk, .junk, .junk, .junk, .junk, .junk, .junk, .junk, .junk, .junk, .junk, .junk, .junk, .junk, .junk, .junk, .junk, .junk, .junk, .junk, .junk, .junk, .junk, .junk, .junk, .junk, .junk, .junk, .junk, .junk, .junk, .junk, .junk, .junk, .junk, .junk, .junk, .junk, .junk]
def lateL (now : Int) (t : Nat) (l : List Qu) : List Rn := (l.filter (Qu.over now)).map fun q => ((t : Int), q.id, (0 : Int))
def leftL (now : Int) (l : List Qu) : List Qu := l.filter fun q => !q.over now
theorem over_step {now : Int} {t : Nat} {l : List Qu} {i : Nat} {q : Qu} (h : l[i]? = some q) (ho : q.over now = true) : lateL now t (l.take (i + 1)) = lateL now t (l.take i) ++ [((t : Int), q.id, (0 : Int))] ∧ leftL now (l.take (i + 1)) = leftL now (l.take i) := by
  rw [take_succ h]; simp [lateL, leftL, ho]
theorem left_step {now : Int} {t : Nat} {l : List Qu} {i : Nat} {q : Qu} (h : l[i]? = some q) (ho : q.over now = false) : lateL now t (l.take (i + 1)) = lateL now t (l.take i) ∧ leftL now (l.take (i + 1)) = leftL now (l.take i) ++ [q] := by
  rw [take_succ h]; simp [lateL, leftL, ho]
structure InS where
  i : Nat
  H : Hp
  N : Nat
structure InI (H1 : Hp) (N1 : Nat) (oT oF : Oid) (L : List Rn) (now : Int) (t : Nat) (l : List Qu) (s : InS) : Prop where
  le : s.i ≤ l.length
  n : N1 ≤ s.N
  late : s.H oT = some (runO (L ++ lateL now t (l.take s.i)))
  left : s.H oF = some (qO (leftL now (l.take s.i)))
  fr : ∀ p : Oid, p.1 < N1 → p ≠ oT → p ≠ oF → s.H p = H1 p
theorem inR {H1 : Hp} {N1 : Nat} {oS oL : Oid} {vs : List AV} {os : List (Option Oid)} {S : Sc} (h : SchH H1 N1 oS oL vs os S) (hn : S.lines.length ≤ 16) {t : Nat} {v : AV} {l : List Qu} {o : Option Oid} (hv : vs[t]? = some v) (hl : S.lines[t]? = some l) (ho : os[t]? = some o) {oT oF : Oid} (fT : ¬ Foot oS oL os oT) (fF : ¬ Foot oS oL os oF) (hTF : oT ≠ oF) (lT : oT.1 < N1) (lF : oF.1 < N1) {L : List Rn} (hT : H1 oT = some (runO L)) (hF : H1 oF = some (qO [])) (hLl : L.length + l.length ≤ 1048576) (r2 r3 rA : AV) :
    ∃ st, aloop Try.prog plc b14_1 ⟨[true, false, true, true, true, true, true, true, true, false, true, true, false, false, false, false, false, false, false, false, false, false, false, false, false, false, false, false, false, false, false, true, true, false, false, false, false, false, false, false, false, false, false, false, false, false, false, false, false, false, false, false, false, false, false, false, false, false, false, false, false, false, false, false, false, false, false, false, false, false, false, false, false, false, false, false, false, false, true, true, true, true, true, true, true, true, true, true, true, true, true, true, true, true, true, true, true, true, true, true, true, true, true, true, true, true, true, true, true, true, true, true, true, true, true, true, true, true, true, true, true, true, true, true, true, true, true, true, true, true, true, true, true, true, true, true, true, true, true, true, true, true, true, true, true, true, true, true, true, true, true], none⟩ ⟨inRT oS r2 r3 rA t oT oF L [] 0, H1, N1⟩ = some (.exit 2, st) ∧ st.tm = inRT oS r2 r3 rA t oT oF (L ++ lateL S.now t l) (leftL S.now l) l.length ∧ InI H1 N1 oT oF L S.now t l ⟨l.length, st.hp, st.nx⟩ := by
  have hline := h.line t v l o hv hl ho
  have hle := hline.le
  have htl := (List.getElem?_eq_some_iff.1 hl).1
  have hti : (t : Int) < S.lines.length := by omega
  have hvl := h.vlen
  have hve : ∀ h : t < vs.length, vs[t]'h = v := fun h => (List.getElem?_eq_some_iff.1 hv).2
  have fS := h.ltS; have fL := h.ltL
  have key := loop_ruleN (P := Try.prog) (pol := plc) (c := b14_1) (m := ⟨[true, false, true, true, true, true, true, true, true, false, true, true, false, false, false, false, false, false, false, false, false, false, false, false, false, false, false, false, false, false, false, true, true, false, false, false, false, false, false, false, false, false, false, false, false, false, false, false, false, false, false, false, false, false, false, false, false, false, false, false, false, false, false, false, false, false, false, false, false, false, false, false, false, false, false, false, false, false, true, true, true, true, true, true, true, true, true, true, true, true, true, true, true, true, true, true, true, true, true, true, true, true, true, true, true, true, true, true, true, true, true, true, true, true, true, true, true, true, true, true, true, true, true, true, true, true, true, true, true, true, true, true, true, true, true, true, true, true, true, true, true, true, true, true, true, true, true, true, true, true, true], none⟩)
    (N := fun s : InS => s.N) (tm := fun s => inRT oS r2 r3 rA t oT oF (L ++ lateL S.now t (l.take s.i)) (leftL S.now (l.take s.i)) s.i) (Hf := fun s => s.H)
    (I := InI H1 N1 oT oF L S.now t l) (μ := fun s => l.length - s.i) (res := fun _ => ()) (R := fun _ e st => e = .exit 2 ∧ st.tm = inRT oS r2 r3 rA t oT oF (L ++ lateL S.now t l) (leftL S.now l) l.length ∧ InI H1 N1 oT oF L S.now t l ⟨l.length, st.hp, st.nx⟩)
    (fun s hI => by
      obtain ⟨hi, hN, hlt, hlf, hfr⟩ := hI
      have foT : ∀ p, Foot oS oL os p → p ≠ oT ∧ p ≠ oF := fun p hp => ⟨fun e => fT (by rw [← e]; exact hp), fun e => fF (by rw [← e]; exact hp)⟩
      have hs : SchH s.H N1 oS oL vs os S := h.keep fun p hp => hfr p (h.foot_lt hp) (foT p hp).1 (foT p hp).2
      have zr := hs.root
      have zt := hs.tab
      have zline := hs.line t v l o hv hl ho
      rcases Nat.lt_or_ge s.i l.length with hl2 | hl2
      · obtain ⟨q, a⟩ := q_at (by omega) hl2
        cases zline with
        | nil => simp at hl2
        | vn => simp at hl2
        | row o1 l cs hc hv2 ht hb =>
          have hrow := row_at hv2 ht a
          have ha1 : s.i * 3 + 3 ≤ cs.length := by have := a.ltm; omega
          have ha2 : s.i * 3 ≤ cs.length := by omega
          have fo1 : Foot oS oL os o1 := .inr (.inr (List.mem_of_getElem? ho))
          obtain ⟨Hz, hHz⟩ : ∃ Hz : Hp, Hz = upd s.H (s.N + 20, 0) (.cells [.d (.int .i64 q.id), .d (.int .i64 q.dl), .d (.int .i64 q.tn)]) := ⟨_, rfl⟩
          have kz : ∀ p : Oid, p.1 < s.N → Hz p = s.H p := fun p hp => by rw [hHz]; exact upd_old (by omega) _ _ _
          have hz0 : Hz (s.N + 20, 0) = some (.cells [.d (.int .i64 q.id), .d (.int .i64 q.dl), .d (.int .i64 q.tn)]) := by rw [hHz]; exact upd_same _ _ _
          have zr2 := (kz oS (by omega)).trans zr
          by_cases hov : q.over S.now = true
          · have hst := over_step (t := t) a.get hov
            have h2 : 0 < q.dl ∧ q.dl ≤ S.now := by simpa [Qu.over] using hov
            obtain ⟨Ha, hHa⟩ : ∃ Ha : Hp, Ha = upd Hz (s.N + 39, 0) (.cells [.d (.int .i64 t), .d (.int .i64 q.id), .d (.int .i64 0)]) := ⟨_, rfl⟩
            have ka : ∀ p : Oid, p.1 < s.N → Ha p = s.H p := fun p hp => by rw [hHa, upd_old (by omega)]; exact kz p hp
            have happ := appendR_run (id := s.N + 40) (o := oT) (q := (s.N + 39, 0)) (l := L ++ lateL S.now t (l.take s.i)) (t := t) (i := q.id) (k := 0) (H := Ha) ((ka oT (by omega)).trans hlt) (by rw [hHa]; exact upd_same _ _ _) (by
              have e1 : (lateL S.now t (l.take s.i)).length ≤ l.length := by
                have e2 := List.length_filter_le (Qu.over S.now) (l.take s.i)
                simp only [List.length_take] at e2
                simp only [lateL, List.length_map]; omega
              simp only [List.length_append]; omega)
            rw [List.append_assoc, ← hst.1] at happ
            generalize hX : L ++ lateL S.now t (l.take s.i) = X at *
            generalize hX2 : L ++ lateL S.now t (l.take (s.i + 1)) = X2 at *
            obtain ⟨Hb, hHb⟩ : ∃ Hb : Hp, Hb = upd Ha oT (runO X2) := ⟨_, rfl⟩
            rw [← hHb] at happ
            simp only [runA] at happ
            conv => arg 9; arg 4; unfold b14_1
            simp [plc_raw, zr, zt, hvl, hv, hve, hti, htl, a.lti, a.ltm, hc, hrow, ha1, ha2, a.w, Nat.add_assoc, ← hHz, hz0, zr2, h2, runA, qA, ← hHa, happ, hX]
            refine .next (InS.mk (s.i + 1) Hb (s.N + 45)) (by simp) (by simp [hX2, runA, qA, hst.2]) (by simp) ⟨hl2, by simp only; omega, ?_, ?_, fun p hp e1 e2 => ?_⟩ (by simp only; omega) rfl
            · simp only; rw [hHb, hX2]; exact upd_same _ _ _
            · simp only; rw [hHb, upd_ne hTF.symm, ka oF (by omega), hst.2]; exact hlf
            · simp only; rw [hHb, upd_ne e1, ka p (by omega)]; exact hfr p hp e1 e2
          · have hov : q.over S.now = false := by simpa using hov
            have hst := left_step (t := t) a.get hov
            obtain ⟨Ha, hHa⟩ : ∃ Ha : Hp, Ha = upd Hz (s.N + 36, 0) (.cells [.d (.int .i64 q.id), .d (.int .i64 q.dl), .d (.int .i64 q.tn)]) := ⟨_, rfl⟩
            have ka : ∀ p : Oid, p.1 < s.N → Ha p = s.H p := fun p hp => by rw [hHa, upd_old (by omega)]; exact kz p hp
            have happ := appendR_left (id := s.N + 37) (o := oF) (q := (s.N + 36, 0)) (l := leftL S.now (l.take s.i)) (x := q) (H := Ha) ((ka oF (by omega)).trans hlf) (by rw [hHa]; exact upd_same _ _ _) (by
              have e2 := List.length_filter_le (fun q => !Qu.over S.now q) (l.take s.i)
              simp only [List.length_take] at e2
              simp only [leftL]; omega)
            rw [← hst.2] at happ
            generalize hX : leftL S.now (l.take s.i) = X at *
            generalize hX2 : leftL S.now (l.take (s.i + 1)) = X2 at *
            obtain ⟨Hb, hHb⟩ : ∃ Hb : Hp, Hb = upd Ha oF (qO X2) := ⟨_, rfl⟩
            rw [← hHb] at happ
            simp only [qA] at happ
            have hinv : InI H1 N1 oT oF L S.now t l ⟨s.i + 1, Hb, s.N + 42⟩ := by
              refine ⟨hl2, by simp only; omega, ?_, ?_, fun p hp e1 e2 => ?_⟩
              · simp only; rw [hHb, upd_ne hTF, ka oT (by omega), hst.1]; exact hlt
              · simp only; rw [hHb, hX2]; exact upd_same _ _ _
              · simp only; rw [hHb, upd_ne e2, ka p (by omega)]; exact hfr p hp e1 e2
            conv => arg 9; arg 4; unfold b14_1
            by_cases h1 : 0 < q.dl
            · have h2 : ¬ q.dl ≤ S.now := fun h2 => by simp [Qu.over, h1, h2] at hov
              simp [plc_raw, zr, zt, hvl, hv, hve, hti, htl, a.lti, a.ltm, hc, hrow, ha1, ha2, a.w, Nat.add_assoc, ← hHz, hz0, zr2, h1, h2, runA, qA, ← hHa, happ, hX]
              exact .next (InS.mk (s.i + 1) Hb (s.N + 42)) (by simp) (by simp [hX2, runA, qA, hst.1]) (by simp) hinv (by simp only; omega) rfl
            · simp [plc_raw, zr, zt, hvl, hv, hve, hti, htl, a.lti, a.ltm, hc, hrow, ha1, ha2, a.w, Nat.add_assoc, ← hHz, hz0, zr2, h1, runA, qA, ← hHa, happ, hX]
              exact .next (InS.mk (s.i + 1) Hb (s.N + 42)) (by simp) (by simp [hX2, runA, qA, hst.1]) (by simp) hinv (by simp only; omega) rfl
      · have hie : s.i = l.length := Nat.le_antisymm hi hl2
        have hfin : ∀ k, InI H1 N1 oT oF L S.now t l ⟨l.length, s.H, s.N + k⟩ := fun k => ⟨Nat.le_refl _, by simp only; omega, by simp only; rw [← hie]; exact hlt, by simp only; rw [← hie]; exact hlf, hfr⟩
        conv => arg 9; arg 4; unfold b14_1
        cases zline with
        | nil =>
          simp at hie
          simp [plc_raw, zr, zt, hvl, hv, hve, hti, htl, hie, Nat.add_assoc]
          exact .fin _ _ ⟨rfl, by simp, hfin _⟩
        | vn o1 ho1 =>
          simp at hie
          simp [plc_raw, zr, zt, hvl, hv, hve, hti, htl, hie, ho1, Nat.add_assoc]
          exact .fin _ _ ⟨rfl, by simp, hfin _⟩
        | row o1 l cs hc hv2 ht hb =>
          simp [plc_raw, zr, zt, hvl, hv, hve, hti, htl, hie, hc, Nat.add_assoc]
          exact .fin _ _ ⟨rfl, by simp, hfin _⟩) ⟨0, H1, N1⟩ ⟨Nat.zero_le _, Nat.le_refl _, by simpa [lateL] using hT, by simpa [leftL] using hF, fun _ _ _ _ => rfl⟩
  obtain ⟨e, st, h1, rfl, h2⟩ := key
  exact ⟨st, by simpa [lateL, leftL] using h1, h2⟩
end Go.Proofs.Ytnlmonokkppagaa.Am

/-
  The document's scheduler: a tick's first part: who is late. No condition.
-/
namespace Go.Proofs.Ytnlmonokkppagaa.Am
open Go Go.Proofs
set_option maxHeartbeats 4000000
set_option maxRecDepth 20000
set_option linter.unusedSimpArgs false
set_option linter.unusedVariables false
/-- What holds ahead of each round of the document's tick's loops. -/
structure RkI (H0 : Hp) (nx K : Nat) (oS oL : Oid) (os0 : List (Option Oid)) (oR oT : Oid) (R L : List Rn) (S : Sc) (H : Hp) (N : Nat) (vs : List AV) (os : List (Option Oid)) : Prop where
  sch : SchH H N oS oL vs os S
  rr : H oR = some (runO R)
  late : H oT = some (runO L)
  le : nx + K ≤ N
  os : ∀ p, some p ∈ os → some p ∈ os0 ∨ nx + K ≤ p.1
  fr : ∀ p : Oid, p.1 < nx → ¬ Foot oS oL os0 p → H p = H0 p
structure RkO (nx K : Nat) (oR oT : Oid) : Prop where
  r0 : nx ≤ oR.1
  r1 : oR.1 < nx + K
  t0 : nx ≤ oT.1
  t1 : oT.1 < nx + K
  ne : oR ≠ oT
theorem RkI.away {H0 : Hp} {nx K : Nat} {oS oL : Oid} {os0 : List (Option Oid)} {oR oT : Oid} {R L : List Rn} {S : Sc} {H : Hp} {N : Nat} {vs : List AV} {os : List (Option Oid)} (h : RkI H0 nx K oS oL os0 oR oT R L S H N vs os) (hb : ∀ p, Foot oS oL os0 p → p.1 < nx) {p : Oid} (hp : Foot oS oL os p) : p.1 < nx ∨ nx + K ≤ p.1 := by
  rcases hp with rfl | rfl | hp
  · exact .inl (hb _ (.inl rfl))
  · exact .inl (hb _ (.inr (.inl rfl)))
  · rcases h.os p hp with q | q
    · exact .inl (hb _ (.inr (.inr q)))
    · exact .inr q
abbrev rk1T (oS : Oid) (r2 r3 rA : AV) (oT : Oid) (L : List Rn) (t : Nat) : List AV := [.ptr oS 0 3, .junk, r2, r3, rA, runA oT L, .d (.int .i64 t), .junk, .junk, .junk, .junk, .junk, .junk, .junk, .junk, .junk, .junk, .junk, .junk, .junk, .junk, .junk, .junk, .junk, .junk, .junk, .junk, .junk, .junk, .junk, .junk, .junk, .junk, .junk, .junk, .junk, .junk, .junk, .junk, .junk, .junk, .junk, .junk, .junk, .junk, .junk, .junk, .junk, .junk, .junk, .junk, .junk, .junk, .junk, .junk, .junk, .junk, .junk, .junk, .junk, .junk, .junk, .junk, .junk, .junk, .junk, .junk, .junk, .junk, .junk, .junk, .junk, .junk, .junk, .junk, .junk, .junk, .junk, .junk, .junk, .junk, .junk, .junk, .junk, .junk, .junk, .junk, .junk, .junk, .junk, .junk, .junk, .junk, .junk, .junk, .junk, .junk, .junk, .junk, .junk, .junk, .junk, .junk, .junk, .junk, .junk, .junk, .junk, .junk, .junk, .junk, .junk, .junk, .junk, .junk, .junk, .junk, .junk, .junk, .junk, .junk, .junk, .junk, .junk, .junk, .junk, .junk, .junk, .junk, .junk, .junk, .junk, .junk, .junk, .junk, .junk, .junk, .junk, .junk, .junk, .junk, .junk, .junk, .junk, .junk, .junk, .junk, .junk, .junk, .junk, .junk]
def Rk1End (H0 : Hp) (nx K : Nat) (oS oL : Oid) (os0 : List (Option Oid)) (oR oT : Oid) (r2 r3 rA : AV) (S : Sc) (e : Ex) (st : St) : Prop :=
  ∃ vs os, e = .exit 0 ∧ st.tm = rk1T oS r2 r3 rA oT (lateOf S.now 0 S.lines) S.lines.length ∧ RkI H0 nx K oS oL os0 oR oT [] (lateOf S.now 0 S.lines) ⟨S.ways, S.now, leftOf' S.now S.lines⟩ st.hp st.nx vs os
theorem tickR1 {H0 : Hp} {nx K : Nat} {oS oL : Oid} {os0 : List (Option Oid)} {oR oT : Oid} (hO : RkO nx K oR oT) {S : Sc} (hb : ∀ p, Foot oS oL os0 p → p.1 < nx) (hn : S.lines.length ≤ 16) (h64 : ∀ l ∈ S.lines, l.length ≤ 64) (r2 r3 rA : AV) {H : Hp} {vs : List AV} {os : List (Option Oid)} {N : Nat} (h0 : RkI H0 nx K oS oL os0 oR oT [] [] S H N vs os) :
    ∃ e st, aloop Try.prog plc b14_2 ⟨[true, false, true, true, true, true, true, false, false, false, true, true, false, false, false, false, false, false, false, false, false, false, false, false, false, false, false, false, false, false, false, false, false, false, false, false, false, false, false, false, false, false, false, false, false, false, false, false, false, false, false, false, false, false, false, false, false, false, false, false, false, false, false, false, false, false, false, false, false, false, false, false, false, false, false, false, false, false, false, false, false, false, false, false, false, true, true, true, true, true, true, true, true, true, true, true, true, true, true, true, true, true, true, true, true, true, true, true, true, true, true, true, true, true, true, true, true, true, true, true, true, true, true, true, true, true, true, true, true, true, true, true, true, true, true, true, true, true, true, true, true, true, true, true, true, true, true, true, true, true, true], none⟩ ⟨rk1T oS r2 r3 rA oT [] 0, H, N⟩ = some (e, st) ∧ Rk1End H0 nx K oS oL os0 oR oT r2 r3 rA S e st := by
  have key := loop_ruleN (P := Try.prog) (pol := plc) (c := b14_2) (m := ⟨[true, false, true, true, true, true, true, false, false, false, true, true, false, false, false, false, false, false, false, false, false, false, false, false, false, false, false, false, false, false, false, false, false, false, false, false, false, false, false, false, false, false, false, false, false, false, false, false, false, false, false, false, false, false, false, false, false, false, false, false, false, false, false, false, false, false, false, false, false, false, false, false, false, false, false, false, false, false, false, false, false, false, false, false, false, true, true, true, true, true, true, true, true, true, true, true, true, true, true, true, true, true, true, true, true, true, true, true, true, true, true, true, true, true, true, true, true, true, true, true, true, true, true, true, true, true, true, true, true, true, true, true, true, true, true, true, true, true, true, true, true, true, true, true, true, true, true, true, true, true, true], none⟩)
    (N := fun s : TkS => s.N) (tm := fun s => rk1T oS r2 r3 rA oT (lateOf S.now 0 (S.lines.take s.t)) s.t) (Hf := fun s => s.H)
    (I := fun s => s.t ≤ S.lines.length ∧ RkI H0 nx K oS oL os0 oR oT [] (lateOf S.now 0 (S.lines.take s.t)) ⟨S.ways, S.now, mixed S.now S.lines s.t⟩ s.H s.N s.vs s.os)
    (μ := fun s => S.lines.length - s.t) (res := fun _ => ()) (R := fun _ => Rk1End H0 nx K oS oL os0 oR oT r2 r3 rA S)
    (fun s hI => by
      obtain ⟨hi, hI⟩ := hI
      have hsch := hI.sch
      have hle := hI.le
      have hroot := hsch.root
      have htab := hsch.tab
      have hvl := hsch.vlen
      simp only [mixed_len] at hroot hvl
      have g0 := hO.r0; have g1 := hO.r1; have g2 := hO.t0; have g3 := hO.t1
      rcases Nat.lt_or_ge s.t S.lines.length with hl | hl
      · obtain ⟨v, l, o, hv, hlm, ho, hline⟩ := hsch.get (t := s.t) (by simp only [mixed_len]; exact hl)
        have hl0 : S.lines[s.t]? = some l := by
          have e := List.getElem?_eq_getElem hl
          have := mixed_at (now := S.now) e
          rw [this] at hlm; rw [e]; exact hlm
        have haw : ∀ p, Foot oS oL s.os p → p.1 < nx ∨ nx + K ≤ p.1 := fun p hp => hI.away hb hp
        have fS := hsch.ltS; have fL := hsch.ltL
        have hlen := hline.le
        obtain ⟨H1, hH1⟩ : ∃ H1 : Hp, H1 = upd s.H (s.N + 7, 1) .vnil := ⟨_, rfl⟩
        have k1 : ∀ p : Oid, p.1 < s.N → H1 p = s.H p := fun p hp => by rw [hH1]; exact upd_old (by omega) _ _ _
        have hs1 : SchH H1 (s.N + 9) oS oL s.vs s.os ⟨S.ways, S.now, mixed S.now S.lines s.t⟩ := (hsch.keep fun p hp => k1 p (hsch.foot_lt hp)).mono (by omega)
        have hLl : (lateOf S.now 0 (S.lines.take s.t)).length + l.length ≤ 1048576 := by
          have q1 := late_len S.now (S.lines.take s.t) (fun l hl => h64 l (List.mem_of_mem_take hl)) 0
          have q2 : (S.lines.take s.t).length ≤ 16 := by simp; omega
          omega
        have hTF : oT ≠ (s.N + 7, 1) := fun e => by rw [e] at g3; simp only at g3; omega
        have hRF : oR ≠ (s.N + 7, 1) := fun e => by rw [e] at g1; simp only at g1; omega
        obtain ⟨st, hrun, htm, hin⟩ := inR hs1 (by simp only [mixed_len]; exact hn) hv hlm ho (oT := oT) (oF := (s.N + 7, 1)) (fun hF => by have := haw _ hF; omega) (fun hF => by have := hsch.foot_lt hF; simp only at this; omega) hTF (by omega) (by simp only; omega)
          (L := lateOf S.now 0 (S.lines.take s.t)) ((k1 oT (by omega)).trans hI.late) (by rw [hH1, upd_same]; rfl) hLl r2 r3 rA
        obtain ⟨tm, H2, n2⟩ := st
        simp only at htm
        subst htm
        obtain ⟨-, hN2, hlate2, hleft2, hfr2⟩ := hin
        simp only [List.take_length] at hN2 hlate2 hleft2 hfr2
        have e1 : lateOf S.now 0 (S.lines.take s.t) ++ lateL S.now s.t l = lateOf S.now 0 (S.lines.take (s.t + 1)) := (late_succ hl0).symm
        simp only [e1] at hlate2 hrun
        obtain ⟨F, hF⟩ : ∃ F, F = leftL S.now l := ⟨_, rfl⟩
        have hF64 : F.length ≤ 64 := by rw [hF]; exact Nat.le_trans (List.length_filter_le _ _) hlen
        simp only [← hF] at hleft2 hrun
        generalize hL2 : lateOf S.now 0 (S.lines.take (s.t + 1)) = L2 at *
        have k2 : ∀ p, Foot oS oL s.os p → H2 p = s.H p := fun p hp => by
          have h3 := haw p hp
          have h4 := hsch.foot_lt hp
          rw [hfr2 p (by omega) (fun e => by rw [e] at h3; omega) (fun e => by rw [e] at h4; simp only at h4; omega), k1 p h4]
        have c2 := (k2 oS (.inl rfl)).trans hroot
        have c3 := (k2 oL (.inr (.inl rfl))).trans htab
        have c1 := (k1 oS fS).trans hroot
        have hti : (s.t : Int) < S.lines.length := by omega
        have hn1 : s.t + 1 ≤ S.lines.length := hl
        have hw : IntKind.i64.wrap ((s.t : Int) + 1) = (s.t : Int) + 1 := wrap_i64 (by omega) (by omega)
        have hset : s.vs.set s.t (qA (s.N + 7, 1) F) = s.vs.take s.t ++ qA (s.N + 7, 1) F :: s.vs.drop (s.t + 1) := by rw [List.set_eq_take_append_cons_drop, if_pos (by omega)]
        simp only [inRT, runA, qA, wdQ, if_true, List.length_nil, Nat.zero_mul, Int.natCast_zero] at hrun
        have hset' := hset
        simp only [qA, wdQ] at hset
        conv => arg 9; arg 4; unfold b14_2
        simp [plc_raw, hti, hl, hroot, htab, hvl, hw, Nat.add_assoc, ← hH1, runA, hrun, c1, c2, c3, hn1]
        refine .next (TkS.mk (s.t + 1) (upd H2 oL (.cells (s.vs.set s.t (qA (s.N + 7, 1) F)))) (n2 + 11) (s.vs.set s.t (qA (s.N + 7, 1) F)) (s.os.set s.t (some (s.N + 7, 1)))) (by simp) (by simp [hL2, runA]) (by simp only [hset']; rfl) ⟨hl, ?_⟩ (by simp only; omega) rfl
        have nL : ((s.N + 7, 1) : Oid) ≠ oL := fun e => by rw [← e] at fL; simp only at fL; omega
        have hs2 := hsch.set' (H' := upd H2 oL (.cells (s.vs.set s.t (qA (s.N + 7, 1) F)))) (M := n2 + 11) (t := s.t) (by simp only [mixed_len]; exact hl) (v' := qA (s.N + 7, 1) F) (l' := F) (o' := some (s.N + 7, 1)) ho (by omega)
          (fun p hp => by cases hp; exact ⟨.inr (by simp only; omega), by simp only; omega⟩) (upd_same _ _ _) ((q_line hleft2 hF64).keep fun p hp => by cases hp; exact upd_ne nL) (fun p hp e1 _ => by rw [upd_ne e1]; exact k2 p hp)
        have hst : F = l.filter (stays S.now) := hF
        simp only [hst, mixed_set hl0] at hs2
        simp only [← hst] at hs2
        have tL : oT ≠ oL := fun e => by have := haw oL (.inr (.inl rfl)); rw [← e] at this; omega
        have rL : oR ≠ oL := fun e => by have := haw oL (.inr (.inl rfl)); rw [← e] at this; omega
        refine ⟨hs2, ?_, ?_, by simp only; omega, fun p hp => ?_, fun p hp hFt => ?_⟩
        · simp only; rw [upd_ne rL, hfr2 oR (by omega) hO.ne hRF, k1 oR (by omega)]; exact hI.rr
        · simp only; rw [upd_ne tL, hL2]; exact hlate2
        · rcases List.mem_or_eq_of_mem_set hp with q | q
          · exact hI.os p q
          · cases q; exact .inr (by simp only; omega)
        · simp only
          rw [upd_ne (fun e => hFt (.inr (.inl (e)))), hfr2 p (by omega) (fun e => by rw [e] at hp; omega) (fun e => by rw [e] at hp; simp only at hp; omega), k1 p (by omega)]
          exact hI.fr p hp hFt
      · have hte : s.t = S.lines.length := Nat.le_antisymm hi hl
        simp [b14_2, hte, hroot]
        refine .fin _ _ ⟨s.vs, s.os, rfl, by simp, ?_⟩
        have := hI
        rw [hte, List.take_length, mixed_end] at this
        exact { this with sch := this.sch.mono (by simp only; omega), le := by have := this.le; simp only; omega }) ⟨0, H, N, vs, os⟩ ⟨Nat.zero_le _, by simpa [lateOf, mixed_zero] using h0⟩
  simpa [lateOf] using key
end Go.Proofs.Ytnlmonokkppagaa.Am

/-
  The document's scheduler: a tick's second part: who runs. No condition.
-/
namespace Go.Proofs.Ytnlmonokkppagaa.Am
open Go Go.Proofs
set_option maxHeartbeats 4000000
set_option maxRecDepth 20000
set_option linter.unusedSimpArgs false
set_option linter.unusedVariables false
abbrev rk2T (oS : Oid) (r2 r3 : AV) (oR : Oid) (R : List Rn) (rL : AV) (t : Nat) : List AV := [.ptr oS 0 3, .junk, r2, r3, runA oR R, rL, .junk, .junk, .junk, .junk, .d (.int .i64 t), .junk, .junk, .junk, .junk, .junk, .junk, .junk, .junk, .junk, .junk, .junk, .junk, .junk, .junk, .junk, .junk, .junk, .junk, .junk, .junk, .junk, .junk, .junk, .junk, .junk, .junk, .junk, .junk, .junk, .junk, .junk, .junk, .junk, .junk, .junk, .junk, .junk, .junk, .junk, .junk, .junk, .junk, .junk, .junk, .junk, .junk, .junk, .junk, .junk, .junk, .junk, .junk, .junk, .junk, .junk, .junk, .junk, .junk, .junk, .junk, .junk, .junk, .junk, .junk, .junk, .junk, .junk, .junk, .junk, .junk, .junk, .junk, .junk, .junk, .junk, .junk, .junk, .junk, .junk, .junk, .junk, .junk, .junk, .junk, .junk, .junk, .junk, .junk, .junk, .junk, .junk, .junk, .junk, .junk, .junk, .junk, .junk, .junk, .junk, .junk, .junk, .junk, .junk, .junk, .junk, .junk, .junk, .junk, .junk, .junk, .junk, .junk, .junk, .junk, .junk, .junk, .junk, .junk, .junk, .junk, .junk, .junk, .junk, .junk, .junk, .junk, .junk, .junk, .junk, .junk, .junk, .junk, .junk, .junk, .junk, .junk, .junk, .junk, .junk, .junk]
def Rk2End (H0 : Hp) (nx K : Nat) (oS oL : Oid) (os0 : List (Option Oid)) (oR oT : Oid) (r2 r3 rL : AV) (L : List Rn) (S : Sc) (e : Ex) (st : St) : Prop :=
  ∃ vs os, e = .exit 4 ∧ st.tm = rk2T oS r2 r3 oR (runsOf S.ways 0 S.lines) rL S.lines.length ∧ RkI H0 nx K oS oL os0 oR oT (runsOf S.ways 0 S.lines) L ⟨S.ways, S.now, S.lines.map turnQ⟩ st.hp st.nx vs os
theorem tickR2 {H0 : Hp} {nx K : Nat} {oS oL : Oid} {os0 : List (Option Oid)} {oR oT : Oid} (hO : RkO nx K oR oT) {L : List Rn} {S : Sc} (hb : ∀ p, Foot oS oL os0 p → p.1 < nx) (hn : S.lines.length ≤ 16) (hw0 : S.ways ≠ 0) (r2 r3 rL : AV) {H : Hp} {vs : List AV} {os : List (Option Oid)} {N : Nat} (h0 : RkI H0 nx K oS oL os0 oR oT [] L S H N vs os) :
    ∃ e st, aloop Try.prog plc b14_0 ⟨[true, false, true, true, true, true, false, false, false, false, true, false, false, false, false, false, false, false, false, false, false, false, false, false, false, false, false, false, false, false, false, false, false, false, false, false, false, false, false, false, false, false, false, false, false, false, false, false, false, false, false, false, false, false, false, false, false, false, false, false, false, false, false, false, false, false, false, false, false, false, false, false, false, false, false, false, false, false, false, false, false, false, false, false, false, false, false, false, false, false, false, false, false, false, false, false, false, false, false, false, false, false, false, false, false, false, false, false, false, false, false, false, false, false, false, false, false, false, false, false, false, false, false, false, false, false, false, false, false, false, false, false, false, false, false, false, false, false, false, false, false, false, false, false, false, false, false, false, false, true, true], none⟩ ⟨rk2T oS r2 r3 oR [] rL 0, H, N⟩ = some (e, st) ∧ Rk2End H0 nx K oS oL os0 oR oT r2 r3 rL L S e st := by
  have key := loop_ruleN (P := Try.prog) (pol := plc) (c := b14_0) (m := ⟨[true, false, true, true, true, true, false, false, false, false, true, false, false, false, false, false, false, false, false, false, false, false, false, false, false, false, false, false, false, false, false, false, false, false, false, false, false, false, false, false, false, false, false, false, false, false, false, false, false, false, false, false, false, false, false, false, false, false, false, false, false, false, false, false, false, false, false, false, false, false, false, false, false, false, false, false, false, false, false, false, false, false, false, false, false, false, false, false, false, false, false, false, false, false, false, false, false, false, false, false, false, false, false, false, false, false, false, false, false, false, false, false, false, false, false, false, false, false, false, false, false, false, false, false, false, false, false, false, false, false, false, false, false, false, false, false, false, false, false, false, false, false, false, false, false, false, false, false, false, true, true], none⟩)
    (N := fun s : TkS => s.N) (tm := fun s => rk2T oS r2 r3 oR (runsOf S.ways 0 (S.lines.take s.t)) rL s.t) (Hf := fun s => s.H)
    (I := fun s => s.t ≤ S.lines.length ∧ RkI H0 nx K oS oL os0 oR oT (runsOf S.ways 0 (S.lines.take s.t)) L ⟨S.ways, S.now, spun S.lines s.t⟩ s.H s.N s.vs s.os)
    (μ := fun s => S.lines.length - s.t) (res := fun _ => ()) (R := fun _ => Rk2End H0 nx K oS oL os0 oR oT r2 r3 rL L S)
    (fun s hI => by
      obtain ⟨hi, hI⟩ := hI
      have hsch := hI.sch
      have hle := hI.le
      have hroot := hsch.root
      have htab := hsch.tab
      have hvl := hsch.vlen
      simp only [spun_len] at hroot hvl
      have g0 := hO.r0; have g1 := hO.r1; have g2 := hO.t0; have g3 := hO.t1
      rcases Nat.lt_or_ge s.t S.lines.length with hl | hl
      · obtain ⟨v, l, o, hv, hlm, ho, hline⟩ := hsch.get (t := s.t) (by simp only [spun_len]; exact hl)
        have hl0 : S.lines[s.t]? = some l := by
          have e := List.getElem?_eq_getElem hl
          have := spun_at e
          rw [this] at hlm; rw [e]; exact hlm
        have haw : ∀ p, Foot oS oL s.os p → p.1 < nx ∨ nx + K ≤ p.1 := fun p hp => hI.away hb hp
        have fS := hsch.ltS; have fL := hsch.ltL
        have hlen := hline.le
        have hti : (s.t : Int) < S.lines.length := by omega
        have hn1 : s.t + 1 ≤ S.lines.length := hl
        have hw : IntKind.i64.wrap ((s.t : Int) + 1) = (s.t : Int) + 1 := wrap_i64 (by omega) (by omega)
        have hve : ∀ h : s.t < s.vs.length, s.vs[s.t]'h = v := fun h => (List.getElem?_eq_some_iff.1 hv).2
        have hrs := runs_succ (w := S.ways) hl0
        have hnone : l = [] → RkI H0 nx K oS oL os0 oR oT (runsOf S.ways 0 (S.lines.take (s.t + 1))) L ⟨S.ways, S.now, spun S.lines (s.t + 1)⟩ s.H (s.N + 19) s.vs s.os := fun e => by
          subst e
          rw [spun_none hl0, hrs]
          exact { hI with rr := by simpa [runsOf] using hI.rr, sch := hsch.mono (by omega), le := by omega }
        have hnoneR : l = [] → runsOf S.ways 0 (S.lines.take (s.t + 1)) = runsOf S.ways 0 (S.lines.take s.t) := fun e => by subst e; rw [hrs]; simp [runsOf]
        cases l with
        | nil =>
          have q1 := hnone rfl
          have q2 := hnoneR rfl
          conv => arg 9; arg 4; unfold b14_0
          cases hline with
          | nil =>
            simp [plc_raw, hti, hl, hroot, htab, hvl, hv, hve, hw, Nat.add_assoc]
            exact .next (TkS.mk (s.t + 1) s.H (s.N + 19) s.vs s.os) (by simp) (by simp [q2]) (by simp) ⟨hl, q1⟩ (by simp only; omega) rfl
          | vn o1 ho1 =>
            simp [plc_raw, hti, hl, hroot, htab, hvl, hv, hve, hw, ho1, Nat.add_assoc]
            exact .next (TkS.mk (s.t + 1) s.H (s.N + 19) s.vs s.os) (by simp) (by simp [q2]) (by simp) ⟨hl, q1⟩ (by simp only; omega) rfl
          | row o1 _ cs hc hv2 ht hbb =>
            simp [plc_raw, hti, hl, hroot, htab, hvl, hv, hve, hw, hc, Nat.add_assoc]
            exact .next (TkS.mk (s.t + 1) s.H (s.N + 19) s.vs s.os) (by simp) (by simp [q2]) (by simp) ⟨hl, q1⟩ (by simp only; omega) rfl
        | cons q r =>
          cases hline with
          | row o _ cs hc hvv ht hbb =>
            have hlen2 : r.length + 1 ≤ 64 := by simpa using hlen
            have ho9 := hsch.lt s.t o ho
            have foo : Foot oS oL s.os o := .inr (.inr (List.mem_of_getElem? ho))
            have hl3 : (r.length + 1) * 3 ≤ cs.length := hvv
            have ht3 : cs.take 3 = [.int .i64 q.id, .int .i64 q.dl, .int .i64 q.tn] := by
              have := congrArg (List.take 3) ht
              rw [List.take_take, Nat.min_eq_left (by simp only [List.length_cons]; omega)] at this
              rw [this]; simp [encQ]
            have ht3' : List.take 3 (cs.map AV.d) = [.d (.int .i64 q.id), .d (.int .i64 q.dl), .d (.int .i64 q.tn)] := by rw [← List.map_take, ht3]; rfl
            have hd : (cs.drop 3).take (r.length * 3) = encQ r := by
              have := congrArg (List.drop 3) ht
              rw [List.drop_take] at this
              simp only [List.length_cons] at this
              rw [show (r.length + 1) * 3 - 3 = r.length * 3 by omega] at this
              rw [this]; simp [encQ]
            obtain ⟨R, hR⟩ : ∃ R, R = runsOf S.ways 0 (S.lines.take s.t) := ⟨_, rfl⟩
            have hR16 : R.length ≤ 1048576 := by have := runs_len S.ways (S.lines.take s.t) 0; rw [← hR] at this; simp at this; omega
            have hRs : runsOf S.ways 0 (S.lines.take (s.t + 1)) = R ++ [((s.t : Int), q.id, q.tn.tmod S.ways)] := by rw [runs_succ hl0, hR]; simp [runsOf]
            have nS : ∀ (p : Oid), p.1 < s.N → ∀ a b : Nat, p ≠ (s.N + a, b) := fun p hp a b e => by rw [e] at hp; simp only at hp; omega
            have hRr : ∀ p, Foot oS oL s.os p → p ≠ oR := fun p hp e => by have := haw p hp; rw [e] at this; omega
            obtain ⟨H1, hH1⟩ : ∃ H1 : Hp, H1 = upd s.H (s.N + 25, 0) (.cells [.d (.int .i64 q.id), .d (.int .i64 q.dl), .d (.int .i64 q.tn)]) := ⟨_, rfl⟩
            have k1 : ∀ p : Oid, p.1 < s.N → H1 p = s.H p := fun p hp => by rw [hH1, upd_ne (nS p hp _ _)]
            have z1 : H1 (s.N + 25, 0) = some (.cells [.d (.int .i64 q.id), .d (.int .i64 q.dl), .d (.int .i64 q.tn)]) := by rw [hH1]; exact upd_same _ _ _
            obtain ⟨H2, hH2⟩ : ∃ H2 : Hp, H2 = upd H1 (s.N + 39, 0) (.cells [.d (.int .i64 s.t), .d (.int .i64 q.id), .d (.int .i64 (q.tn.tmod S.ways))]) := ⟨_, rfl⟩
            have k2 : ∀ p : Oid, p.1 < s.N → H2 p = s.H p := fun p hp => by rw [hH2, upd_ne (nS p hp _ _)]; exact k1 p hp
            have z2 : H2 (s.N + 25, 0) = H1 (s.N + 25, 0) := by rw [hH2, upd_ne (by simp)]
            have happ := appendR_run (id := s.N + 40) (o := oR) (q := (s.N + 39, 0)) (t := s.t) (i := q.id) (k := q.tn.tmod S.ways) (l := R) (H := H2) (by rw [k2 _ (by omega), hR]; exact hI.rr) (by rw [hH2]; exact upd_same _ _ _) hR16
            obtain ⟨H3, hH3⟩ : ∃ H3 : Hp, H3 = upd H2 oR (runO (R ++ [((s.t : Int), q.id, q.tn.tmod S.ways)])) := ⟨_, rfl⟩
            rw [← hH3] at happ
            have k3 : ∀ p : Oid, p.1 < s.N → p ≠ oR → H3 p = s.H p := fun p hp e => by rw [hH3, upd_ne e]; exact k2 p hp
            have z3 : H3 (s.N + 25, 0) = H1 (s.N + 25, 0) := by rw [hH3, upd_ne (nS oR (by omega) _ _).symm]; exact z2
            obtain ⟨q', hq'⟩ : ∃ q' : Qu, q' = { q with tn := IntKind.i64.wrap (q.tn + 1) } := ⟨_, rfl⟩
            obtain ⟨H4, hH4⟩ : ∃ H4 : Hp, H4 = upd H3 (s.N + 25, 0) (.cells [.d (.int .i64 q.id), .d (.int .i64 q.dl), .d (.int .i64 (IntKind.i64.wrap (q.tn + 1)))]) := ⟨_, rfl⟩
            have k4 : ∀ p : Oid, p.1 < s.N → p ≠ oR → H4 p = s.H p := fun p hp e => by rw [hH4, upd_ne (nS p hp _ _)]; exact k3 p hp e
            have z4 : H4 (s.N + 25, 0) = some (.cells [.d (.int .i64 q.id), .d (.int .i64 q.dl), .d (.int .i64 (IntKind.i64.wrap (q.tn + 1)))]) := by rw [hH4]; exact upd_same _ _ _
            obtain ⟨H5, hH5⟩ : ∃ H5 : Hp, H5 = upd H4 (s.N + 52, 0) (.grow []) := ⟨_, rfl⟩
            have k5 : ∀ p : Oid, p.1 < s.N → p ≠ oR → H5 p = s.H p := fun p hp e => by rw [hH5, upd_ne (nS p hp _ _)]; exact k4 p hp e
            have z5 : H5 (s.N + 25, 0) = H4 (s.N + 25, 0) := by rw [hH5, upd_ne (by simp)]
            have p1 := appendR_rows (H := H5) (p := (s.N + 52, 0)) (o := o) (a := []) (b := r) (off := 3) (cs := cs) (by rw [hH5, upd_same]; rfl) ((k5 o ho9 (hRr o foo)).trans hc) hd (by omega) (by simp; omega) (s.N + 61)
            obtain ⟨H6, hH6⟩ : ∃ H6 : Hp, H6 = upd H5 (s.N + 52, 0) (.grow ((encQ ([] ++ r)).map .d)) := ⟨_, rfl⟩
            simp only [List.length_nil, Nat.zero_add, Nat.zero_mul] at p1
            rw [← hH6] at p1
            have k6 : ∀ p : Oid, p.1 < s.N → p ≠ oR → H6 p = s.H p := fun p hp e => by rw [hH6, upd_ne (nS p hp _ _)]; exact k5 p hp e
            have z6 : H6 (s.N + 25, 0) = H4 (s.N + 25, 0) := by rw [hH6, upd_ne (by simp)]; exact z5
            have hrow := LineAt.row (H := H6) (s.N + 52, 0) r (encQ r) (by rw [hH6]; exact upd_same _ _ _) (by rw [encQ_len]; exact Nat.le_refl _) (by rw [List.take_of_length_le (by rw [encQ_len]; exact Nat.le_refl _)]) (by rw [encQ_len]; omega)
            rw [encQ_len] at hrow
            obtain ⟨ver, o', H7, p2, hl1, hoo, hk7⟩ := appendR_lit hrow (x := q') (s.N + 64) (by omega)
            have ho' : o' = (s.N + 52, 0) := by
              rcases hoo with e | ⟨e, _⟩
              · exact (Option.some.inj e).symm
              · cases e
            subst ho'
            rw [hq'] at p2
            have k7 : ∀ p : Oid, p.1 < s.N → p ≠ oR → H7 p = s.H p := fun p hp e => by rw [hk7 p (nS p hp _ _)]; exact k6 p hp e
            have hset : s.vs.set s.t (.osl (s.N + 52, 0) 0 (r.length + 1) 3 ver) = s.vs.take s.t ++ .osl (s.N + 52, 0) 0 (r.length + 1) 3 ver :: s.vs.drop (s.t + 1) := by rw [List.set_eq_take_append_cons_drop, if_pos (by omega)]
            have rS := hRr oS (.inl rfl)
            have rLo := hRr oL (.inr (.inl rfl))
            have ro := hRr o foo
            have s1 := (k1 oS fS).trans hroot
            have s2 := (k2 oS fS).trans hroot
            have s3 := (k3 oS fS rS).trans hroot
            have s4 := (k4 oS fS rS).trans hroot
            have s5 := (k5 oS fS rS).trans hroot
            have s6 := (k6 oS fS rS).trans hroot
            have s7 := (k7 oS fS rS).trans hroot
            have l1 := (k1 oL fL).trans htab
            have l2 := (k2 oL fL).trans htab
            have l3 := (k3 oL fL rLo).trans htab
            have l4 := (k4 oL fL rLo).trans htab
            have l5 := (k5 oL fL rLo).trans htab
            have l6 := (k6 oL fL rLo).trans htab
            have l7 := (k7 oL fL rLo).trans htab
            have c5 := (k5 o ho9 ro).trans hc
            have y2 := z2.trans z1
            have y3 := z3.trans z1
            have y5 := z5.trans z4
            have y6 := z6.trans z4
            have i0 : (0 : Int) < (r.length : Int) + 1 := by omega
            have i1 : ¬ ((r.length : Int) + 1 = 0) := by omega
            have i2 : 3 ≤ cs.length := by omega
            have i3 : 0 < cs.length := by omega
            rw [← hR]
            simp only [runA] at happ
            conv => arg 9; arg 4; unfold b14_0
            simp [plc_raw, hti, hl, hroot, htab, hvl, hv, hve, hw, hw0, Nat.add_assoc, runA, hc, ht3', hl3, i0, i1, i2, i3, ← hH1, z1, s1, ← hH2, happ, s3, y3, l3, ← hH4, s4, l4, z4, ← hH5, s5, l5, c5, p1, s6, l6, y5, y6, p2, s7, l7, hn1]
            have nL : ((s.N + 52, 0) : Oid) ≠ oL := (nS oL fL _ _).symm
            have hl1' : LineAt H7 (.osl (s.N + 52, 0) 0 (r.length + 1) 3 ver) (turnQ (q :: r)) (some (s.N + 52, 0)) := by rw [hq'] at hl1; exact hl1
            have hs2 := hsch.set' (H' := upd H7 oL (.cells (s.vs.set s.t (.osl (s.N + 52, 0) 0 (r.length + 1) 3 ver)))) (M := s.N + 70) (t := s.t) (by simp only [spun_len]; exact hl) (v' := .osl (s.N + 52, 0) 0 (r.length + 1) 3 ver) (l' := turnQ (q :: r)) (o' := some (s.N + 52, 0)) ho (by omega)
              (fun p hp => by cases hp; exact ⟨.inr (by simp only; omega), by simp only; omega⟩) (upd_same _ _ _) (hl1'.keep fun p hp => by cases hp; exact upd_ne nL)
              (fun p hp e1 e2 => by rw [upd_ne e1]; exact k7 p (hsch.foot_lt hp) (hRr p hp))
            simp only [spun_set hl0] at hs2
            have tL : oT ≠ oL := fun e => by have := haw oL (.inr (.inl rfl)); rw [← e] at this; omega
            refine .next (TkS.mk (s.t + 1) (upd H7 oL (.cells (s.vs.set s.t (.osl (s.N + 52, 0) 0 (r.length + 1) 3 ver)))) (s.N + 70) (s.vs.set s.t (.osl (s.N + 52, 0) 0 (r.length + 1) 3 ver)) (s.os.set s.t (some (s.N + 52, 0)))) (by simp) (by simp [hRs, runA]) (by simp [hset]) ⟨hl, ?_⟩ (by simp only; omega) rfl
            refine ⟨hs2, ?_, ?_, by simp only; omega, fun p hp => ?_, fun p hp hFt => ?_⟩
            · simp only; rw [upd_ne rLo.symm, hk7 oR (nS oR (by omega) _ _), hH6, upd_ne (nS oR (by omega) _ _), hH5, upd_ne (nS oR (by omega) _ _), hH4, upd_ne (nS oR (by omega) _ _), hH3, upd_same, hRs]
            · simp only; rw [upd_ne tL, k7 oT (by omega) hO.ne.symm]; exact hI.late
            · rcases List.mem_or_eq_of_mem_set hp with q | q
              · exact hI.os p q
              · cases q; exact .inr (by simp only; omega)
            · simp only
              rw [upd_ne (fun e => hFt (.inr (.inl e))), k7 p (by omega) (fun e => by rw [e] at hp; omega)]
              exact hI.fr p hp hFt
      · have hte : s.t = S.lines.length := Nat.le_antisymm hi hl
        simp [b14_0, hte, hroot]
        refine .fin _ _ ⟨s.vs, s.os, rfl, by simp, ?_⟩
        have := hI
        rw [hte, List.take_length, spun_end] at this
        exact { this with sch := this.sch.mono (by simp only; omega), le := by have := this.le; simp only; omega }) ⟨0, H, N, vs, os⟩ ⟨Nat.zero_le _, by simpa [runsOf, spun] using h0⟩
  simpa [runsOf] using key
end Go.Proofs.Ytnlmonokkppagaa.Am

/-
  The document's scheduler: a tick. No condition.
-/
namespace Go.Proofs.Ytnlmonokkppagaa.Am
open Go Go.Proofs
set_option maxHeartbeats 4000000
set_option maxRecDepth 20000
set_option linter.unusedSimpArgs false
set_option linter.unusedVariables false
theorem SchH.clock {H H' : Hp} {N : Nat} {oS oL : Oid} {vs : List AV} {os : List (Option Oid)} {S : Sc} (h : SchH H N oS oL vs os S) {now : Int} (hr : H' oS = some (.cells [.d (.int .i64 S.ways), .d (.int .i64 now), .osl oL 0 S.lines.length 1 S.lines.length])) (hk : ∀ p, Foot oS oL os p → p ≠ oS → H' p = H p) : SchH H' N oS oL vs os ⟨S.ways, now, S.lines⟩ :=
  ⟨hr, (hk oL (.inr (.inl rfl)) h.ne.symm).trans h.tab, h.vlen, h.olen, fun t v l o a b c => (h.line t v l o a b c).keep fun p hp => by
    subst hp; exact hk p (.inr (.inr (List.mem_of_getElem? c))) (h.neS t p c), h.nd, h.ltS, h.ltL, h.lt, h.ne, h.neS, h.neL⟩
/-- The loops of a tick, from where the clock was set on. -/
theorem tickR_loops {H0 : Hp} {nx K : Nat} {oS oL : Oid} {os0 : List (Option Oid)} {oR oT : Oid} (hO : RkO nx K oR oT) {S : Sc} (hb : ∀ p, Foot oS oL os0 p → p.1 < nx) (hn : S.lines.length ≤ 16) (h64 : ∀ l ∈ S.lines, l.length ≤ 64) (hw0 : S.ways ≠ 0) (r2 r3 : AV) {H : Hp} {vs : List AV} {N : Nat} (h0 : RkI H0 nx K oS oL os0 oR oT [] [] S H N vs os0) :
    ∃ H1 n1 H2 n2 vs2 os2, aloop Try.prog plc b14_2 ⟨[true, false, true, true, true, true, true, false, false, false, true, true, false, false, false, false, false, false, false, false, false, false, false, false, false, false, false, false, false, false, false, false, false, false, false, false, false, false, false, false, false, false, false, false, false, false, false, false, false, false, false, false, false, false, false, false, false, false, false, false, false, false, false, false, false, false, false, false, false, false, false, false, false, false, false, false, false, false, false, false, false, false, false, false, false, true, true, true, true, true, true, true, true, true, true, true, true, true, true, true, true, true, true, true, true, true, true, true, true, true, true, true, true, true, true, true, true, true, true, true, true, true, true, true, true, true, true, true, true, true, true, true, true, true, true, true, true, true, true, true, true, true, true, true, true, true, true, true, true, true, true], none⟩ ⟨rk1T oS r2 r3 (runA oR []) oT [] 0, H, N⟩ = some (.exit 0, ⟨rk1T oS r2 r3 (runA oR []) oT (lateOf S.now 0 S.lines) S.lines.length, H1, n1⟩) ∧
      aloop Try.prog plc b14_0 ⟨[true, false, true, true, true, true, false, false, false, false, true, false, false, false, false, false, false, false, false, false, false, false, false, false, false, false, false, false, false, false, false, false, false, false, false, false, false, false, false, false, false, false, false, false, false, false, false, false, false, false, false, false, false, false, false, false, false, false, false, false, false, false, false, false, false, false, false, false, false, false, false, false, false, false, false, false, false, false, false, false, false, false, false, false, false, false, false, false, false, false, false, false, false, false, false, false, false, false, false, false, false, false, false, false, false, false, false, false, false, false, false, false, false, false, false, false, false, false, false, false, false, false, false, false, false, false, false, false, false, false, false, false, false, false, false, false, false, false, false, false, false, false, false, false, false, false, false, false, false, true, true], none⟩ ⟨rk2T oS r2 r3 oR [] (runA oT (lateOf S.now 0 S.lines)) 0, H1, n1 + 1⟩ = some (.exit 4, ⟨rk2T oS r2 r3 oR (runsOf S.ways 0 (leftOf' S.now S.lines)) (runA oT (lateOf S.now 0 S.lines)) S.lines.length, H2, n2⟩) ∧
      RkI H0 nx K oS oL os0 oR oT (runsOf S.ways 0 (leftOf' S.now S.lines)) (lateOf S.now 0 S.lines) ⟨S.ways, S.now, (leftOf' S.now S.lines).map turnQ⟩ H2 n2 vs2 os2 := by
  obtain ⟨e1, ⟨tm1, H1, n1⟩, hr1, vs1, os1, rfl, htm1, hI1⟩ := tickR1 hO hb hn h64 r2 r3 (runA oR []) h0
  simp only at htm1 hI1
  subst htm1
  have hI1' : RkI H0 nx K oS oL os0 oR oT [] (lateOf S.now 0 S.lines) ⟨S.ways, S.now, leftOf' S.now S.lines⟩ H1 (n1 + 1) vs1 os1 := { hI1 with sch := hI1.sch.mono (by omega), le := by have := hI1.le; omega }
  obtain ⟨e2, ⟨tm2, H2, n2⟩, hr2, vs2, os2, rfl, htm2, hI2⟩ := tickR2 (S := ⟨S.ways, S.now, leftOf' S.now S.lines⟩) hO hb (by simp only [left_len]; exact hn) hw0 r2 r3 (runA oT (lateOf S.now 0 S.lines)) hI1'
  simp only [left_len] at htm2 hI2
  subst htm2
  exact ⟨H1, n1, H2, n2, vs2, os2, hr1, hr2, hI2⟩
theorem tickR_ok {H : Hp} {N : Nat} {oS oL : Oid} {vs : List AV} {os : List (Option Oid)} {S : Sc} (h : SchH H N oS oL vs os S) (nx : Nat) (hN : N ≤ nx) (hn : S.lines.length ≤ 16) (hw0 : S.ways ≠ 0) (hnow : 0 ≤ S.now ∧ S.now ≤ 1099511627776) :
    ∃ H' nx' vs' os' o1 o2, acall Try.prog plc 14 [.ptr oS 0 3] H nx = some (.tup [runA o1 S.runs, runA o2 S.late], H', nx') ∧ Ticked H nx oS oL os S H' nx' vs' os' o1 o2 := by
  have hroot := h.root
  have fS := h.ltS; have fL := h.ltL
  have hfb : ∀ p, Foot oS oL os p → p.1 < nx := fun p hp => Nat.lt_of_lt_of_le (h.foot_lt hp) hN
  have nS : ∀ (p : Oid), p.1 < nx → ∀ a b : Nat, p ≠ (nx + a, b) := fun p hp a b e => by rw [e] at hp; simp only at hp; omega
  have done : ∀ {K : Nat} {oR oT : Oid} {H' : Hp} {n' : Nat} {vs' : List AV} {os' : List (Option Oid)}, RkO nx K oR oT → RkI H nx K oS oL os oR oT S.runs S.late S.tick H' n' vs' os' → ∀ M, n' ≤ M → Ticked H nx oS oL os S H' M vs' os' oR oT := fun hO hI M hM => by
    have g0 := hO.r0; have g1 := hO.r1; have g2 := hO.t0; have g3 := hO.t1
    have hle := hI.le
    exact ⟨⟨by omega, hI.sch.mono hM, hI.fr, fun p hp => (hI.os p hp).imp (fun e => e) (fun e => by omega)⟩, hI.rr, hI.late, g0, g2, by omega, by omega, fun hF => by have := hI.away hfb hF; omega, fun hF => by have := hI.away hfb hF; omega⟩
  have hw2 : wdR [] = 1 := rfl
  obtain ⟨Hy, hHy⟩ : ∃ Hy : Hp, Hy = upd (upd H (nx, 1) .vnil) (nx + 1, 1) .vnil := ⟨_, rfl⟩
  have ky : ∀ p : Oid, p.1 < nx → Hy p = H p := fun p hp => by rw [hHy, upd_old (by omega), upd_old (by omega)]
  have yS := (ky oS (by omega)).trans hroot
  by_cases hlt : S.now < 1099511627776
  · have hnx : S.next = S.now + 1 := by simp [Sc.next, hlt]
    have hw1 : IntKind.i64.wrap (S.now + 1) = S.now + 1 := wrap_i64 (by omega) (by omega)
    obtain ⟨H1, hH1⟩ : ∃ H1 : Hp, H1 = upd Hy oS (.cells [.d (.int .i64 S.ways), .d (.int .i64 (S.now + 1)), .osl oL 0 S.lines.length 1 S.lines.length]) := ⟨_, rfl⟩
    have k1 : ∀ p : Oid, p.1 < nx → p ≠ oS → H1 p = H p := fun p hp e => by rw [hH1, upd_ne e]; exact ky p hp
    obtain ⟨Hz, hHz⟩ : ∃ Hz : Hp, Hz = upd (upd H1 (nx + 15, 1) .vnil) (nx + 16, 1) .vnil := ⟨_, rfl⟩
    have kz : ∀ p : Oid, p.1 < nx → Hz p = H1 p := fun p hp => by rw [hHz, upd_ne (nS p hp _ _), upd_ne (nS p hp _ _)]
    have hO : RkO nx 18 (nx + 15, 1) (nx + 16, 1) := ⟨by simp, by simp, by simp, by simp, by simp⟩
    have h0 : RkI H nx 18 oS oL os (nx + 15, 1) (nx + 16, 1) [] [] ⟨S.ways, S.next, S.lines⟩ Hz (nx + 18) vs os := by
      refine ⟨(h.clock (now := S.next) (by rw [kz oS (by omega), hH1, upd_same, hnx]) fun p hp e => by rw [kz p (hfb p hp)]; exact k1 p (hfb p hp) e).mono (by omega), ?_, ?_, Nat.le_refl _, fun p hp => .inl hp, fun p hp hF => by rw [kz p hp]; exact k1 p hp fun e => hF (.inl e)⟩
      · rw [hHz, upd_ne (by simp), upd_same]; rfl
      · rw [hHz, upd_same]; rfl
    obtain ⟨Ha, na, Hb, nb, vs2, os2, hr1, hr2, hI2⟩ := tickR_loops (S := ⟨S.ways, S.next, S.lines⟩) hO hfb hn h.small hw0 (.osl (nx, 1) 0 0 1 0) (.osl (nx + 1, 1) 0 0 1 0) h0
    refine ⟨Hb, nb + 4, vs2, os2, (nx + 15, 1), (nx + 16, 1), acall_body code14 ?_, done hO hI2 _ (by omega)⟩
    simp only [rk1T, rk2T, runA, hw2, List.length_nil, Nat.zero_mul, Int.natCast_zero] at hr1 hr2
    simp [plc_raw, ← hHy, yS, hlt, Nat.add_assoc, hw1, ← hH1, ← hHz, hr1, hr2, runA]
    exact ⟨⟨rfl, rfl, rfl⟩, rfl, rfl, rfl⟩
  · have hnx : S.next = S.now := by simp [Sc.next, hlt]
    obtain ⟨Hz, hHz⟩ : ∃ Hz : Hp, Hz = upd (upd Hy (nx + 7, 1) .vnil) (nx + 8, 1) .vnil := ⟨_, rfl⟩
    have kz : ∀ p : Oid, p.1 < nx → Hz p = H p := fun p hp => by rw [hHz, upd_ne (nS p hp _ _), upd_ne (nS p hp _ _)]; exact ky p hp
    have hO : RkO nx 10 (nx + 7, 1) (nx + 8, 1) := ⟨by simp, by simp, by simp, by simp, by simp⟩
    have h0 : RkI H nx 10 oS oL os (nx + 7, 1) (nx + 8, 1) [] [] ⟨S.ways, S.next, S.lines⟩ Hz (nx + 10) vs os := by
      refine ⟨(h.clock (now := S.next) (by rw [kz oS (by omega), hroot, hnx]) fun p hp e => kz p (hfb p hp)).mono (by omega), ?_, ?_, Nat.le_refl _, fun p hp => .inl hp, fun p hp hF => kz p hp⟩
      · rw [hHz, upd_ne (by simp), upd_same]; rfl
      · rw [hHz, upd_same]; rfl
    obtain ⟨Ha, na, Hb, nb, vs2, os2, hr1, hr2, hI2⟩ := tickR_loops (S := ⟨S.ways, S.next, S.lines⟩) hO hfb hn h.small hw0 (.osl (nx, 1) 0 0 1 0) (.osl (nx + 1, 1) 0 0 1 0) h0
    refine ⟨Hb, nb + 4, vs2, os2, (nx + 7, 1), (nx + 8, 1), acall_body code14 ?_, done hO hI2 _ (by omega)⟩
    simp only [rk1T, rk2T, runA, hw2, List.length_nil, Nat.zero_mul, Int.natCast_zero] at hr1 hr2
    simp [plc_raw, ← hHy, yS, hlt, Nat.add_assoc, ← hHz, hr1, hr2, runA]
    exact ⟨⟨rfl, rfl, rfl⟩, rfl, rfl, rfl⟩
end Go.Proofs.Ytnlmonokkppagaa.Am

/-
  The scheduler and the document's, side by side. No condition.
-/
namespace Go.Proofs.Ytnlmonokkppagaa.Am
open Go Go.Proofs
set_option maxHeartbeats 4000000
set_option maxRecDepth 20000
set_option linter.unusedSimpArgs false
set_option linter.unusedVariables false
abbrev plT (l : List Op4) (t0 : Int) (oS pS : Oid) (i : Nat) : List AV := [.junk, .junk, .d (dO l), .d (.int .i64 t0), .junk, .junk, .junk, .junk, .d (.bool false), .ptr oS 0 3, .junk, .ptr pS 0 3, .d (.int .i64 i), .junk, .junk, .junk, .junk, .junk, .junk, .junk, .junk, .junk, .junk, .junk, .junk, .junk, .junk, .junk, .junk, .junk, .junk, .junk, .junk, .junk, .junk, .junk, .junk, .junk, .junk, .junk, .junk, .junk, .junk, .junk, .junk, .junk, .junk, .junk, .junk, .junk, .junk, .junk, .junk, .junk, .junk, .junk, .junk, .junk, .junk, .junk, .junk, .junk, .junk, .junk, .junk, .junk, .junk, .junk, .junk, .junk, .junk, .junk, .junk, .junk, .junk, .junk, .junk, .junk, .junk, .junk, .junk, .junk, .junk, .junk, .junk, .junk, .junk, .junk, .junk, .junk, .junk, .junk, .junk, .junk, .junk, .junk, .junk, .junk, .junk, .junk, .junk, .junk, .junk, .junk, .junk, .junk, .junk, .junk, .junk, .junk, .junk, .junk, .junk, .junk, .junk, .junk, .junk, .junk, .junk, .junk, .junk, .junk, .junk, .junk, .junk, .junk, .junk, .junk, .junk, .junk, .junk, .junk, .junk, .junk, .junk, .junk, .junk, .junk, .junk, .junk, .junk]
structure TwP where
  i : Nat
  H : Hp
  N : Nat
  vs : List AV
  os : List (Option Oid)
  us : List AV
  ps : List (Option Oid)
  S : Sc
  T : Sc
structure PlI (oS oL pS pL : Oid) (l : List Op4) (s : TwP) : Prop where
  le : s.i ≤ l.length
  two : Two s.H s.N oS oL s.vs s.os s.S pS pL s.us s.ps s.T
  rel : s.S = s.T
  ok : s.S.Ok
  len : s.S.lines.length ≤ 16
theorem add_len (S : Sc) (t i d : Int) : (S.add t i d).1.lines.length = S.lines.length := by 
  unfold Sc.add; split
  · rfl
  · split
    · rfl
    · split
      · rfl
      · simp
theorem rem_len (S : Sc) (t i : Int) : (S.rem t i).1.lines.length = S.lines.length := by
  unfold Sc.rem; split
  · rfl
  · split
    · rfl
    · simp
theorem tick_len (S : Sc) : S.tick.lines.length = S.lines.length := by simp [Sc.tick, leftOf']
theorem plays_loop (l : List Op4) (t0 : Int) (hn : l.length ≤ 9223372036854775807) (oS oL pS pL : Oid) (s0 : TwP) (h0 : PlI oS oL pS pL l s0) (hi0 : s0.i = 0) :
    ∃ e st, aloop Try.prog plc b4_0 ⟨[false, false, true, true, false, false, false, false, true, true, false, true, true, false, false, false, false, false, false, false, false, false, false, false, false, false, false, false, false, false, false, false, false, false, false, false, false, false, false, false, false, false, false, false, false, false, false, false, false, false, false, false, false, false, false, false, false, false, false, false, false, false, false, false, false, false, false, false, false, false, false, false, false, false, false, false, false, false, false, false, false, false, false, false, false, false, false, false, false, false, false, false, false, false, false, false, false, false, false, false, false, false, false, false, false, false, false, false, false, false, false, false, false, false, false, false, false, false, false, false, false, false, false, false, false, false, false, false, false, false, false, false, false, false, true, true, true, true, true, true, true], none⟩ ⟨plT l t0 oS pS 0, s0.H, s0.N⟩ = some (e, st) ∧ (e = .exit 0 ∧ st.tm = plT l t0 oS pS l.length ∧ ∃ s, PlI oS oL pS pL l s ∧ st.hp = s.H ∧ st.nx = s.N) := by
  have key := loop_ruleN (P := Try.prog) (pol := plc) (c := b4_0) (m := ⟨[false, false, true, true, false, false, false, false, true, true, false, true, true, false, false, false, false, false, false, false, false, false, false, false, false, false, false, false, false, false, false, false, false, false, false, false, false, false, false, false, false, false, false, false, false, false, false, false, false, false, false, false, false, false, false, false, false, false, false, false, false, false, false, false, false, false, false, false, false, false, false, false, false, false, false, false, false, false, false, false, false, false, false, false, false, false, false, false, false, false, false, false, false, false, false, false, false, false, false, false, false, false, false, false, false, false, false, false, false, false, false, false, false, false, false, false, false, false, false, false, false, false, false, false, false, false, false, false, false, false, false, false, false, false, true, true, true, true, true, true, true], none⟩)
    (N := fun s : TwP => s.N) (tm := fun s => plT l t0 oS pS s.i) (Hf := fun s => s.H) (I := PlI oS oL pS pL l)
    (μ := fun s => l.length - s.i) (res := fun _ => ()) (R := fun _ e st => e = .exit 0 ∧ st.tm = plT l t0 oS pS l.length ∧ ∃ s, PlI oS oL pS pL l s ∧ st.hp = s.H ∧ st.nx = s.N)
    (fun s hI => by
      obtain ⟨hi, hT, hR, hO, hL⟩ := hI
      rcases Nat.lt_or_ge s.i l.length with hlt | hlt
      · obtain ⟨k, t, x, d, q⟩ := o_at (by omega) hlt
        obtain ⟨Hz, hHz⟩ : ∃ Hz : Hp, Hz = upd s.H (s.N + 8, 0) (.cells [.d (.int .i64 k), .d (.int .i64 t), .d (.int .i64 x), .d (.int .i64 d)]) := ⟨_, rfl⟩
        have hTz : Two Hz s.N oS oL s.vs s.os s.S pS pL s.us s.ps s.T := hT.old fun p hp => by rw [hHz]; exact upd_old (by omega) _ _ _
        have hz0 : Hz (s.N + 8, 0) = some (.cells [.d (.int .i64 k), .d (.int .i64 t), .d (.int .i64 x), .d (.int .i64 d)]) := by rw [hHz]; exact upd_same _ _ _
        have fz : ∀ p : Oid, s.N ≤ p.1 → ¬ Foot oS oL s.os p ∧ ¬ Foot pS pL s.ps p := fun p hp => ⟨fun hF => by have := hTz.a.foot_lt hF; omega, fun hF => by have := hTz.b.foot_lt hF; omega⟩
        rw [← hR] at hTz
        by_cases hk1 : k = 1
        · subst hk1
          obtain ⟨H1, n1, vs1, os1, c1, d1⟩ := add_ok hTz.a (s.N + 31) (by omega) (by omega) t x d
          have g1 := d1.le
          have hT1 := hTz.left (by omega) d1
          have z1 := (d1.fr (s.N + 8, 0) (by simp only; omega) (fz _ (by simp only; omega)).1).trans hz0
          obtain ⟨H2, n2, us2, ps2, c2, d2⟩ := addR_ok hT1.b (n1 + 0) (by omega) (by omega) t x d
          have g2 := d2.le
          have hT2 := hT1.right (by omega) d2
          simp only [Nat.add_zero] at c2
          have z2 := (d2.fr (s.N + 8, 0) (by simp only; omega) (fz _ (by simp only; omega)).2).trans z1
          have hO3 : (s.S.add t x d).1.Ok := hO.add _ _ _
          have hL3 : (s.S.add t x d).1.lines.length ≤ 16 := by rw [add_len]; exact hL
          have m1 := now_ok hT2.a (n2 + 19)
          have rT := hT2.b.root
          obtain ⟨H3, n3, c3, g13, w3, k3⟩ := queries_ok hT2.a (n2 + 27) (by omega) hL3 t
          have hT3 := Two.old (H' := H3) hT2 fun p hp => k3 p (by omega)
          have z3 := (k3 (s.N + 8, 0) (by simp only; omega)).trans z2
          obtain ⟨H4, n4, c4, g14, w4, k4⟩ := queriesR_ok hT3.b (n3 + 0) (by omega) hL3 t
          have hT4 := Two.old (H' := H4) hT3 fun p hp => k4 p (by omega)
          have w5 := (k4 (n2 + 27 + 9, 1) (by simp only; omega)).trans w3
          have hx := ints_ok ((s.S.add t x d).1.ids t) ((s.S.add t x d).1.ids t) (hT2.a.idsLe t)
          simp only [decide_true] at hx
          obtain ⟨v5, j5, e5, f5⟩ := ids_reify w5 5
          obtain ⟨v6, j6, e6, f6⟩ := ids_reify w4 5
          simp only [Nat.reduceAdd, idsA, Nat.add_assoc, Nat.add_zero] at e5 e6 c3 c4 m1
          conv => arg 9; arg 4; unfold b4_0
          simp [plc_raw, Nat.add_assoc, q.lti, q.len, q.ltm, q.dr, q.le4, q.w, ← hHz, hz0, c1, c2, z1, z2, m1, rT, c3, c4, z3, e5, e6, f5, f6, hx, -reify]
          exact .next (TwP.mk (s.i + 1) H4 (n4 + 3) vs1 os1 us2 ps2 (s.S.add t x d).1 (s.S.add t x d).1) (by simp) (by simp) rfl ⟨hlt, hT4.mono (by simp only; omega), rfl, hO3, hL3⟩ (by simp only; omega) rfl
        · by_cases hk2 : k = 2
          · subst hk2
            obtain ⟨H1, n1, vs1, os1, c1, d1⟩ := rem_ok hTz.a (s.N + 29) (by omega) (by omega) t x
            have g1 := d1.le
            have hT1 := hTz.left (by omega) d1
            have z1 := (d1.fr (s.N + 8, 0) (by simp only; omega) (fz _ (by simp only; omega)).1).trans hz0
            obtain ⟨H2, n2, us2, ps2, c2, d2⟩ := remR_ok hT1.b (n1 + 0) (by omega) (by omega) t x
            have g2 := d2.le
            have hT2 := hT1.right (by omega) d2
            simp only [Nat.add_zero] at c2
            have z2 := (d2.fr (s.N + 8, 0) (by simp only; omega) (fz _ (by simp only; omega)).2).trans z1
            have hO3 : (s.S.rem t x).1.Ok := hO.rem _ _
            have hL3 : (s.S.rem t x).1.lines.length ≤ 16 := by rw [rem_len]; exact hL
            have m1 := now_ok hT2.a (n2 + 19)
            have rT := hT2.b.root
            obtain ⟨H3, n3, c3, g13, w3, k3⟩ := queries_ok hT2.a (n2 + 27) (by omega) hL3 t
            have hT3 := Two.old (H' := H3) hT2 fun p hp => k3 p (by omega)
            have z3 := (k3 (s.N + 8, 0) (by simp only; omega)).trans z2
            obtain ⟨H4, n4, c4, g14, w4, k4⟩ := queriesR_ok hT3.b (n3 + 0) (by omega) hL3 t
            have hT4 := Two.old (H' := H4) hT3 fun p hp => k4 p (by omega)
            have w5 := (k4 (n2 + 27 + 9, 1) (by simp only; omega)).trans w3
            have hx := ints_ok ((s.S.rem t x).1.ids t) ((s.S.rem t x).1.ids t) (hT2.a.idsLe t)
            simp only [decide_true] at hx
            obtain ⟨v5, j5, e5, f5⟩ := ids_reify w5 5
            obtain ⟨v6, j6, e6, f6⟩ := ids_reify w4 5
            simp only [Nat.reduceAdd, idsA, Nat.add_assoc, Nat.add_zero] at e5 e6 c3 c4 m1
            conv => arg 9; arg 4; unfold b4_0
            simp [plc_raw, Nat.add_assoc, q.lti, q.len, q.ltm, q.dr, q.le4, q.w, ← hHz, hz0, c1, c2, z1, z2, m1, rT, c3, c4, z3, e5, e6, f5, f6, hx, -reify]
            exact .next (TwP.mk (s.i + 1) H4 (n4 + 3) vs1 os1 us2 ps2 (s.S.rem t x).1 (s.S.rem t x).1) (by simp) (by simp) rfl ⟨hlt, hT4.mono (by simp only; omega), rfl, hO3, hL3⟩ (by simp only; omega) rfl
          · by_cases hk3 : k = 3
            · subst hk3
              obtain ⟨H1, n1, vs1, os1, o1, o2, c1, t1⟩ := tick_ok hTz.a (s.N + 25) (by omega) (by omega) hO.1 ⟨hO.2.1, hO.2.2⟩
              have g1 := t1.n1; have g2 := t1.n2; have g3 := t1.l1; have g4 := t1.l2
              have hT1 := hTz.left (by omega) t1.did
              have z1 := (t1.did.fr (s.N + 8, 0) (by simp only; omega) (fz _ (by simp only; omega)).1).trans hz0
              obtain ⟨H2, n2, us2, ps2, q1, q2, c2, t2⟩ := tickR_ok hT1.b (n1 + 7) (by omega) (by omega) hO.1 ⟨hO.2.1, hO.2.2⟩
              have g5 := t2.n1; have g6 := t2.n2; have g7 := t2.l1; have g8 := t2.l2
              have hT2 := hT1.right (by omega) t2.did
              have z2 := (t2.did.fr (s.N + 8, 0) (by simp only; omega) (fz _ (by simp only; omega)).2).trans z1
              have r1 := (t2.did.fr o1 (by omega) (fz o1 (by omega)).2).trans t1.runs
              have r2 := (t2.did.fr o2 (by omega) (fz o2 (by omega)).2).trans t1.late
              have hx1 := same_ok s.S.runs s.S.runs (hTz.a.runsLe (by omega))
              have hx2 := same_ok s.S.late s.S.late (hTz.a.lateLe (by omega))
              simp only [decide_true] at hx1 hx2
              obtain ⟨v1, j1, e1, f1⟩ := run_reify r1 5
              obtain ⟨v2, j2, e2, f2⟩ := run_reify r2 5
              obtain ⟨v3, j3, e3, f3⟩ := run_reify t2.runs 5
              obtain ⟨v4, j4, e4, f4⟩ := run_reify t2.late 5
              simp only [Nat.reduceAdd, runA] at e1 e2 e3 e4 c1 c2
              have hO3 : s.S.tick.Ok := hO.tick
              have hL3 : s.S.tick.lines.length ≤ 16 := by rw [tick_len]; exact hL
              have m1 := now_ok hT2.a (n2 + 29)
              have rT := hT2.b.root
              obtain ⟨H3, n3, c3, g13, w3, k3⟩ := queries_ok hT2.a (n2 + 37) (by omega) hL3 t
              have hT3 := Two.old (H' := H3) hT2 fun p hp => k3 p (by omega)
              have z3 := (k3 (s.N + 8, 0) (by simp only; omega)).trans z2
              obtain ⟨H4, n4, c4, g14, w4, k4⟩ := queriesR_ok hT3.b (n3 + 0) (by omega) hL3 t
              have hT4 := Two.old (H' := H4) hT3 fun p hp => k4 p (by omega)
              have w5 := (k4 (n2 + 37 + 9, 1) (by simp only; omega)).trans w3
              have hx := ints_ok (s.S.tick.ids t) (s.S.tick.ids t) (hT2.a.idsLe t)
              simp only [decide_true] at hx
              obtain ⟨v5, j5, e5, f5⟩ := ids_reify w5 5
              obtain ⟨v6, j6, e6, f6⟩ := ids_reify w4 5
              simp only [Nat.reduceAdd, idsA, Nat.add_assoc, Nat.add_zero] at e5 e6 c3 c4 m1
              conv => arg 9; arg 4; unfold b4_0
              simp [plc_raw, Nat.add_assoc, q.lti, q.len, q.ltm, q.dr, q.le4, q.w, ← hHz, hz0, c1, c2, z1, z2, e1, e2, e3, e4, f1, f2, f3, f4, hx1, hx2, m1, rT, c3, c4, z3, e5, e6, f5, f6, hx, -reify]
              exact .next (TwP.mk (s.i + 1) H4 (n4 + 3) vs1 os1 us2 ps2 s.S.tick s.S.tick) (by simp) (by simp) rfl ⟨hlt, hT4.mono (by simp only; omega), rfl, hO3, hL3⟩ (by simp only; omega) rfl
            · have hO3 := hO
              have hL3 := hL
              have m1 := now_ok hTz.a (s.N + 37)
              have rT := hTz.b.root
              obtain ⟨H3, n3, c3, g13, w3, k3⟩ := queries_ok hTz.a (s.N + 45) (by omega) hL3 t
              have hT3 := Two.old (H' := H3) hTz fun p hp => k3 p (by omega)
              have z3 := (k3 (s.N + 8, 0) (by simp only; omega)).trans hz0
              obtain ⟨H4, n4, c4, g14, w4, k4⟩ := queriesR_ok hT3.b (n3 + 0) (by omega) hL3 t
              have hT4 := Two.old (H' := H4) hT3 fun p hp => k4 p (by omega)
              have w5 := (k4 (s.N + 45 + 9, 1) (by simp only; omega)).trans w3
              have hx := ints_ok (s.S.ids t) (s.S.ids t) (hTz.a.idsLe t)
              simp only [decide_true] at hx
              obtain ⟨v5, j5, e5, f5⟩ := ids_reify w5 5
              obtain ⟨v6, j6, e6, f6⟩ := ids_reify w4 5
              simp only [Nat.reduceAdd, idsA, Nat.add_assoc, Nat.add_zero] at e5 e6 c3 c4 m1
              conv => arg 9; arg 4; unfold b4_0
              simp [plc_raw, Nat.add_assoc, q.lti, q.len, q.ltm, q.dr, q.le4, q.w, ← hHz, hz0, hk1, hk2, hk3, m1, rT, c3, c4, z3, e5, e6, f5, f6, hx, -reify]
              exact .next (TwP.mk (s.i + 1) H4 (n4 + 3) s.vs s.os s.us s.ps s.S s.S) (by simp) (by simp) rfl ⟨hlt, hT4.mono (by simp only; omega), rfl, hO3, hL3⟩ (by simp only; omega) rfl
      · have hte : s.i = l.length := Nat.le_antisymm hi hlt
        simp [b4_0, hte]
        exact .fin _ _ ⟨rfl, by simp, { s with N := s.N + 4 }, ⟨hi, hT.mono (by simp only; omega), hR, hO, hL⟩, rfl, rfl⟩) s0 h0
  rw [hi0] at key
  simpa using key
end Go.Proofs.Ytnlmonokkppagaa.Am

/-
  The scheduler: SchedPlays returns true. No condition.
-/
namespace Go.Proofs.Ytnlmonokkppagaa.Am
open Go Go.Proofs
set_option maxHeartbeats 4000000
set_option maxRecDepth 20000
set_option linter.unusedSimpArgs false
set_option linter.unusedVariables false
theorem schedPlays_ok (n w : Int) (l : List Op4) (t0 : Int) (hn : l.length ≤ 9223372036854775807) : pcl Cp 4 [.int .i64 n, .int .i64 w, dO l, .int .i64 t0] = some (.bool true) := by
  have hal := alive21_ok
  refine pcl_body code4 ?_
  by_cases h1 : n < 1 ∨ 16 < n ∨ w < 1 ∨ 16 < w
  · obtain ⟨n0, c0⟩ := new_bad (fun _ => none) 9 n w h1
    obtain ⟨n1, c1⟩ := newR_bad (fun _ => none) (n0 + 4) n w h1
    simp [plc_raw, c0, c1, hal, Nat.add_assoc]
  obtain ⟨n, rfl⟩ : ∃ k : Nat, n = k := ⟨n.toNat, by omega⟩
  obtain ⟨w, rfl⟩ : ∃ k : Nat, w = k := ⟨w.toNat, by omega⟩
  obtain ⟨H0, n0, oS, oL, vs0, os0, c0, g0, s0, k0, f0⟩ := new_ok (fun _ => none) 9 n w (by omega) (by omega) (by omega) (by omega)
  obtain ⟨H1, n1, pS, pL, us0, ps0, c1, g1, s1, k1, f1⟩ := newR_ok H0 (n0 + 4) n w (by omega) (by omega) (by omega) (by omega)
  have hT : Two H1 n1 oS oL vs0 os0 ⟨w, 0, List.replicate n []⟩ pS pL us0 ps0 ⟨w, 0, List.replicate n []⟩ :=
    ⟨(s0.keep fun p hp => k1 p (by have := s0.foot_lt hp; omega)).mono (by omega), s1, fun p hp hq => by have := s0.foot_lt hp; have := f1 p hq; omega⟩
  obtain ⟨e, ⟨tm, Hq, nq⟩, hr, rfl, htm, s, hI, rfl, rfl⟩ := plays_loop l t0 hn oS oL pS pL ⟨0, H1, n1 + 19, vs0, os0, us0, ps0, ⟨w, 0, List.replicate n []⟩, ⟨w, 0, List.replicate n []⟩⟩ ⟨Nat.zero_le _, hT.mono (by simp only; omega), rfl, ⟨by simp only; omega, by simp only; omega, by simp only; omega⟩, by simp; omega⟩ rfl
  simp only at htm
  subst htm
  obtain ⟨_, hT2, hR2, hO2, hL2⟩ := hI
  rw [← hR2] at hT2
  obtain ⟨H3, n3, c3, g13, w3, k3⟩ := queries_ok hT2.a (s.N + 8) (by omega) hL2 t0
  have hT3 := Two.old (H' := H3) hT2 fun p hp => k3 p (by omega)
  obtain ⟨H4, n4, c4, g14, w4, k4⟩ := queriesR_ok hT3.b n3 (by omega) hL2 t0
  have w5 := (k4 (s.N + 8 + 9, 1) (by simp only; omega)).trans w3
  have hx := ints_ok (s.S.ids t0) (s.S.ids t0) (hT2.a.idsLe t0)
  simp only [decide_true] at hx
  obtain ⟨v5, j5, e5, f5⟩ := ids_reify w5 5
  obtain ⟨v6, j6, e6, f6⟩ := ids_reify w4 5
  simp only [Nat.reduceAdd, idsA, Nat.add_assoc, Nat.add_zero] at e5 e6 c3 c4
  simp only [plT, Int.natCast_zero] at hr
  simp [plc_raw, c0, c1, hal, Nat.add_assoc, hr, c3, c4, e5, e6, f5, f6, hx, -reify]
  exact ⟨_, ⟨_, reify_d _ _ _⟩, rfl⟩
end Go.Proofs.Ytnlmonokkppagaa.Am


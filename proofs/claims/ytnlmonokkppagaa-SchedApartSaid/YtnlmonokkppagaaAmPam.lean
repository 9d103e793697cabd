/-
  Joined texts: AmTt, AmTu, AmTv, AmTw, AmTz. No condition.
-/
import Derived.Test.YtnlmonokkppagaaAmPal
/-
  The scheduler's laws: are rows of runs the same for the tenant 1, are rows of numbers the same? No condition.
-/
namespace Go.Proofs.Ytnlmonokkppagaa.Am
open Go Go.Proofs
set_option maxHeartbeats 4000000
set_option maxRecDepth 20000
set_option linter.unusedSimpArgs false
set_option linter.unusedVariables false
theorem encR_drop : ∀ (l : List Rn) (i : Nat), (encR l).drop (i * 3) = encR (l.drop i)
  | [], i => by simp [encR]
  | (t, x, k) :: r, 0 => by simp [encR]
  | (t, x, k) :: r, i + 1 => by rw [show (i + 1) * 3 = i * 3 + 1 + 1 + 1 by omega]; simp [encR, encR_drop r i]
structure RAt (l : List Rn) (i : Nat) (t x k : Int) : Prop where
  get : l[i]? = some (t, x, k)
  lti : (i : Int) < (l.length : Int)
  len : (encR l).length = l.length * 3
  ltm : i * 3 < l.length * 3
  dr : (encR l).drop (i * 3) = .int .i64 t :: .int .i64 x :: .int .i64 k :: encR (l.drop (i + 1))
  le1 : 1 ≤ l.length * 3 - i * 3
  le3 : 3 ≤ l.length * 3 - i * 3
  w : IntKind.i64.wrap ((i : Int) + 1) = (i : Int) + 1
theorem r_at {l : List Rn} (hn : l.length ≤ 9223372036854775807) {i : Nat} (hi : i < l.length) : ∃ t x k, RAt l i t x k := by
  have hd : l.drop i = l[i] :: l.drop (i + 1) := List.drop_eq_getElem_cons hi
  obtain ⟨r, he⟩ : ∃ r, r = l[i] := ⟨_, rfl⟩
  rw [← he] at hd
  obtain ⟨t, x, k⟩ := r
  exact ⟨t, x, k, by rw [List.getElem?_eq_getElem hi, he], by omega, encR_len l, by omega, by rw [encR_drop, hd]; simp [encR], by omega, by omega, wrap_i64 (by omega) (by omega)⟩
abbrev dR (l : List Rn) : D := .sl (encR l) l.length false none
abbrev alT (a b x y : List Rn) (i : AV) : List AV := [.d (dR a), .d (dR b), .junk, .junk, .d (.bool false), runA (1, 1) x, runA (2, 1) y, i, .junk, .junk, .junk, .junk, .junk, .junk, .junk, .junk, .junk, .junk, .junk, .junk, .junk, .junk, .junk, .junk, .junk, .junk, .junk, .junk, .junk, .junk, .junk, .junk, .junk, .junk, .junk, .junk, .junk, .junk, .junk, .junk, .junk, .junk, .junk, .junk, .junk, .junk, .junk, .junk, .junk, .junk, .junk, .junk, .junk, .junk, .junk, .junk, .junk, .junk, .junk, .junk, .junk, .junk, .junk, .junk, .junk, .junk, .junk, .junk]
abbrev alT1 (b x y : List Rn) (i : AV) : List AV := [.junk, .d (dR b), .junk, .junk, .d (.bool false), runA (1, 1) x, runA (2, 1) y, .junk, i, .junk, .junk, .junk, .junk, .junk, .junk, .junk, .junk, .junk, .junk, .junk, .junk, .junk, .junk, .junk, .junk, .junk, .junk, .junk, .junk, .junk, .junk, .junk, .junk, .junk, .junk, .junk, .junk, .junk, .junk, .junk, .junk, .junk, .junk, .junk, .junk, .junk, .junk, .junk, .junk, .junk, .junk, .junk, .junk, .junk, .junk, .junk, .junk, .junk, .junk, .junk, .junk, .junk, .junk, .junk, .junk, .junk, .junk, .junk]
abbrev alT2 (x y : List Rn) (i : AV) : List AV := [.junk, .junk, .junk, .junk, .d (.bool false), runA (1, 1) x, runA (2, 1) y, .junk, .junk, i, .junk, .junk, .junk, .junk, .junk, .junk, .junk, .junk, .junk, .junk, .junk, .junk, .junk, .junk, .junk, .junk, .junk, .junk, .junk, .junk, .junk, .junk, .junk, .junk, .junk, .junk, .junk, .junk, .junk, .junk, .junk, .junk, .junk, .junk, .junk, .junk, .junk, .junk, .junk, .junk, .junk, .junk, .junk, .junk, .junk, .junk, .junk, .junk, .junk, .junk, .junk, .junk, .junk, .junk, .junk, .junk, .junk, .junk]
abbrev alH (x y : List Rn) : Hp := upd (upd (fun _ => none) (1, 1) (runO x)) (2, 1) (runO y)
theorem one_take {l : List Rn} {i : Nat} {r : Rn} (h : l[i]? = some r) : one (l.take (i + 1)) = if r.1 = 1 then one (l.take i) ++ [r] else one (l.take i) := by
  have : l.take (i + 1) = l.take i ++ [r] := by rw [List.take_add_one, h]; rfl
  rw [this, one, List.filter_append]
  by_cases hr : r.1 = 1 <;> simp [one, hr]
theorem one_len (l : List Rn) : (one l).length ≤ l.length := List.length_filter_le ..
theorem upd_ext {H K : Hp} {o : Oid} {x y : Am.Obj} (h : x = y) (k : ∀ p, p ≠ o → H p = K p) : upd H o x = upd K o y := by
  funext p; simp only [upd]; split
  · rw [h]
  · rename_i e; exact k p e
theorem below_eq {n : Nat} {H K : Hp} (h : ∀ p : Oid, p.1 < n → H p = K p) (k : ∀ p : Oid, ¬ p.1 < n → K p = none) : below n H = K := by
  funext p; simp only [below]; split
  · rename_i e; exact h p e
  · rename_i e; exact (k p e).symm
theorem alH_hi {x y : List Rn} {n : Nat} (hn : 4 ≤ n) (p : Oid) (hp : ¬ p.1 < n) : alH x y p = none := by
  have e1 : p ≠ (1, 1) := fun e => hp (by rw [e]; simp only; omega)
  have e2 : p ≠ (2, 1) := fun e => hp (by rw [e]; simp only; omega)
  simp [alH, upd, e1, e2]
theorem al0 (a b : List Rn) (hn : a.length ≤ 1048576) (n : Nat) (h4 : 4 ≤ n) :
    ∃ st, aloop Try.prog plc b20_2 ⟨[true, true, false, false, true, true, true, true, true, true, false, false, false, false, false, false, false, false, false, false, false, false, false, false, false, false, false, false, false, true, true, true, true, true, true, true, true, true, true, true, true, true, true, true, true, true, true, true, true, true, true, true, true, true, true, true, true, true, true, true, true, true, true, true, true, true, true, true], some n⟩ ⟨alT a b [] [] (.d (.int .i64 0)), alH [] [], n⟩ = some (.exit 0, st) ∧ (st = ⟨alT a b (one a) [] (.d (.int .i64 a.length)), alH (one a) [], st.nx⟩ ∧ n ≤ st.nx) := by
  have key := loop_rule (P := Try.prog) (pol := plc) (c := b20_2) (m := ⟨[true, true, false, false, true, true, true, true, true, true, false, false, false, false, false, false, false, false, false, false, false, false, false, false, false, false, false, false, false, true, true, true, true, true, true, true, true, true, true, true, true, true, true, true, true, true, true, true, true, true, true, true, true, true, true, true, true, true, true, true, true, true, true, true, true, true, true, true], some n⟩)
    (b := n) (tm := fun (i : Nat) => alT a b (one (a.take i)) [] (.d (.int .i64 i))) (Hf := fun i => alH (one (a.take i)) [])
    (I := fun i => i ≤ a.length) (μ := fun i => a.length - i) (res := fun _ => ()) (R := fun _ e st => e = .exit 0 ∧ st = ⟨alT a b (one a) [] (.d (.int .i64 a.length)), alH (one a) [], st.nx⟩ ∧ n ≤ st.nx)
    (fun i nx hi => by
      rcases Nat.lt_or_ge i a.length with hl | hl
      · obtain ⟨t, x, k, q⟩ := r_at (by omega) hl
        by_cases ht : t = 1
        · have hs := one_take q.get
          rw [if_pos ht] at hs
          subst ht
          have happ := fun (id : Nat) (o : Oid) (H : Hp) (h1 : H (1, 1) = some (runO (one (a.take i)))) (h2 : H o = some (.cells [.d (.int .i64 1), .d (.int .i64 x), .d (.int .i64 k)])) => append_run (id := id) h1 h2 (by have := one_len (a.take i); simp at this; omega)
          rw [← hs] at happ
          simp only [runA] at happ
          have hg : ∀ (k j : Nat) (z : Am.Obj) (H : Hp), upd H (nx + (n + k), j) z (1, 1) = H (1, 1) := fun k j z H => upd_old (by simp only; omega) _ _ _
          conv => arg 9; arg 4; unfold b20_2
          simp [plc_raw, q.lti, q.len, q.ltm, q.dr, q.le1, q.le3, q.w, Nat.add_assoc, happ, runA, hg]
          refine .next (i + 1) (by omega) (by simp [runA]) ?_ hl (by omega) rfl
          refine below_eq (fun p hp => ?_) (alH_hi h4)
          rcases Classical.em (p = (1, 1)) with e1 | e1
          · subst e1; simp [alH]
          · rw [upd_ne e1, upd_old (by omega)]
            simp only [alH, upd, e1, if_false]
        · have hs := one_take q.get
          rw [if_neg ht] at hs
          conv => arg 9; arg 4; unfold b20_2
          simp [plc_raw, q.lti, q.len, q.ltm, q.dr, q.le1, q.le3, q.w, Nat.add_assoc, ht]
          refine .next (i + 1) (by omega) (by simp [runA, hs]) ?_ hl (by omega) rfl
          rw [hs]
          exact below_eq (fun _ _ => rfl) (alH_hi h4)
      · obtain rfl : i = a.length := Nat.le_antisymm hi hl
        simp [b20_2]
        refine .fin _ _ ⟨rfl, ?_, by simp only; omega⟩
        simp [below_eq (fun _ _ => rfl) (alH_hi h4)]) 0 (Nat.zero_le _)
  obtain ⟨e, st, h1, rfl, h2⟩ := key
  exact ⟨st, by simpa [one] using h1, h2⟩
theorem al1 (a b : List Rn) (hn : b.length ≤ 1048576) (n : Nat) (h4 : 4 ≤ n) :
    ∃ st, aloop Try.prog plc b20_1 ⟨[false, true, false, false, true, true, true, false, true, true, false, false, false, false, false, false, false, false, false, false, false, false, false, false, false, false, false, false, false, false, false, false, false, false, false, false, false, false, false, false, false, false, false, false, false, false, false, false, true, true, true, true, true, true, true, true, true, true, true, true, true, true, true, true, true, true, true, true], some n⟩ ⟨alT1 b (one a) [] (.d (.int .i64 0)), alH (one a) [], n⟩ = some (.exit 2, st) ∧ (st = ⟨alT1 b (one a) (one b) (.d (.int .i64 b.length)), alH (one a) (one b), st.nx⟩ ∧ n ≤ st.nx) := by
  have key := loop_rule (P := Try.prog) (pol := plc) (c := b20_1) (m := ⟨[false, true, false, false, true, true, true, false, true, true, false, false, false, false, false, false, false, false, false, false, false, false, false, false, false, false, false, false, false, false, false, false, false, false, false, false, false, false, false, false, false, false, false, false, false, false, false, false, true, true, true, true, true, true, true, true, true, true, true, true, true, true, true, true, true, true, true, true], some n⟩)
    (b := n) (tm := fun (i : Nat) => alT1 b (one a) (one (b.take i)) (.d (.int .i64 i))) (Hf := fun i => alH (one a) (one (b.take i)))
    (I := fun i => i ≤ b.length) (μ := fun i => b.length - i) (res := fun _ => ()) (R := fun _ e st => e = .exit 2 ∧ st = ⟨alT1 b (one a) (one b) (.d (.int .i64 b.length)), alH (one a) (one b), st.nx⟩ ∧ n ≤ st.nx)
    (fun i nx hi => by
      rcases Nat.lt_or_ge i b.length with hl | hl
      · obtain ⟨t, x, k, q⟩ := r_at (by omega) hl
        by_cases ht : t = 1
        · have hs := one_take q.get
          rw [if_pos ht] at hs
          subst ht
          have happ := fun (id : Nat) (o : Oid) (H : Hp) (h1 : H (2, 1) = some (runO (one (b.take i)))) (h2 : H o = some (.cells [.d (.int .i64 1), .d (.int .i64 x), .d (.int .i64 k)])) => append_run (id := id) h1 h2 (by have := one_len (b.take i); simp at this; omega)
          rw [← hs] at happ
          simp only [runA] at happ
          have hg : ∀ (k j : Nat) (z : Am.Obj) (H : Hp), upd H (nx + (n + k), j) z (2, 1) = H (2, 1) := fun k j z H => upd_old (by simp only; omega) _ _ _
          conv => arg 9; arg 4; unfold b20_1
          simp [plc_raw, q.lti, q.len, q.ltm, q.dr, q.le1, q.le3, q.w, Nat.add_assoc, happ, runA, hg]
          refine .next (i + 1) (by omega) (by simp [runA]) ?_ hl (by omega) rfl
          refine below_eq (fun p hp => ?_) (alH_hi h4)
          rcases Classical.em (p = (2, 1)) with e1 | e1
          · subst e1; simp [alH]
          · rw [upd_ne e1, upd_old (by omega)]
            simp only [alH, upd, e1, if_false]
        · have hs := one_take q.get
          rw [if_neg ht] at hs
          conv => arg 9; arg 4; unfold b20_1
          simp [plc_raw, q.lti, q.len, q.ltm, q.dr, q.le1, q.le3, q.w, Nat.add_assoc, ht]
          refine .next (i + 1) (by omega) (by simp [runA, hs]) ?_ hl (by omega) rfl
          rw [hs]
          exact below_eq (fun _ _ => rfl) (alH_hi h4)
      · obtain rfl : i = b.length := Nat.le_antisymm hi hl
        simp [b20_1]
        refine .fin _ _ ⟨rfl, ?_, by simp only; omega⟩
        simp [below_eq (fun _ _ => rfl) (alH_hi h4)]) 0 (Nat.zero_le _)
  obtain ⟨e, st, h1, rfl, h2⟩ := key
  exact ⟨st, by simpa [one] using h1, h2⟩
theorem al_row {x : List Rn} {i : Nat} {t z k : Int} (q : RAt x i t z k) : runO x = .grow ((encR x).map .d) ∧ wdR x = 3 ∧ ((encR x).map AV.d).drop (i * 3) = [.d (.int .i64 t), .d (.int .i64 z), .d (.int .i64 k)] ++ (encR (x.drop (i + 1))).map .d := by
  have hne : x ≠ [] := by
    rintro rfl
    have := q.ltm
    simp at this
  exact ⟨by unfold runO; rw [if_neg hne], by unfold wdR; rw [if_neg hne], by rw [← List.map_drop, q.dr]; rfl⟩
def AlEnd (x y : List Rn) (e : Ex) (st : St) : Prop := (e = .exit 4 ∧ x = y ∧ st.tm = alT2 x y (.d (.int .i64 x.length))) ∨ (e = .ret ∧ x ≠ y ∧ st.tm[4]? = some (.d (.bool false)))
theorem al2 (x y : List Rn) (hl : x.length = y.length) (hn : x.length ≤ 1048576) (n : Nat) (h4 : 4 ≤ n) :
    ∃ e st, aloop Try.prog plc b20_0 ⟨[false, false, false, false, true, true, true, false, false, true, false, false, false, false, false, false, false, false, false, false, false, false, false, false, false, false, false, false, false, false, false, false, false, false, false, false, false, false, false, false, false, false, false, false, false, false, false, false, false, false, false, false, false, false, false, false, false, false, false, false, false, false, false, false, false, false, false, false], some n⟩ ⟨alT2 x y (.d (.int .i64 0)), alH x y, n⟩ = some (e, st) ∧ AlEnd x y e st := by
  have key := loop_rule (P := Try.prog) (pol := plc) (c := b20_0) (m := ⟨[false, false, false, false, true, true, true, false, false, true, false, false, false, false, false, false, false, false, false, false, false, false, false, false, false, false, false, false, false, false, false, false, false, false, false, false, false, false, false, false, false, false, false, false, false, false, false, false, false, false, false, false, false, false, false, false, false, false, false, false, false, false, false, false, false, false, false, false], some n⟩)
    (b := n) (tm := fun (i : Nat) => alT2 x y (.d (.int .i64 i))) (Hf := fun _ => alH x y)
    (I := fun i => i ≤ x.length ∧ x.take i = y.take i) (μ := fun i => x.length - i) (res := fun _ => ()) (R := fun _ => AlEnd x y)
    (fun i nx hI => by
      obtain ⟨hi, hI⟩ := hI
      rcases Nat.lt_or_ge i x.length with hlt | hlt
      · obtain ⟨t, z, k, q⟩ := r_at (by omega) hlt
        obtain ⟨t2, z2, k2, q2⟩ := r_at (l := y) (by omega) (by omega : i < y.length)
        obtain ⟨a1, w1, a2⟩ := al_row q
        obtain ⟨a3, w2, a4⟩ := al_row q2
        have l3 : i * 3 + 3 ≤ y.length * 3 := by omega
        have tx : x.take (i + 1) = x.take i ++ [(t, z, k)] := by rw [List.take_add_one, q.get]; rfl
        have ty : y.take (i + 1) = y.take i ++ [(t2, z2, k2)] := by rw [List.take_add_one, q2.get]; rfl
        by_cases he : t = t2 ∧ z = z2 ∧ k = k2
        · obtain ⟨rfl, rfl, rfl⟩ := he
          conv => arg 9; arg 4; unfold b20_0
          simp [plc_raw, q.lti, q.len, q.ltm, q.le3, q2.lti, q2.len, q2.ltm, q2.le3, q.w, Nat.add_assoc, runA, a1, a2, a3, a4, w1, w2, hl, l3]
          exact .next (i + 1) (by omega) (by simp [runA, w1, w2, hl]) (below_eq (fun _ _ => rfl) (alH_hi h4)) ⟨by omega, by rw [tx, ty, hI]⟩ (by omega) rfl
        · have he2 : ¬ t = t2 ∨ ¬ z = z2 ∨ ¬ k = k2 := by
            by_cases e1 : t = t2
            · by_cases e2 : z = z2
              · exact .inr (.inr fun e3 => he ⟨e1, e2, e3⟩)
              · exact .inr (.inl e2)
            · exact .inl e1
          conv => arg 9; arg 4; unfold b20_0
          simp [plc_raw, q.lti, q.len, q.ltm, q.le3, q2.lti, q2.len, q2.ltm, q2.le3, q.w, Nat.add_assoc, runA, a1, a2, a3, a4, w1, w2, hl, l3, he2]
          refine .fin _ _ (.inr ⟨rfl, fun e => ?_, rfl⟩)
          subst e
          rw [tx] at ty
          simp at ty
          exact he ty
      · obtain rfl : i = x.length := Nat.le_antisymm hi hlt
        have hxy : x = y := by rw [List.take_of_length_le (Nat.le_refl _), List.take_of_length_le (by omega)] at hI; exact hI
        subst hxy
        simp [b20_0, runA]
        exact .fin _ _ (.inl ⟨rfl, rfl, by simp [runA]⟩)) 0 ⟨Nat.zero_le _, rfl⟩
  simpa using key
theorem alike_ok (a b : List Rn) (ha : a.length ≤ 1048576) (hb : b.length ≤ 1048576) : pcl Cp 20 [dR a, dR b] = some (.bool (decide (one a = one b))) := by
  obtain ⟨⟨tm1, H1, n1⟩, h1, e1, k1⟩ := al0 a b ha 4 (by omega)
  simp only [St.mk.injEq] at e1 k1
  obtain ⟨rfl, rfl, -⟩ := e1
  have la := one_len a
  have lb := one_len b
  refine pcl_body code20 ?_
  have hw0 : wdR [] = 1 := rfl
  have hO : runO [] = .vnil := rfl
  simp only [alT, alH, runA, hw0, hO, List.length_nil, Nat.zero_mul, Int.natCast_zero] at h1
  obtain ⟨⟨tm2, H2, n2⟩, h2, e2, k2⟩ := al1 a b hb (n1 + 1) (by omega)
  simp only [St.mk.injEq] at e2 k2
  obtain ⟨rfl, rfl, -⟩ := e2
  simp only [alT1, alH, runA, hw0, hO, List.length_nil, Nat.zero_mul, Int.natCast_zero] at h2
  by_cases hl : (one a).length = (one b).length
  · obtain ⟨e3, st3, h3, h4⟩ := al2 (one a) (one b) hl (by omega) (n2 + 6) (by omega)
    simp only [alT2, alH, runA, Int.natCast_zero] at h3
    rw [hl] at h3 h1 h2
    rcases h4 with ⟨rfl, he, htm⟩ | ⟨rfl, he, htm⟩
    · rw [show decide (one a = one b) = true from decide_eq_true he]
      simp [plc_raw, h1, h2, Nat.add_assoc, hl, h3, htm]
    · simp [plc_raw, h1, h2, Nat.add_assoc, hl, h3, he, htm]
  · have hl2 : ¬ ((one a).length : Int) = (one b).length := by omega
    have he : one a ≠ one b := fun e => hl (by rw [e])
    simp [plc_raw, h1, h2, Nat.add_assoc, hl2, hl, he]
end Go.Proofs.Ytnlmonokkppagaa.Am

/-
  Rows of numbers: are they the same? No condition.
-/
namespace Go.Proofs.Ytnlmonokkppagaa.Am
open Go Go.Proofs
set_option maxHeartbeats 4000000
set_option maxRecDepth 20000
set_option linter.unusedSimpArgs false
set_option linter.unusedVariables false
abbrev dI (l : List Int) : D := .sl (l.map fun x => .int .i64 x) l.length false none
abbrev inT (x y : List Int) (i : Nat) : List AV := [.d (dI x), .d (dI y), .junk, .junk, .d (.bool false), .d (.int .i64 i), .junk, .junk, .junk, .junk, .junk, .junk, .junk, .junk, .junk, .junk, .junk, .junk, .junk, .junk, .junk, .junk, .junk, .junk, .junk, .junk]
def InEnd (x y : List Int) (e : Ex) (st : St) : Prop := (e = .exit 0 ∧ x = y ∧ st.tm = inT x y x.length) ∨ (e = .ret ∧ x ≠ y ∧ st.tm[4]? = some (.d (.bool false)))
theorem in0 (x y : List Int) (hl : x.length = y.length) (hn : x.length ≤ 4611686018427387904) (n : Nat) :
    ∃ e st, aloop Try.prog plc b17_0 ⟨[true, true, false, false, true, true, false, false, false, false, false, false, false, false, false, false, false, false, false, false, false, false, false, false, false, false], some n⟩ ⟨inT x y 0, fun _ => none, n⟩ = some (e, st) ∧ InEnd x y e st := by
  have key := loop_rule (P := Try.prog) (pol := plc) (c := b17_0) (m := ⟨[true, true, false, false, true, true, false, false, false, false, false, false, false, false, false, false, false, false, false, false, false, false, false, false, false, false], some n⟩)
    (b := n) (tm := fun (i : Nat) => inT x y i) (Hf := fun _ => fun _ => none)
    (I := fun i => i ≤ x.length ∧ x.take i = y.take i) (μ := fun i => x.length - i) (res := fun _ => ()) (R := fun _ => InEnd x y)
    (fun i nx hI => by
      obtain ⟨hi, hI⟩ := hI
      rcases Nat.lt_or_ge i x.length with hlt | hlt
      · have hy : i < y.length := by omega
        have hyi : (i : Int) < y.length := by omega
        have hw : IntKind.i64.wrap ((i : Int) + 1) = (i : Int) + 1 := wrap_i64 (by omega) (by omega)
        have tx : x.take (i + 1) = x.take i ++ [x[i]] := by rw [List.take_add_one, List.getElem?_eq_getElem hlt]; rfl
        have ty : y.take (i + 1) = y.take i ++ [y[i]] := by rw [List.take_add_one, List.getElem?_eq_getElem hy]; rfl
        conv => arg 9; arg 4; unfold b17_0
        by_cases he : x[i] = y[i]
        · simp [plc_raw, Nat.add_assoc, hl, hy, hyi, hw, he]
          exact .next (i + 1) (by omega) (by simp [hl]) rfl ⟨by omega, by rw [tx, ty, hI, he]⟩ (by omega) rfl
        · simp [plc_raw, Nat.add_assoc, hl, hy, hyi, hw, he]
          refine .fin _ _ (.inr ⟨rfl, fun e => ?_, rfl⟩)
          subst e
          exact he rfl
      · obtain rfl : i = x.length := Nat.le_antisymm hi hlt
        have hxy : x = y := by rw [List.take_of_length_le (Nat.le_refl _), List.take_of_length_le (by omega)] at hI; exact hI
        subst hxy
        simp [b17_0]
        exact .fin _ _ (.inl ⟨rfl, rfl, by simp⟩)) 0 ⟨Nat.zero_le _, rfl⟩
  simpa using key
theorem ints_ok (x y : List Int) (hx : x.length ≤ 4611686018427387904) : pcl Cp 17 [dI x, dI y] = some (.bool (decide (x = y))) := by
  refine pcl_body code17 ?_
  by_cases hl : x.length = y.length
  · obtain ⟨e, st, h1, h2⟩ := in0 x y hl hx 7
    simp only [inT, Int.natCast_zero] at h1
    rcases h2 with ⟨rfl, he, htm⟩ | ⟨rfl, he, htm⟩
    · rw [show decide (x = y) = true from decide_eq_true he]
      simp [plc_raw, hl, h1, htm, Nat.add_assoc]
    · simp [plc_raw, hl, h1, htm, he, Nat.add_assoc]
  · have hl2 : ¬ (x.length : Int) = y.length := by omega
    have he : x ≠ y := fun e => hl (by rw [e])
    simp [plc_raw, hl, hl2, he]
end Go.Proofs.Ytnlmonokkppagaa.Am

/-
  Rows of runs and of numbers as data; what calls leave of the clock. No condition.
-/
namespace Go.Proofs.Ytnlmonokkppagaa.Am
open Go Go.Proofs
set_option maxHeartbeats 4000000
set_option maxRecDepth 20000
set_option linter.unusedSimpArgs false
set_option linter.unusedVariables false
theorem wkL_encR : ∀ l, wkL (encR l) = encR l
  | [] => rfl
  | (t, i, k) :: r => by simp [encR, wkL_encR r]
theorem wkL_int : ∀ l : List Int, wkL (l.map fun x => D.int .i64 x) = l.map fun x => D.int .i64 x
  | [] => rfl
  | x :: r => by simp [wkL_int r]
theorem run_reify {H : Hp} {o : Oid} {l : List Rn} (h : H o = some (runO l)) (k : Nat) : ∃ x is, reify H (k + 1) (runA o l) = some (x, is) ∧ wk x = dR l := by
  cases l with
  | nil => exact ⟨.sl [] 0 false (some true), [], by simp [runO] at h; simp [runA, wdR, reify, h, Obj.isRow, Obj.cs, nlOf], by simp [dR, encR]⟩
  | cons y r =>
    have h1 := mapD_d (reify H k) (reify_d H k) (encR (y :: r))
    have h2 : (r.length + 1) * 3 = (encR (y :: r)).length := by rw [encR_len]; simp
    have h3 : List.take ((r.length + 1) * 3) ((encR (y :: r)).map AV.d) = (encR (y :: r)).map .d := List.take_of_length_le (by simp [h2])
    have h4 : encR (y :: r) ≠ [] := by obtain ⟨a, b, c⟩ := y; simp [encR]
    generalize hE : encR (y :: r) = E at *
    simp [runO, hE] at h
    refine ⟨.sl E (r.length + 1) false (some false), [o], ?_, by rw [← hE]; simp [dR, wkL_encR]⟩
    have h5 : ¬ E.length < (r.length + 1) * 3 := by omega
    simp [runA, wdR, reify, h, Obj.isRow, Obj.cs, nlOf, h1, ← h2, h3, h4]
theorem ids_reify {H : Hp} {o : Oid} {l : List Int} (h : H o = some (rowJ l)) (k : Nat) : ∃ x is, reify H (k + 1) (idsA o l) = some (x, is) ∧ wk x = dI l := by
  cases l with
  | nil => exact ⟨.sl [] 0 false (some true), [], by simp [rowJ] at h; simp [idsA, reify, h, Obj.isRow, Obj.cs, nlOf], by simp [dI]⟩
  | cons y r =>
    have h1 := mapD_d (reify H k) (reify_d H k) ((y :: r).map fun x => D.int .i64 x)
    simp only [List.map_map, List.map_cons] at h1
    have h3 : List.take r.length (List.map (fun x => AV.d (D.int IntKind.i64 x)) r) = List.map (fun x => AV.d (D.int IntKind.i64 x)) r := List.take_of_length_le (by simp)
    simp [rowJ] at h
    refine ⟨.sl ((y :: r).map fun x => D.int .i64 x) (r.length + 1) false (some false), [o], ?_, by simp [dI, wkL_int]⟩
    simp only [Function.comp_def] at h1
    simp [idsA, reify, h, Obj.isRow, Obj.cs, nlOf, h3, h1]
theorem SchH.small {H : Hp} {N : Nat} {oS oL : Oid} {vs : List AV} {os : List (Option Oid)} {S : Sc} (h : SchH H N oS oL vs os S) : ∀ l ∈ S.lines, l.length ≤ 64 := fun l hl => by
  obtain ⟨t, ht⟩ := List.mem_iff_getElem?.1 hl
  obtain ⟨v, l', o, _, h2, _, h4⟩ := h.get (List.getElem?_eq_some_iff.1 ht).1
  rw [ht] at h2; cases h2
  exact h4.le
theorem SchH.runsLe {H : Hp} {N : Nat} {oS oL : Oid} {vs : List AV} {os : List (Option Oid)} {S : Sc} (h : SchH H N oS oL vs os S) (hn : S.lines.length ≤ 16) : S.runs.length ≤ 1048576 := by
  have := runs_len S.ways (leftOf' S.next S.lines) 0
  rw [left_len] at this
  unfold Sc.runs; omega
theorem SchH.lateLe {H : Hp} {N : Nat} {oS oL : Oid} {vs : List AV} {os : List (Option Oid)} {S : Sc} (h : SchH H N oS oL vs os S) (hn : S.lines.length ≤ 16) : S.late.length ≤ 1048576 := by
  have := late_len S.next S.lines h.small 0
  unfold Sc.late; omega
theorem SchH.idsLe {H : Hp} {N : Nat} {oS oL : Oid} {vs : List AV} {os : List (Option Oid)} {S : Sc} (h : SchH H N oS oL vs os S) (t : Int) : (S.ids t).length ≤ 4611686018427387904 := by
  unfold Sc.ids
  split
  · unfold Sc.line
    rw [List.length_map, List.getD_eq_getElem?_getD]
    cases hq : S.lines[t.toNat]? with
    | none => simp
    | some l => have := h.small l (List.mem_of_getElem? hq); simp only [Option.getD_some]; omega
  · simp
/-- The clock goes right. -/
def Sc.Ok (S : Sc) : Prop := S.ways ≠ 0 ∧ 0 ≤ S.now ∧ S.now ≤ 1099511627776
theorem Sc.Ok.add {S : Sc} (h : S.Ok) (t id d : Int) : (S.add t id d).1.Ok := by
  unfold Sc.add; repeat' split
  all_goals exact h
theorem Sc.Ok.rem {S : Sc} (h : S.Ok) (t id : Int) : (S.rem t id).1.Ok := by
  unfold Sc.rem; repeat' split
  all_goals exact h
theorem Sc.Ok.tick {S : Sc} (h : S.Ok) : S.tick.Ok := by
  obtain ⟨h1, h2, h3⟩ := h
  refine ⟨h1, ?_, ?_⟩ <;> (simp only [Sc.tick, Sc.next]; split <;> omega)
theorem Rel.ok {S T : Sc} (h : Rel S T) (hS : S.Ok) : T.Ok := by
  obtain ⟨w, n, a0, a2, b0, b2, l, rfl, rfl⟩ := h
  exact hS
/-! ### A script -/
abbrev Op4 := Int × Int × Int × Int
def encO : List Op4 → List D
  | [] => []
  | (k, t, i, d) :: r => .int .i64 k :: .int .i64 t :: .int .i64 i :: .int .i64 d :: encO r
theorem encO_len : ∀ l : List Op4, (encO l).length = l.length * 4
  | [] => rfl
  | (k, t, i, d) :: r => by simp [encO, encO_len r]; omega
theorem encO_drop : ∀ (l : List Op4) (i : Nat), (encO l).drop (i * 4) = encO (l.drop i)
  | [], i => by simp [encO]
  | (k, t, x, d) :: r, 0 => by simp [encO]
  | (k, t, x, d) :: r, i + 1 => by rw [show (i + 1) * 4 = i * 4 + 1 + 1 + 1 + 1 by omega]; simp [encO, encO_drop r i]
abbrev dO (l : List Op4) : D := .sl (encO l) l.length false none
structure OAt (l : List Op4) (i : Nat) (k t x d : Int) : Prop where
  get : l[i]? = some (k, t, x, d)
  lti : (i : Int) < (l.length : Int)
  len : (encO l).length = l.length * 4
  ltm : i * 4 < l.length * 4
  dr : (encO l).drop (i * 4) = .int .i64 k :: .int .i64 t :: .int .i64 x :: .int .i64 d :: encO (l.drop (i + 1))
  le4 : 4 ≤ l.length * 4 - i * 4
  w : IntKind.i64.wrap ((i : Int) + 1) = (i : Int) + 1
theorem o_at {l : List Op4} (hn : l.length ≤ 9223372036854775807) {i : Nat} (hi : i < l.length) : ∃ k t x d, OAt l i k t x d := by
  have hd : l.drop i = l[i] :: l.drop (i + 1) := List.drop_eq_getElem_cons hi
  obtain ⟨r, he⟩ : ∃ r, r = l[i] := ⟨_, rfl⟩
  rw [← he] at hd
  obtain ⟨k, t, x, d⟩ := r
  exact ⟨k, t, x, d, by rw [List.getElem?_eq_getElem hi, he], by omega, encO_len l, by omega, by rw [encO_drop, hd]; simp [encO], by omega, wrap_i64 (by omega) (by omega)⟩
end Go.Proofs.Ytnlmonokkppagaa.Am

/-
  The scheduler: two schedulers side by side. No condition.
-/
namespace Go.Proofs.Ytnlmonokkppagaa.Am
open Go Go.Proofs
set_option maxHeartbeats 4000000
set_option maxRecDepth 20000
set_option linter.unusedSimpArgs false
set_option linter.unusedVariables false
abbrev apT (l : List Op4) (oS pS : Oid) (i : Nat) : List AV := [.junk, .d (dO l), .junk, .junk, .d (.bool false), .ptr oS 0 3, .junk, .ptr pS 0 3, .junk, .d (.int .i64 i), .junk, .junk, .junk, .junk, .junk, .junk, .junk, .junk, .junk, .junk, .junk, .junk, .junk, .junk, .junk, .junk, .junk, .junk, .junk, .junk, .junk, .junk, .junk, .junk, .junk, .junk, .junk, .junk, .junk, .junk, .junk, .junk, .junk, .junk, .junk, .junk, .junk, .junk, .junk, .junk, .junk, .junk, .junk, .junk, .junk, .junk, .junk, .junk, .junk, .junk, .junk, .junk, .junk, .junk, .junk, .junk, .junk, .junk, .junk, .junk, .junk, .junk, .junk, .junk, .junk, .junk, .junk, .junk, .junk, .junk, .junk, .junk, .junk, .junk, .junk, .junk, .junk, .junk, .junk, .junk, .junk, .junk, .junk, .junk, .junk, .junk, .junk, .junk, .junk, .junk, .junk, .junk, .junk, .junk, .junk, .junk, .junk, .junk, .junk, .junk, .junk, .junk, .junk, .junk, .junk, .junk, .junk, .junk, .junk, .junk, .junk, .junk, .junk, .junk, .junk, .junk, .junk, .junk, .junk, .junk, .junk, .junk, .junk]
structure TwS where
  i : Nat
  H : Hp
  N : Nat
  vs : List AV
  os : List (Option Oid)
  us : List AV
  ps : List (Option Oid)
  S : Sc
  T : Sc
structure ApI (oS oL pS pL : Oid) (l : List Op4) (s : TwS) : Prop where
  le : s.i ≤ l.length
  two : Two s.H s.N oS oL s.vs s.os s.S pS pL s.us s.ps s.T
  rel : Rel s.S s.T
  ok : s.S.Ok
theorem apart_loop (l : List Op4) (hn : l.length ≤ 9223372036854775807) (oS oL pS pL : Oid) (s0 : TwS) (h0 : ApI oS oL pS pL l s0) (hi0 : s0.i = 0) :
    ∃ e st, aloop Try.prog plc b5_0 ⟨[false, true, false, false, true, true, false, true, false, true, false, false, false, false, false, false, false, false, false, false, false, false, false, false, false, false, false, false, false, false, false, false, false, false, false, false, false, false, false, false, false, false, false, false, false, false, false, false, false, false, false, false, false, false, false, false, false, false, false, false, false, false, false, false, false, false, false, false, false, false, false, false, false, false, false, false, false, false, false, false, false, false, false, false, false, false, false, false, false, false, false, false, false, false, false, false, false, false, false, false, false, false, false, false, false, false, false, false, false, false, false, false, false, false, false, false, false, false, false, false, false, false, false, false, false, false, false, false, false, false, false, false, true], none⟩ ⟨apT l oS pS 0, s0.H, s0.N⟩ = some (e, st) ∧ (e = .exit 0 ∧ st.tm = apT l oS pS l.length) := by
  have key := loop_ruleN (P := Try.prog) (pol := plc) (c := b5_0) (m := ⟨[false, true, false, false, true, true, false, true, false, true, false, false, false, false, false, false, false, false, false, false, false, false, false, false, false, false, false, false, false, false, false, false, false, false, false, false, false, false, false, false, false, false, false, false, false, false, false, false, false, false, false, false, false, false, false, false, false, false, false, false, false, false, false, false, false, false, false, false, false, false, false, false, false, false, false, false, false, false, false, false, false, false, false, false, false, false, false, false, false, false, false, false, false, false, false, false, false, false, false, false, false, false, false, false, false, false, false, false, false, false, false, false, false, false, false, false, false, false, false, false, false, false, false, false, false, false, false, false, false, false, false, false, true], none⟩)
    (N := fun s : TwS => s.N) (tm := fun s => apT l oS pS s.i) (Hf := fun s => s.H) (I := ApI oS oL pS pL l)
    (μ := fun s => l.length - s.i) (res := fun _ => ()) (R := fun _ e st => e = .exit 0 ∧ st.tm = apT l oS pS l.length)
    (fun s hI => by
      obtain ⟨hi, hT, hR, hO⟩ := hI
      rcases Nat.lt_or_ge s.i l.length with hlt | hlt
      · obtain ⟨k, t, x, d, q⟩ := o_at (by omega) hlt
        obtain ⟨hl3, hl4⟩ := hR.lenL
        obtain ⟨Hz, hHz⟩ : ∃ Hz : Hp, Hz = upd s.H (s.N + 8, 0) (.cells [.d (.int .i64 k), .d (.int .i64 t), .d (.int .i64 x), .d (.int .i64 d)]) := ⟨_, rfl⟩
        have hTz : Two Hz s.N oS oL s.vs s.os s.S pS pL s.us s.ps s.T := hT.old fun p hp => by rw [hHz]; exact upd_old (by omega) _ _ _
        have hz0 : Hz (s.N + 8, 0) = some (.cells [.d (.int .i64 k), .d (.int .i64 t), .d (.int .i64 x), .d (.int .i64 d)]) := by rw [hHz]; exact upd_same _ _ _
        have hO2 := hR.ok hO
        have fz : ∀ p : Oid, s.N ≤ p.1 → ¬ Foot oS oL s.os p ∧ ¬ Foot pS pL s.ps p := fun p hp => ⟨fun hF => by have := hTz.a.foot_lt hF; omega, fun hF => by have := hTz.b.foot_lt hF; omega⟩
        by_cases hk : k = 3
        · subst hk
          obtain ⟨H1, n1, vs1, os1, o1, o2, c1, t1⟩ := tick_ok hTz.a (s.N + 20) (by omega) (by omega) hO.1 ⟨hO.2.1, hO.2.2⟩
          have g1 := t1.n1; have g2 := t1.n2; have g3 := t1.l1; have g4 := t1.l2
          have hT1 := hTz.left (by omega) t1.did
          obtain ⟨H2, n2, us2, ps2, q1, q2, c2, t2⟩ := tick_ok hT1.b (n1 + 7) (by omega) (by omega) hO2.1 ⟨hO2.2.1, hO2.2.2⟩
          have g5 := t2.n1; have g6 := t2.n2; have g7 := t2.l1; have g8 := t2.l2
          have hT2 := hT1.right (by omega) t2.did
          have r1 := (t2.did.fr o1 (by omega) (fz o1 (by omega)).2).trans t1.runs
          have r2 := (t2.did.fr o2 (by omega) (fz o2 (by omega)).2).trans t1.late
          have hx1 := alike_ok s.S.runs s.T.runs (hTz.a.runsLe (by omega)) (hTz.b.runsLe (by omega))
          have hx2 := alike_ok s.S.late s.T.late (hTz.a.lateLe (by omega)) (hTz.b.lateLe (by omega))
          rw [show decide (one s.S.runs = one s.T.runs) = true from decide_eq_true hR.runs] at hx1
          rw [show decide (one s.S.late = one s.T.late) = true from decide_eq_true hR.late] at hx2
          obtain ⟨y1, i1, e1, f1⟩ := run_reify r1 5
          obtain ⟨y2, i2, e2, f2⟩ := run_reify r2 5
          obtain ⟨y3, i3, e3, f3⟩ := run_reify t2.runs 5
          obtain ⟨y4, i4, e4, f4⟩ := run_reify t2.late 5
          simp only [Nat.reduceAdd, runA] at e1 e2 e3 e4 c1 c2
          conv => arg 9; arg 4; unfold b5_0
          simp [plc_raw, Nat.add_assoc, q.lti, q.len, q.ltm, q.dr, q.le4, q.w, ← hHz, hz0, c1, c2, e1, e2, e3, e4, f1, f2, f3, f4, hx1, hx2, -reify]
          exact .next (TwS.mk (s.i + 1) H2 (n2 + 13) vs1 os1 us2 ps2 s.S.tick s.T.tick) (by simp) (by simp) rfl ⟨hlt, hT2.mono (by simp only; omega), hR.tick, hO.tick⟩ (by simp only; omega) rfl
        · by_cases hk1 : k = 1
          · subst hk1
            by_cases ht : t = 1
            · subst ht
              obtain ⟨H1, n1, vs1, os1, c1, d1⟩ := add_ok hTz.a (s.N + 27) (by omega) (by omega) 1 x d
              have g1 := d1.le
              have hT1 := hTz.left (by omega) d1
              have z1 : H1 (s.N + 8, 0) = _ := (d1.fr (s.N + 8, 0) (by simp only; omega) (fz _ (by simp only; omega)).1).trans hz0
              obtain ⟨H2, n2, us2, ps2, c2, d2⟩ := add_ok hT1.b (n1 + 10) (by omega) (by omega) 1 x d
              have g2 := d2.le
              have hT2 := hT1.right (by omega) d2
              have z2 : H2 (s.N + 8, 0) = _ := (d2.fr (s.N + 8, 0) (by simp only; omega) (fz _ (by simp only; omega)).2).trans z1
              obtain ⟨hR2, hcode⟩ := hR.add_one x d
              rw [hcode] at c1
              have hO3 : (s.S.add 1 x d).1.Ok := hO.add _ _ _
              obtain ⟨hl5, hl6⟩ := hR2.lenL
              obtain ⟨H3, n3, c3, g3, w3, k3⟩ := queries_ok hT2.a (n2 + 16) (by omega) (by omega) 1
              have hT3 := Two.old hT2 (H' := H3) fun p hp => k3 p (by omega)
              obtain ⟨H4, n4, c4, g4, w4, k4⟩ := queries_ok hT3.b (n3 + 0) (by omega) (by omega) 1
              have hT4 := Two.old hT3 (H' := H4) fun p hp => k4 p (by omega)
              have w5 := (k4 (n2 + 16 + 9, 1) (by simp only; omega)).trans w3
              have hx := ints_ok ((s.S.add 1 x d).1.ids 1) ((s.T.add 1 x d).1.ids 1) (hT2.a.idsLe 1)
              rw [show decide ((s.S.add 1 x d).1.ids 1 = (s.T.add 1 x d).1.ids 1) = true from decide_eq_true hR2.ids] at hx
              obtain ⟨y1, i1, e1, f1⟩ := ids_reify w5 5
              obtain ⟨y2, i2, e2, f2⟩ := ids_reify w4 5
              simp only [Nat.reduceAdd, idsA, Nat.add_assoc, Nat.add_zero] at e1 e2 c3 c4
              have hhe : s.S.isT 1 = s.S.isT 1 := rfl
              conv => arg 9; arg 4; unfold b5_0
              simp [plc_raw, Nat.add_assoc, q.lti, q.len, q.ltm, q.dr, q.le4, q.w, ← hHz, hz0, z1, c1, c3, c4, e1, e2, f1, f2, hx, hk, z2, c2, -reify]
              exact .next (TwS.mk (s.i + 1) H4 (n4 + 3) vs1 os1 us2 ps2 (s.S.add 1 x d).1 (s.T.add 1 x d).1) (by simp) (by simp) rfl ⟨hlt, hT4.mono (by simp only; omega), hR2, hO3⟩ (by simp only; omega) rfl
            · obtain ⟨H1, n1, vs1, os1, c1, d1⟩ := add_ok hTz.a (s.N + 27) (by omega) (by omega) t x d
              have g1 := d1.le
              have hT1 := hTz.left (by omega) d1
              have z1 : H1 (s.N + 8, 0) = _ := (d1.fr (s.N + 8, 0) (by simp only; omega) (fz _ (by simp only; omega)).1).trans hz0
              have hR2 := hR.add_other ht x d
              have hO3 : (s.S.add t x d).1.Ok := hO.add _ _ _
              obtain ⟨hl5, hl6⟩ := hR2.lenL
              obtain ⟨H3, n3, c3, g3, w3, k3⟩ := queries_ok hT1.a (n1 + 19) (by omega) (by omega) 1
              have hT3 := Two.old hT1 (H' := H3) fun p hp => k3 p (by omega)
              obtain ⟨H4, n4, c4, g4, w4, k4⟩ := queries_ok hT3.b (n3 + 0) (by omega) (by omega) 1
              have hT4 := Two.old hT3 (H' := H4) fun p hp => k4 p (by omega)
              have w5 := (k4 (n1 + 19 + 9, 1) (by simp only; omega)).trans w3
              have hx := ints_ok ((s.S.add t x d).1.ids 1) (s.T.ids 1) (hT1.a.idsLe 1)
              rw [show decide ((s.S.add t x d).1.ids 1 = s.T.ids 1) = true from decide_eq_true hR2.ids] at hx
              obtain ⟨y1, i1, e1, f1⟩ := ids_reify w5 5
              obtain ⟨y2, i2, e2, f2⟩ := ids_reify w4 5
              simp only [Nat.reduceAdd, idsA, Nat.add_assoc, Nat.add_zero] at e1 e2 c3 c4
              conv => arg 9; arg 4; unfold b5_0
              simp [plc_raw, Nat.add_assoc, q.lti, q.len, q.ltm, q.dr, q.le4, q.w, ← hHz, hz0, z1, c1, c3, c4, e1, e2, f1, f2, hx, hk, ht, -reify]
              exact .next (TwS.mk (s.i + 1) H4 (n4 + 3) vs1 os1 s.us s.ps (s.S.add t x d).1 s.T) (by simp) (by simp) rfl ⟨hlt, hT4.mono (by simp only; omega), hR2, hO3⟩ (by simp only; omega) rfl
          · by_cases ht : t = 1
            · subst ht
              obtain ⟨H1, n1, vs1, os1, c1, d1⟩ := rem_ok hTz.a (s.N + 25) (by omega) (by omega) 1 x
              have g1 := d1.le
              have hT1 := hTz.left (by omega) d1
              have z1 : H1 (s.N + 8, 0) = _ := (d1.fr (s.N + 8, 0) (by simp only; omega) (fz _ (by simp only; omega)).1).trans hz0
              obtain ⟨H2, n2, us2, ps2, c2, d2⟩ := rem_ok hT1.b (n1 + 8) (by omega) (by omega) 1 x
              have g2 := d2.le
              have hT2 := hT1.right (by omega) d2
              have z2 : H2 (s.N + 8, 0) = _ := (d2.fr (s.N + 8, 0) (by simp only; omega) (fz _ (by simp only; omega)).2).trans z1
              obtain ⟨hR2, hcode⟩ := hR.rem_one x
              rw [hcode] at c1
              have hO3 : (s.S.rem 1 x).1.Ok := hO.rem _ _
              obtain ⟨hl5, hl6⟩ := hR2.lenL
              obtain ⟨H3, n3, c3, g3, w3, k3⟩ := queries_ok hT2.a (n2 + 16) (by omega) (by omega) 1
              have hT3 := Two.old hT2 (H' := H3) fun p hp => k3 p (by omega)
              obtain ⟨H4, n4, c4, g4, w4, k4⟩ := queries_ok hT3.b (n3 + 0) (by omega) (by omega) 1
              have hT4 := Two.old hT3 (H' := H4) fun p hp => k4 p (by omega)
              have w5 := (k4 (n2 + 16 + 9, 1) (by simp only; omega)).trans w3
              have hx := ints_ok ((s.S.rem 1 x).1.ids 1) ((s.T.rem 1 x).1.ids 1) (hT2.a.idsLe 1)
              rw [show decide ((s.S.rem 1 x).1.ids 1 = (s.T.rem 1 x).1.ids 1) = true from decide_eq_true hR2.ids] at hx
              obtain ⟨y1, i1, e1, f1⟩ := ids_reify w5 5
              obtain ⟨y2, i2, e2, f2⟩ := ids_reify w4 5
              simp only [Nat.reduceAdd, idsA, Nat.add_assoc, Nat.add_zero] at e1 e2 c3 c4
              have hhe : s.S.isT 1 = s.S.isT 1 := rfl
              conv => arg 9; arg 4; unfold b5_0
              simp [plc_raw, Nat.add_assoc, q.lti, q.len, q.ltm, q.dr, q.le4, q.w, ← hHz, hz0, z1, c1, c3, c4, e1, e2, f1, f2, hx, hk, z2, c2, hk1, -reify]
              exact .next (TwS.mk (s.i + 1) H4 (n4 + 3) vs1 os1 us2 ps2 (s.S.rem 1 x).1 (s.T.rem 1 x).1) (by simp) (by simp) rfl ⟨hlt, hT4.mono (by simp only; omega), hR2, hO3⟩ (by simp only; omega) rfl
            · obtain ⟨H1, n1, vs1, os1, c1, d1⟩ := rem_ok hTz.a (s.N + 25) (by omega) (by omega) t x
              have g1 := d1.le
              have hT1 := hTz.left (by omega) d1
              have z1 : H1 (s.N + 8, 0) = _ := (d1.fr (s.N + 8, 0) (by simp only; omega) (fz _ (by simp only; omega)).1).trans hz0
              have hR2 := hR.rem_other ht x
              have hO3 : (s.S.rem t x).1.Ok := hO.rem _ _
              obtain ⟨hl5, hl6⟩ := hR2.lenL
              obtain ⟨H3, n3, c3, g3, w3, k3⟩ := queries_ok hT1.a (n1 + 19) (by omega) (by omega) 1
              have hT3 := Two.old hT1 (H' := H3) fun p hp => k3 p (by omega)
              obtain ⟨H4, n4, c4, g4, w4, k4⟩ := queries_ok hT3.b (n3 + 0) (by omega) (by omega) 1
              have hT4 := Two.old hT3 (H' := H4) fun p hp => k4 p (by omega)
              have w5 := (k4 (n1 + 19 + 9, 1) (by simp only; omega)).trans w3
              have hx := ints_ok ((s.S.rem t x).1.ids 1) (s.T.ids 1) (hT1.a.idsLe 1)
              rw [show decide ((s.S.rem t x).1.ids 1 = s.T.ids 1) = true from decide_eq_true hR2.ids] at hx
              obtain ⟨y1, i1, e1, f1⟩ := ids_reify w5 5
              obtain ⟨y2, i2, e2, f2⟩ := ids_reify w4 5
              simp only [Nat.reduceAdd, idsA, Nat.add_assoc, Nat.add_zero] at e1 e2 c3 c4
              conv => arg 9; arg 4; unfold b5_0
              simp [plc_raw, Nat.add_assoc, q.lti, q.len, q.ltm, q.dr, q.le4, q.w, ← hHz, hz0, z1, c1, c3, c4, e1, e2, f1, f2, hx, hk, ht, hk1, -reify]
              exact .next (TwS.mk (s.i + 1) H4 (n4 + 3) vs1 os1 s.us s.ps (s.S.rem t x).1 s.T) (by simp) (by simp) rfl ⟨hlt, hT4.mono (by simp only; omega), hR2, hO3⟩ (by simp only; omega) rfl
      · have hte : s.i = l.length := Nat.le_antisymm hi hlt
        simp [b5_0, hte]
        exact .fin _ _ ⟨rfl, by simp⟩) s0 h0
  rw [hi0] at key
  simpa using key
end Go.Proofs.Ytnlmonokkppagaa.Am

/-
  The scheduler: SchedApart returns true. No condition.
-/
namespace Go.Proofs.Ytnlmonokkppagaa.Am
open Go Go.Proofs
set_option maxHeartbeats 4000000
set_option maxRecDepth 20000
set_option linter.unusedSimpArgs false
set_option linter.unusedVariables false
theorem schedApart_ok (w : Int) (l : List Op4) (hn : l.length ≤ 9223372036854775807) : pcl Cp 5 [.int .i64 w, dO l] = some (.bool true) := by
  have hal := alive21_ok
  refine pcl_body code5 ?_
  by_cases h1 : w < 1 ∨ 16 < w
  · obtain ⟨n0, c0⟩ := new_bad (fun _ => none) 8 3 w (by omega)
    obtain ⟨n1, c1⟩ := new_bad (fun _ => none) (n0 + 7) 3 w (by omega)
    by_cases h2 : w < 1
    · simp [plc_raw, c0, c1, hal, Nat.add_assoc, h2]
    · have h3 : 16 < w := by omega
      simp [plc_raw, c0, c1, hal, Nat.add_assoc, h2, h3]
  obtain ⟨w, rfl⟩ : ∃ k : Nat, w = k := ⟨w.toNat, by omega⟩
  obtain ⟨H0, n0, oS, oL, vs0, os0, c0, g0, s0, k0, f0⟩ := new_ok (fun _ => none) 8 3 w (by omega) (by omega) (by omega) (by omega)
  obtain ⟨H1, n1, pS, pL, us0, ps0, c1, g1, s1, k1, f1⟩ := new_ok H0 (n0 + 7) 3 w (by omega) (by omega) (by omega) (by omega)
  simp only [show ((3 : Nat) : Int) = 3 from rfl] at c0 c1
  have hrel : Rel ⟨w, 0, List.replicate 3 []⟩ ⟨w, 0, List.replicate 3 []⟩ := ⟨w, 0, [], [], [], [], [], rfl, rfl⟩
  have hT : Two H1 n1 oS oL vs0 os0 ⟨w, 0, List.replicate 3 []⟩ pS pL us0 ps0 ⟨w, 0, List.replicate 3 []⟩ :=
    ⟨(s0.keep fun p hp => k1 p (by have := s0.foot_lt hp; omega)).mono (by omega), s1, fun p hp hq => by have := s0.foot_lt hp; have := f1 p hq; omega⟩
  obtain ⟨e, st, hr, rfl, htm⟩ := apart_loop l hn oS oL pS pL ⟨0, H1, n1 + 15, vs0, os0, us0, ps0, ⟨w, 0, List.replicate 3 []⟩, ⟨w, 0, List.replicate 3 []⟩⟩ ⟨Nat.zero_le _, hT.mono (by simp only; omega), hrel, ⟨by simp only; omega, by simp only; omega, by simp only; omega⟩⟩ rfl
  simp only [apT, Int.natCast_zero] at hr
  simp [plc_raw, c0, c1, hal, Nat.add_assoc, hr, htm]
end Go.Proofs.Ytnlmonokkppagaa.Am


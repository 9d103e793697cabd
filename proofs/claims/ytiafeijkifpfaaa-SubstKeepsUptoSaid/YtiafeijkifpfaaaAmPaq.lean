/-
  Joined texts: AmRm, AmRv, AmWc, AmRx, AmVa, AmVb, AmRm2, AmSg, AmSh, AmRz. No condition.
-/
import Derived.Test.YtiafeijkifpfaaaAmPap
/-
 Numbers without those that stand twice one behind the other: what slices.Compact does. No condition.
-/
namespace Go.Proofs.Ytiafeijkifpfaaa.Am
open Go Go.Proofs
set_option maxHeartbeats 4000000
set_option maxRecDepth 20000
set_option linter.unusedSimpArgs false
set_option linter.unusedVariables false
def avZ (zs : List Int) : List AV := zs.map fun z => .d (.int .i64 z)
abbrev rowZ (zs : List Int) : Am.Obj := .grow (avZ zs)
theorem avZ_get {zs : List Int} {j : Nat} (h : j < zs.length) : (avZ zs)[j]? = some (.d (.int .i64 zs[j])) := by simp [avZ, h]
theorem avZ_getE {zs : List Int} {j : Nat} (h : j < (avZ zs).length) : (avZ zs)[j] = .d (.int .i64 (zs[j]'(by simpa [avZ] using h))) := by simp [avZ]
theorem avZ_len (zs : List Int) : (avZ zs).length = zs.length := List.length_map _
theorem splice_set (zs : List Int) (k : Nat) (x : Int) (h : k < zs.length) : splice (avZ zs) k [.d (.int .i64 x)] = avZ (zs.set k x) := by
 unfold splice
 rw [List.set_eq_take_append_cons_drop, if_pos h]
 simp [avZ]
theorem mem_take_succ {l : List Int} {k : Nat} {x : Int} (h : k < l.length) : x ∈ l.take (k + 1) ↔ x ∈ l.take k ∨ x = l[k] := by
 rw [List.take_add_one, List.getElem?_eq_getElem h]; simp only [List.mem_append, Option.toList_some, List.mem_singleton]
theorem take_set_same (l : List Int) (k : Nat) (x : Int) : (l.set k x).take k = l.take k := by
 rw [List.take_set, List.set_eq_of_length_le (by rw [List.length_take]; exact Nat.min_le_left _ _)]
structure CmI (orig : List Int) (q : Oid) (k0 n b : Nat) (s : Nat × Nat × List Int × Hp) : Prop where
 k1 : k0 ≤ s.1
 kk : s.1 + 1 ≤ k0 + s.2.1
 kn : k0 + s.2.1 ≤ n
 len : s.2.2.1.length = n
 at_ : s.2.2.2 q = some (rowZ s.2.2.1)
 same : ∀ j, k0 + s.2.1 ≤ j + 1 → s.2.2.1[j]? = orig[j]?
 mem : ∀ x, x ∈ s.2.2.1.take s.1 ↔ x ∈ orig.take (k0 + s.2.1)
abbrev cmT (q : Oid) (w : AV) (k0 n k k2 : Nat) : List AV := [.osl q 0 n 1 n, .junk, w, .d (.int .i64 k), .osl q k0 (n - k0) 1 n, .d (.int .i64 k2), .junk, .junk, .junk, .junk, .junk, .junk, .junk, .junk, .junk, .junk, .junk, .junk, .junk, .junk, .junk, .junk, .junk, .junk, .junk, .junk, .junk, .junk, .junk, .junk, .junk, .junk, .junk, .junk, .junk, .junk, .junk, .junk, .junk, .junk, .junk, .junk, .junk, .junk, .junk, .junk, .junk, .junk, .junk, .junk, .junk, .junk, .junk, .junk, .junk, .junk, .junk, .junk, .junk, .junk, .junk]
def CmEnd (orig : List Int) (q : Oid) (w : AV) (k0 n b : Nat) (_ : Unit) (e : Ex) (t : St) : Prop :=
 ∃ (k : Nat) (zs : List Int) (H : Hp) (nx : Nat), e = .exit 2 ∧ t = ⟨cmT q w k0 n k (n - k0), H, nx⟩ ∧ b ≤ nx ∧ 1 ≤ k ∧ k + 1 ≤ n ∧ zs.length = n ∧ H q = some (rowZ zs) ∧ ∀ x, x ∈ zs.take k ↔ x ∈ orig
theorem compact_in (orig : List Int) (q : Oid) (w : AV) (k0 n b : Nat) (hk0 : 1 ≤ k0) (hn : k0 < n) (hq : q.1 < b) (hnn : n ≤ 33554432) (ho : orig.length = n) (s0 : Nat × Nat × List Int × Hp) (h0 : CmI orig q k0 n b s0) :
  ∃ e t, aloop Try.prog plc b91_0 ⟨[true, false, true, true, true, true, false, false, false, false, false, false, false, false, true, true, false, false, false, false, false, false, false, false, false, false, false, false, false, false, false, false, false, false, false, false, false, false, false, false, false, false, false, false, false, false, false, false, false, false, false, false, false, false, true, true, true, true, true, true, true], some b⟩ ⟨cmT q w k0 n s0.1 s0.2.1, s0.2.2.2, b⟩ = some (e, t) ∧ CmEnd orig q w k0 n b () e t := by
 have := loop_rule (P := Try.prog) (pol := plc) (c := b91_0) (m := ⟨[true, false, true, true, true, true, false, false, false, false, false, false, false, false, true, true, false, false, false, false, false, false, false, false, false, false, false, false, false, false, false, false, false, false, false, false, false, false, false, false, false, false, false, false, false, false, false, false, false, false, false, false, false, false, true, true, true, true, true, true, true], some b⟩)
  (b := b) (tm := fun (s : Nat × Nat × List Int × Hp) => cmT q w k0 n s.1 s.2.1) (Hf := fun s => s.2.2.2)
  (I := CmI orig q k0 n b) (μ := fun s => n - k0 - s.2.1) (res := fun s => ())
  (R := CmEnd orig q w k0 n b)
  (fun s nx hi => by
   obtain ⟨k, k2, zs, H⟩ := s
   obtain ⟨h1, h2, h3, h4, h5, h6, h7⟩ := hi
   simp only at h1 h2 h3 h4 h5 h6 h7
   have e1 : IntKind.i64.wrap ((k2 : Int) - 1) = (k2 : Int) - 1 := wrap_i64 (by omega) (by omega)
   have e2 : IntKind.i64.wrap ((k2 : Int) + 1) = (k2 : Int) + 1 := wrap_i64 (by omega) (by omega)
   have e3 : IntKind.i64.wrap ((k : Int) + 1) = (k : Int) + 1 := wrap_i64 (by omega) (by omega)
   rcases Nat.lt_or_ge (k0 + k2) n with hl | hl
   ·have c1 : (k2 : Int) < ((n - k0 : Nat) : Int) := by omega
    have c3 : (1 : Int) ≤ (k2 : Int) := by omega
    have c4 : (k2 : Int) - 1 < ((n - k0 : Nat) : Int) := by omega
    have c5 : (k : Int) < (n : Int) := by omega
    have c6 : k < n := by omega
    have ss : List.take k (avZ zs) ++ AV.d (D.int .i64 zs[k0 + k2]) :: List.drop (k + 1) (avZ zs) = avZ (zs.set k zs[k0 + k2]) := by simpa [splice] using splice_set zs k zs[k0 + k2] (by omega)
    have hck : k + 1 ≤ n := c6
    have c2 : ((k2 : Int) - 1).toNat = k2 - 1 := by omega
    have g1 := avZ_get (zs := zs) (j := k0 + k2) (by omega)
    have g2 := avZ_get (zs := zs) (j := k0 + (k2 - 1)) (by omega)
    have hcl : (avZ zs).length = n := (avZ_len zs).trans h4
    have hzo : zs[k0 + k2] = orig[k0 + k2] := by
     have := h6 (k0 + k2) (by omega)
     simpa [h4, ho, hl] using this
    have hzp : zs[k0 + (k2 - 1)] = orig[k0 + (k2 - 1)] := by
     have := h6 (k0 + (k2 - 1)) (by omega)
     have h8 : k0 + (k2 - 1) < n := by omega
     simpa [h4, ho, h8] using this
    have htk : ∀ x, x ∈ orig.take (k0 + (k2 + 1)) ↔ x ∈ orig.take (k0 + k2) ∨ x = orig[k0 + k2] := fun x => by
     rw [← Nat.add_assoc]; exact mem_take_succ (by omega)
    have hpm : orig[k0 + (k2 - 1)] ∈ orig.take (k0 + k2) := List.mem_take_iff_getElem.2 ⟨k0 + (k2 - 1), by omega, rfl⟩
    conv => arg 9; arg 4; unfold b91_0
    by_cases hne : zs[k0 + k2] = zs[k0 + (k2 - 1)]
    ·simp [plc_raw, c1, c2, c3, c4, c5, c6, hck, ss, e1, e2, e3, g1, g2, h5, hcl, avZ_getE, hne, Nat.add_assoc]
     refine .next (k, k2 + 1, zs, below b H) (by omega) (by simp) rfl ⟨h1, by simp only; omega, by simp only; omega, h4, (below_lt hq).trans h5, fun j hj => h6 j (by simp only at hj; omega), fun x => ?_⟩ (by simp only; omega) rfl
     simp only
     rw [h7, htk, ← hzo, hne, hzp]
     constructor
     ·exact .inl
     ·rintro (h | rfl)
      ·exact h
      ·exact hpm
    ·simp [plc_raw, c1, c2, c3, c4, c5, c6, hck, ss, e1, e2, e3, g1, g2, h5, hcl, avZ_getE, hne, Nat.add_assoc]
     refine .next (k + 1, k2 + 1, zs.set k zs[k0 + k2], _) (by omega) (by simp) rfl ⟨by simp only; omega, by simp only; omega, by simp only; omega, by simp [h4], (below_lt hq).trans (upd_same _ _ _), fun j hj => ?_, fun x => ?_⟩ (by simp only; omega) rfl
     ·simp only at hj ⊢
      rw [List.getElem?_set_ne (by omega)]
      exact h6 j (by omega)
     ·simp only
      rw [mem_take_succ (by simp; omega), htk, ← h7, ← hzo, take_set_same]
      simp
   ·have c1 : ¬ (k2 : Int) < ((n - k0 : Nat) : Int) := by omega
    simp [b91_0, plc_raw, c1, Nat.add_assoc]
    refine .fin _ _ ⟨k, zs, below b H, nx + (b + 4), rfl, ?_, by omega, by omega, by omega, h4, (below_lt hq).trans h5, fun x => ?_⟩
    ·obtain rfl : k2 = n - k0 := by omega
     rfl
    ·rw [h7, show k0 + k2 = orig.length by omega, List.take_length]) s0 h0
 exact this
abbrev cmO (q : Oid) (w : AV) (n k : Nat) : List AV := [.osl q 0 n 1 n, .junk, w, .d (.int .i64 k), .junk, .junk, .junk, .junk, .junk, .junk, .junk, .junk, .junk, .junk, .junk, .junk, .junk, .junk, .junk, .junk, .junk, .junk, .junk, .junk, .junk, .junk, .junk, .junk, .junk, .junk, .junk, .junk, .junk, .junk, .junk, .junk, .junk, .junk, .junk, .junk, .junk, .junk, .junk, .junk, .junk, .junk, .junk, .junk, .junk, .junk, .junk, .junk, .junk, .junk, .junk, .junk, .junk, .junk, .junk, .junk, .junk]
def CmOut (orig : List Int) (q : Oid) (w : AV) (n : Nat) (_ : Unit) (e : Ex) (t : St) : Prop :=
 (e = .exit 0 ∧ ∃ H nx, t = ⟨cmO q w n n, H, nx⟩ ∧ H q = some (rowZ orig)) ∨
 (e = .ret ∧ ∃ m zs, t.tm.getD 2 .junk = .osl q 0 m 1 n ∧ t.hp q = some (rowZ zs) ∧ zs.length = n ∧ 1 ≤ m ∧ m ≤ n ∧ ∀ x, x ∈ zs.take m ↔ x ∈ orig)
theorem flat_one (m : Nat) (x : AV) : (List.replicate m [x]).flatten = List.replicate m x := by
 induction m with
 | zero => rfl
 | succ m ih => rw [List.replicate_succ, List.flatten_cons, ih]; rfl
theorem compact_out (orig : List Int) (q : Oid) (w : AV) (n b : Nat) (hq : q.1 < b) (hnn : n ≤ 33554432) (ho : orig.length = n) (s0 : Nat × Hp) (h0 : 1 ≤ s0.1 ∧ s0.1 ≤ n ∧ s0.2 q = some (rowZ orig)) :
  ∃ e t, aloop Try.prog plc b91_1 ⟨[true, false, true, true, false, false, false, false, false, false, false, false, false, false, false, false, false, false, false, false, false, false, false, false, false, false, false, false, false, false, false, false, false, false, false, false, false, false, false, false, false, false, false, false, false, false, false, false, false, false, false, false, false, false, false, false, false, false, false, false, true], some b⟩ ⟨cmO q w n s0.1, s0.2, b⟩ = some (e, t) ∧ CmOut orig q w n () e t := by
 have := loop_rule (P := Try.prog) (pol := plc) (c := b91_1) (m := ⟨[true, false, true, true, false, false, false, false, false, false, false, false, false, false, false, false, false, false, false, false, false, false, false, false, false, false, false, false, false, false, false, false, false, false, false, false, false, false, false, false, false, false, false, false, false, false, false, false, false, false, false, false, false, false, false, false, false, false, false, false, true], some b⟩)
  (b := b) (tm := fun (s : Nat × Hp) => cmO q w n s.1) (Hf := fun s => s.2)
  (I := fun s => 1 ≤ s.1 ∧ s.1 ≤ n ∧ s.2 q = some (rowZ orig)) (μ := fun s => n - s.1) (res := fun s => ())
  (R := CmOut orig q w n)
  (fun s nx hi => by
   obtain ⟨k, H⟩ := s
   obtain ⟨h1, h2, h3⟩ := hi
   simp only at h1 h2 h3
   have e1 : IntKind.i64.wrap ((k : Int) - 1) = (k : Int) - 1 := wrap_i64 (by omega) (by omega)
   have e2 : IntKind.i64.wrap ((k : Int) + 1) = (k : Int) + 1 := wrap_i64 (by omega) (by omega)
   rcases Nat.lt_or_ge k n with hl | hl
   ·have c1 : (k : Int) < (n : Int) := by omega
    have c2 : ((k : Int) - 1).toNat = k - 1 := by omega
    have c3 : (1 : Int) ≤ (k : Int) := by omega
    have c4 : (k : Int) - 1 < (n : Int) := by omega
    have g1 := avZ_get (zs := orig) (j := k) (by omega)
    have g2 := avZ_get (zs := orig) (j := k - 1) (by omega)
    have hcl : (avZ orig).length = n := (avZ_len orig).trans ho
    conv => arg 9; arg 4; unfold b91_1
    by_cases hne : orig[k] = orig[k - 1]
    ·have htk : ∀ x, x ∈ orig.take k ↔ x ∈ orig.take (k + 1) := fun x => by
      rw [mem_take_succ (by omega), hne]
      constructor
      ·exact .inl
      ·rintro (h | rfl)
       ·exact h
       ·exact List.mem_take_iff_getElem.2 ⟨k - 1, by omega, rfl⟩
     obtain ⟨e, t, hrun, k2, zs, H2, nx2, rfl, rfl, hb2, hk1, hk2, hzl, hz, hmem⟩ := compact_in orig q w k n (nx + (b + 19)) h1 hl (by omega) hnn ho (k, 1, orig, H) ⟨Nat.le_refl _, Nat.le_refl _, hl, ho, h3, fun _ _ => rfl, htk⟩
     have hclz : (avZ zs).length = n := (avZ_len zs).trans hzl
     simp [cmT] at hrun
     have hk3 : k2 ≤ n := by omega
     have hk4 : k2 + (n - k2) ≤ n := by omega
     have hk5 : ¬ n - k2 = 0 := by omega
     have hcr : List.take k2 (avZ zs) ++ (List.replicate (n - k2) (AV.d (D.int .i64 0)) ++ List.drop n (avZ zs)) = avZ (zs.take k2 ++ List.replicate (n - k2) 0) := by
      rw [List.drop_eq_nil_of_le (by omega)]
      simp [avZ]
     have hcl3 : (avZ (zs.take k2 ++ List.replicate (n - k2) 0)).length = n := by rw [avZ_len]; simp; omega
     simp [plc_raw, c1, c2, c3, c4, hl, h2, e1, e2, g1, g2, h3, hcl, avZ_getE, hne, Nat.add_assoc, hrun, hclz, hk3, hk4, hk5, hz, flat_one, hcr, hcl3]
     refine .fin _ _ ?_
     refine Or.inr ⟨rfl, k2, zs.take k2 ++ List.replicate (n - k2) 0, rfl, (below_lt hq).trans ?_, by simp; omega, hk1, hk3, fun x => ?_⟩
     ·exact upd_same _ _ _
     ·rw [List.take_left' (by simp; omega)]; exact hmem x
    ·simp [plc_raw, c1, c2, c3, c4, hl, e1, e2, g1, g2, h3, hcl, avZ_getE, hne, Nat.add_assoc]
     refine .next (k + 1, below b H) (by omega) (by simp) rfl ?_ ?_ rfl
     ·exact ⟨Nat.succ_le_succ (Nat.zero_le _), hl, (below_lt hq).trans h3⟩
     ·show n - (k + 1) < n - k
      omega
   ·have c1 : ¬ (k : Int) < (n : Int) := by omega
    obtain rfl : k = n := by omega
    simp [b91_1, plc_raw, c1, Nat.add_assoc]
    exact .fin _ _ (.inl ⟨rfl, below b H, _, rfl, (below_lt hq).trans h3⟩)) s0 h0
 exact this
theorem reifyZ {H : Hp} {q : Oid} {zs : List Int} {m n : Nat} (h : H q = some (rowZ zs)) (hn : zs.length = n) (hm : m ≤ n) : (reify H 6 (.osl q 0 m 1 n)).map (·.1) = some (.sl (encI (zs.take m)) (zs.take m).length false (some false)) := by
 have hl : (zs.take m).length = m := by rw [List.length_take]; omega
 have h1 := mapD_encI2 H 5 (zs.take m)
 have h2 : List.take m (avZ zs) = List.map (AV.d ∘ D.int .i64) (zs.take m) := by simp [avZ]; rfl
 have h3 : (avZ zs).length = n := (avZ_len zs).trans hn
 simp only [reify, h, Obj.isRow, Obj.cs, nlOf, Option.bind_eq_bind, Option.bind_some]
 simp [hm, -List.map_take]
 rw [h2, h1]
 simp [h3]
 omega
def Comp (zs : List Int) (r : Option (AV × Hp × Nat)) : Prop :=
 ∃ o a b c H' nx' l nl, r = some (.osl o 0 a b c, H', nx') ∧ (reify H' 6 (.osl o 0 a b c)).map (·.1) = some (.sl (encI l) l.length false nl) ∧ l.length ≤ zs.length ∧ ∀ x, x ∈ l ↔ x ∈ zs
theorem compact_ok (zs : List Int) (v : AV) (q : Oid) (H : Hp) (nx : Nat) (hr : RowD H 1 v q (zs.map (D.int .i64 ·)) zs.length) (hq : q.1 < nx) (hn : zs.length ≤ 33554432) : Comp zs (acall Try.prog plc 91 [v] H nx) := by
 generalize hcs : zs.map (D.int .i64 ·) = cs at hr
 generalize hnl : zs.length = n at hr
 cases hr with
 | nil =>
  obtain rfl : zs = [] := List.length_eq_zero_iff.1 hnl
  refine ⟨(nx + 5, 1), 0, 1, 0, upd (upd H (nx, 1) .vnil) (nx + 5, 1) .vnil, nx + 6, [], some true, acall_body code91 ?_, ?_, Nat.le_refl _, fun x => Iff.rfl⟩
  ·simp [plc_raw, Nat.add_assoc]
  ·simp [reify, Obj.isRow, Obj.cs, nlOf, mapD, encI]
 | vn _ h =>
  obtain rfl : zs = [] := List.length_eq_zero_iff.1 hnl
  refine ⟨q, 0, 1, 0, upd H (nx, 1) .vnil, nx + 6, [], some true, acall_body code91 ?_, ?_, Nat.le_refl _, fun x => Iff.rfl⟩
  ·simp [plc_raw, Nat.add_assoc]
  ·have : upd H (nx, 1) .vnil q = some .vnil := (upd_old hq _ _ _).trans h
   simp [reify, this, Obj.isRow, Obj.cs, nlOf, mapD, encI]
 | row _ _ _ h hl =>
  have h1 : H q = some (rowZ zs) := by rw [h, ← hcs]; simp [avZ]
  have hl2 : cs.length = n := by omega
  rw [hl2]
  have h2 : upd H (nx, 1) .vnil q = some (rowZ zs) := (upd_old hq _ _ _).trans h1
  by_cases hs : n < 2
  ·have hsi : (n : Int) < 2 := by omega
   refine ⟨q, n, 1, n, upd H (nx, 1) .vnil, nx + 6, zs, some false, acall_body code91 ?_, ?_, Nat.le_refl _, fun x => Iff.rfl⟩
   ·simp [plc_raw, Nat.add_assoc, hs, hsi]
   ·have := reifyZ h2 hnl (Nat.le_refl n)
    rw [← hnl, List.take_length] at this
    rw [← hnl]; exact this
  ·have hsi : ¬ (n : Int) < 2 := by omega
   obtain ⟨e, t, hrun, hend⟩ := compact_out zs q (.osl (nx, 1) 0 0 1 0) n (nx + 5) (by omega) (by omega) hnl (1, upd H (nx, 1) .vnil) ⟨Nat.le_refl _, by simp only; omega, h2⟩
   simp [cmO] at hrun
   rcases hend with ⟨rfl, H2, nx2, rfl, hz⟩ | ⟨rfl, m, zs2, hv, hz, hz2, hm1, hm2, hmem⟩
   ·refine ⟨q, n, 1, n, H2, nx2 + 2, zs, some false, acall_body code91 ?_, ?_, Nat.le_refl _, fun x => Iff.rfl⟩
    ·simp [plc_raw, Nat.add_assoc, hs, hsi, hrun]
    ·have := reifyZ hz hnl (Nat.le_refl n)
     rw [← hnl, List.take_length] at this
     rw [← hnl]; exact this
   ·obtain ⟨tm, H2, nx2⟩ := t
    simp only at hv hz
    refine ⟨q, m, 1, n, H2, nx2, zs2.take m, some false, acall_body code91 ?_, reifyZ hz hz2 hm2, by rw [List.length_take]; omega, hmem⟩
    have hv' := hv
    simp [plc_raw, Nat.add_assoc, hs, hsi, hrun, hv']
    simpa using hv
end Go.Proofs.Ytiafeijkifpfaaa.Am

/-
 A term's variables: what the program's function answers. No condition.
-/
namespace Go.Proofs.Ytiafeijkifpfaaa.Am
open Go Go.Proofs
set_option maxHeartbeats 4000000
set_option maxRecDepth 20000
set_option linter.unusedSimpArgs false
set_option linter.unusedVariables false
theorem intsOf_avZ : ∀ (zs : List Int), intsOf (avZ zs) = some zs
 | [] => rfl
 | z :: r => by
  have := intsOf_avZ r
  simp only [avZ] at this ⊢
  simp [intsOf, this]
theorem sort_call (zs : List Int) (q : Oid) (H : Hp) (nx n : Nat) (h : H q = some (rowZ zs)) (hn : zs.length = n) (h0 : 0 < n) (hb : n ≤ 33554432) :
  acall Try.prog plc 90 [.osl q 0 n 1 n] H nx = some (.d (.tup []), upd H q (rowZ (sortZ zs)), nx) := by
 refine acall_of Try.prog plc ?_
 unfold callF
 rw [if_neg (by decide)]
 have he : plc.ext 90 = some sortX := rfl
 rw [he]
 obtain ⟨m, rfl⟩ : ∃ m, n = m + 1 := ⟨n - 1, by omega⟩
 have h1 : (avZ zs).take (m + 1) = avZ zs := List.take_of_length_le (by rw [avZ_len]; omega)
 have h2 : (avZ zs).length = m + 1 := (avZ_len zs).trans hn
 have h3 : List.map (fun z => AV.d (.int .i64 z)) (sortZ zs) ++ List.drop (sortZ zs).length (avZ zs) = avZ (sortZ zs) := by
  rw [List.drop_eq_nil_of_le (by rw [sortZ_len, avZ_len]; omega)]
  simp [avZ]
 have h4 : m + 1 ≤ 1073741824 := by omega
 simp [sortX, h, h1, Obj.cs, Obj.isRow, Obj.isFrz, Obj.put, intsOf_avZ, h2, h3, h4]
theorem sort_call0 (q : Oid) (H : Hp) (nx a b : Nat) : acall Try.prog plc 90 [.osl q 0 0 a b] H nx = some (.d (.tup []), H, nx) := by
 refine acall_of Try.prog plc ?_
 unfold callF
 rw [if_neg (by decide)]
 have he : plc.ext 90 = some sortX := rfl
 rw [he]
 simp [sortX]
theorem vars_term (t : Term) (ht : t.ok) (hs : t.size ≤ 1048576) : ∃ l nl, pcl Cp 72 [.agg t.enc] = some (.sl (encI l) l.length false nl) ∧ l.length ≤ t.occ.length ∧ ∀ x, x ∈ l ↔ x ∈ t.occ := by
 have hol := occ_len t
 obtain ⟨v, q, H1, n1, hc, hr, hq, hn1, -, -⟩ := collect_ok t ht (upd (upd (fun _ => none) (0, 0) (.cells (t.enc.map .d))) (1, 1) .vnil) 5 (.d (.sl [] 0 true (some true))) (0, 0) [] 0 (.nil _) (by decide) (by omega)
 rw [List.nil_append, Nat.zero_add] at hr
 generalize t.occ = zs at hr hol ⊢
 have hm : ∀ x, x ∈ sortZ zs ↔ x ∈ zs := fun x => (List.mergeSort_perm zs _).mem_iff
 generalize hcs : zs.map (D.int .i64 ·) = cs at hr
 generalize hnl : zs.length = n at hr
 obtain ⟨tv, fn, args⟩ := t
 simp [Term.enc] at hc
 cases hr with
 | nil =>
  obtain rfl : zs = [] := List.length_eq_zero_iff.1 hnl
  have hso := sort_call0 (4, 1) (upd H1 (4, 1) .vnil) (n1 + 2) 1 0
  obtain ⟨o, a, b, c, H2, n2, l, nl, hcm, hre, hll, hmem⟩ := compact_ok [] _ (4, 1) _ (n1 + 5) (RowD.vn (4, 1) (upd_same H1 (4, 1) .vnil)) (by simp only; omega) (by simp)
  obtain ⟨x, hx1, hx2⟩ := Option.map_eq_some_iff.1 hre
  refine ⟨l, nl, pcl_body code72 ?_, hll, hmem⟩
  simp [plc_raw, Term.enc, hc, hso, hcm, -datK_some, Nat.add_assoc]
  rw [datK_some]
  simp only [hx1, Option.map_some, hx2]
  rfl
 | vn _ h =>
  obtain rfl : zs = [] := List.length_eq_zero_iff.1 hnl
  have hso := sort_call0 q H1 (n1 + 2) 1 0
  obtain ⟨o, a, b, c, H2, n2, l, nl, hcm, hre, hll, hmem⟩ := compact_ok [] _ q _ (n1 + 5) (RowD.vn q h) (by omega) (by simp)
  obtain ⟨x, hx1, hx2⟩ := Option.map_eq_some_iff.1 hre
  refine ⟨l, nl, pcl_body code72 ?_, hll, hmem⟩
  simp [plc_raw, Term.enc, hc, hso, hcm, -datK_some, Nat.add_assoc]
  rw [datK_some]
  simp only [hx1, Option.map_some, hx2]
  rfl
 | row _ _ _ h hl =>
  have h1 : H1 q = some (rowZ zs) := by rw [h, ← hcs]; simp [avZ]
  have hl2 : cs.length = n := by omega
  have hnb : n ≤ 1048576 := by omega
  rw [hl2] at hc
  rcases Nat.eq_zero_or_pos n with h0 | h0
  ·subst h0
   obtain rfl : zs = [] := List.length_eq_zero_iff.1 hnl
   have hso := sort_call0 q H1 (n1 + 2) 1 0
   obtain ⟨o, a, b, c, H2, n2, l, nl, hcm, hre, hll, hmem⟩ := compact_ok [] _ q _ (n1 + 5) (RowD.row (H := H1) (sz := 1) q [] 0 h1 rfl) (by omega) (by simp)
   obtain ⟨x, hx1, hx2⟩ := Option.map_eq_some_iff.1 hre
   refine ⟨l, nl, pcl_body code72 ?_, hll, hmem⟩
   simp at hcm
   simp [plc_raw, Term.enc, hc, hso, hcm, -datK_some, Nat.add_assoc]
   rw [datK_some]
   simp only [hx1, Option.map_some, hx2]
   rfl
  ·have hso := sort_call zs q H1 (n1 + 2) n h1 hnl h0 (by omega)
   have hsl : (sortZ zs).length = n := (sortZ_len zs).trans hnl
   have hr2 : RowD (upd H1 q (rowZ (sortZ zs))) 1 (.osl q 0 n 1 n) q ((sortZ zs).map (D.int .i64 ·)) (sortZ zs).length := by
    have h5 : ((sortZ zs).map (D.int .i64 ·)).length = n := by rw [List.length_map]; exact hsl
    have := RowD.row (H := upd H1 q (rowZ (sortZ zs))) (sz := 1) q ((sortZ zs).map (D.int .i64 ·)) n (by rw [upd_same]; simp [avZ]) (by omega)
    rw [h5] at this
    rw [hsl]; exact this
   obtain ⟨o, a, b, c, H2, n2, l, nl, hcm, hre, hll, hmem⟩ := compact_ok (sortZ zs) _ q _ (n1 + 5) hr2 (by omega) (by omega)
   obtain ⟨x, hx1, hx2⟩ := Option.map_eq_some_iff.1 hre
   refine ⟨l, nl, pcl_body code72 ?_, by rw [hsl] at hll; omega, fun x => (hmem x).trans (hm x)⟩
   simp [plc_raw, Term.enc, hc, hso, hcm, -datK_some, Nat.add_assoc]
   rw [datK_some]
   simp only [hx1, Option.map_some, hx2]
   rfl
end Go.Proofs.Ytiafeijkifpfaaa.Am

/-
 Substitutions applied: what the document's functions answer. No condition.
-/
namespace Go.Proofs.Ytiafeijkifpfaaa.Am
open Go Go.Proofs
set_option maxHeartbeats 4000000
set_option linter.unusedSimpArgs false
set_option linter.unusedVariables false
abbrev zeroT : Term := .mk 0 (ByteArray.mk #[]) []
theorem putS_ok (bs : List Bd) (hb : okB bs) (t : Term) : t.ok → (t.putS bs).ok := by
 refine Term.ind (p := fun t => t.ok → (t.putS bs).ok) (fun v fn args ih h => ?_) t
 have hl : ∀ (a : List Term), (∀ x ∈ a, x.ok → (x.putS bs).ok) → okL a → okL (putSL bs a) := by
  intro a
  induction a with
  | nil => intro _ _; trivial
  | cons x r ih2 => intro h1 h2; exact ⟨h1 x (by simp) h2.1, ih2 (fun z hz => h1 z (by simp [hz])) h2.2⟩
 by_cases hv : fn.toList = []
 ·simp only [Term.putS, if_pos hv]
  unfold ofS
  cases hf : bs.find? (fun b => decide (b.v = v)) with
  | none => simp [Term.ok, okL]
  | some b => exact hb.2 b (List.mem_of_find?_eq_some hf)
 ·simp only [Term.putS, if_neg hv]
  exact ⟨by rw [putSL_len]; exact h.1, hl args ih h.2⟩
def applyS (bs : List Bd) (t : Term) : Term × Int :=
 if isB bs = true ∧ t.rightE = 0 then (if (t.putS bs).rightE = 0 then (t.putS bs, 0) else (zeroT, (t.putS bs).rightE)) else (zeroT, 1)
theorem apply_ok (bs : List Bd) (hb : okB bs) (t : Term) (ht : t.ok) (hs : t.size ≤ 1048576) :
  ∃ r, pcl Cp 31 [.sl (encB bs) bs.length false none, .agg t.enc] = some r ∧ wk r = .tup [.agg (applyS bs t).1.enc, .int .i64 (applyS bs t).2] := by
 have h1 := ris_ok bs hb
 have h2 := rright_ok t ht
 obtain ⟨r, h3, h4⟩ := put_ok bs hb t ht hs
 have h5 := rright_ok _ (putS_ok bs hb t ht)
 unfold applyS
 generalize t.putS bs = u at *
 generalize t.rightE = z at *
 generalize u.rightE = y at *
 generalize isB bs = b at *
 obtain ⟨v, fn, args⟩ := t
 obtain ⟨v2, fn2, args2⟩ := u
 simp [Term.enc] at h2 h3 h4 h5 ⊢
 cases b
 ·refine ⟨.tup [.agg [.int .i64 0, .str (ByteArray.mk #[]), .sl [] 0 false (some true)], .int .i64 1], pcl_body code31 ?_, by simp [encL, Term.enc]⟩
  simp [plc_raw, h1]
 by_cases hz : z = 0
 ·by_cases hy : y = 0
  ·refine ⟨.tup [.agg [.int .i64 v2, .str fn2, .sl (encL args2) args2.length false none], .int .i64 0], pcl_body code31 ?_, by simp [hz, hy, Term.enc]⟩
   simp [plc_raw, h1, h2, h3, h4, h5, hz, hy]
  ·refine ⟨.tup [.agg [.int .i64 0, .str (ByteArray.mk #[]), .sl [] 0 false (some true)], .int .i64 y], pcl_body code31 ?_, by simp [hz, hy, encL, Term.enc]⟩
   simp [plc_raw, h1, h2, h3, h4, h5, hz, hy]
 ·refine ⟨.tup [.agg [.int .i64 0, .str (ByteArray.mk #[]), .sl [] 0 false (some true)], .int .i64 1], pcl_body code31 ?_, by simp [hz, encL, Term.enc]⟩
  simp [plc_raw, h1, h2, hz]
end Go.Proofs.Ytiafeijkifpfaaa.Am

/-
 Shifts: what the program's function answers. No condition.
-/
namespace Go.Proofs.Ytiafeijkifpfaaa.Am
open Go Go.Proofs
set_option maxHeartbeats 4000000
set_option linter.unusedSimpArgs false
set_option linter.unusedVariables false
def badV (b v : Int) : Bool := decide (b < -v) || decide (999999 - v < b)
def shiftS (b : Int) (t : Term) : Term × Int := if t.rightE = 0 then (if t.occ.any (badV b) = true then (zeroT, 1) else (t.mapV (shV b), 0)) else (zeroT, 1)
abbrev shH (b v : Int) (fn : ByteArray) (args : List Term) : Hp :=
 upd (upd (upd (upd (fun _ => none) (0, 0) (.cells [.d (.int .i64 v), .d (.str fn), .d (.sl (encL args) args.length false none)])) (1, 0) (.cells [.d (.int .i64 b)])) (2, 3) .vnil) (2, 0) (.cells [.d (.int .i64 0), .d (.str (ByteArray.mk #[])), .osl (2, 3) 0 0 1 0])
abbrev shT (l : List Int) (nl : Option Bool) (i : Nat) : List AV := [.junk, .junk, .ptr (0, 0) 0 3, .ptr (1, 0) 0 1, .ptr (2, 0) 0 3, .d (.int .i64 0), .junk, .junk, .junk, .junk, .junk, .junk, .junk, .d (.sl (encI l) l.length false nl), .d (.int .i64 l.length), .d (.int .i64 i), .junk, .junk, .junk, .junk, .junk, .junk, .junk, .junk, .junk, .junk, .junk, .junk, .junk, .junk, .junk, .junk, .junk, .junk]
def ShEnd (b v : Int) (fn : ByteArray) (args : List Term) (l : List Int) (nl : Option Bool) (r : Bool) (e : Ex) (t : St) : Prop :=
 if r = true then e = .ret ∧ t.tm.getD 4 .junk = .ptr (2, 0) 0 3 ∧ t.tm.getD 5 .junk = .d (.int .i64 1) ∧ ∃ k, t.hp (2, 0) = some (.cells [.d (.int .i64 0), .d (.str (ByteArray.mk #[])), .osl k 0 0 1 0]) ∧ t.hp k = some .vnil
 else AtExit 0 (shT l nl l.length) (shH b v fn args) e t
theorem shift_loop (b v : Int) (fn : ByteArray) (args : List Term) (l : List Int) (nl : Option Bool) (hl : l.length ≤ 1048576) (hr : ∀ x ∈ l, 0 ≤ x ∧ x < 1000000) :
  ∃ e t, aloop Try.prog plc b40_0 ⟨[false, false, true, true, true, true, false, false, false, false, false, false, false, true, true, true, false, false, false, false, false, false, false, false, false, false, false, false, false, false, false, true, true, true], none⟩ ⟨shT l nl 0, shH b v fn args, 11⟩ = some (e, t) ∧ ShEnd b v fn args l nl (l.any (badV b)) e t := by
 have := loop_ruleN (P := Try.prog) (pol := plc) (c := b40_0) (m := ⟨[false, false, true, true, true, true, false, false, false, false, false, false, false, true, true, true, false, false, false, false, false, false, false, false, false, false, false, false, false, false, false, true, true, true], none⟩)
  (N := fun s : Nat × Nat => s.2) (tm := fun s => shT l nl s.1) (Hf := fun s => shH b v fn args)
  (I := fun s => s.1 ≤ l.length ∧ 11 ≤ s.2) (μ := fun s => l.length - s.1) (res := fun s => (l.drop s.1).any (badV b))
  (R := ShEnd b v fn args l nl)
  (fun s hi => by
   obtain ⟨i, nx⟩ := s
   obtain ⟨hi, hnx⟩ := hi
   simp only at hi hnx
   rcases Nat.lt_or_ge i l.length with hl2 | hl2
   ·have hw : IntKind.i64.wrap ((i : Int) + 1) = (i : Int) + 1 := wrap_i64 (by omega) (by omega)
    have hdr := List.drop_eq_getElem_cons hl2
    obtain ⟨h0, h1⟩ := hr l[i] (List.getElem_mem _)
    generalize hx : l[i] = x at hdr h0 h1
    have e1 : IntKind.i64.wrap (-x) = -x := wrap_i64 (by omega) (by omega)
    have e2 : IntKind.i64.wrap (999999 - x) = 999999 - x := wrap_i64 (by omega) (by omega)
    have hli : (i : Int) < (l.length : Int) := by omega
    by_cases c1 : b < -x
    ·simp [b40_0, hl2, hli, hw, hx, e1, e2, c1, plc_raw, Nat.add_assoc]
     refine .fin _ _ ?_
     have hany : (l.drop i).any (badV b) = true := by rw [hdr, List.any_cons]; simp [badV, c1]
     simp only [hany]
     simp only [ShEnd, if_true]
     exact ⟨trivial, rfl, rfl, (nx + 15, 3), upd_same _ _ _, (upd_ne (by simp)).trans (upd_same _ _ _)⟩
    ·by_cases c2 : 999999 - x < b
     ·simp [b40_0, hl2, hli, hw, hx, e1, e2, c1, c2, plc_raw, Nat.add_assoc]
      refine .fin _ _ ?_
      have hany : (l.drop i).any (badV b) = true := by rw [hdr, List.any_cons]; simp [badV, c2]
      simp only [hany]
      simp only [ShEnd, if_true]
      exact ⟨trivial, rfl, rfl, (nx + 15, 3), upd_same _ _ _, (upd_ne (by simp)).trans (upd_same _ _ _)⟩
     ·simp [b40_0, hl2, hli, hw, hx, e1, e2, c1, c2, plc_raw, Nat.add_assoc]
      refine .next (i + 1, _) rfl (by simp) rfl ⟨hl2, by simp only; omega⟩ (by simp only; omega) ?_
      simp only [hdr, List.any_cons, badV, c1, c2, decide_false, Bool.or_false, Bool.false_or]
   ·obtain rfl : i = l.length := Nat.le_antisymm hi hl2
    simp [b40_0]
    refine .fin _ _ ?_
    simp [ShEnd]
    exact .mk) (0, 11) ⟨Nat.zero_le _, Nat.le_refl _⟩
 simpa using this
theorem shiftP_ok (b : Int) (t : Term) (ht : t.ok) (hts : t.size ≤ 1048576) :
  ∃ r, pcl Cp 40 [.agg t.enc, .int .i64 b] = some r ∧ wk r = .tup [.agg (shiftS b t).1.enc, .int .i64 (shiftS b t).2] := by
 have h2 := tright_ok t ht
 by_cases hz : t.rightE = 0
 ·obtain ⟨hsh, hd, hsz⟩ := (rightE_iff t (by omega)).1 hz
  obtain ⟨l, nl, hv, hll, hmem⟩ := vars_term t ht hts
  have hol := occ_len t
  have hrange : ∀ x ∈ l, 0 ≤ x ∧ x < 1000000 := fun x hx => occ_range t hsh x ((hmem x).1 hx)
  have hany : l.any (badV b) = t.occ.any (badV b) := by
   rw [Bool.eq_iff_iff, List.any_eq_true, List.any_eq_true]
   exact ⟨fun ⟨x, hx, h⟩ => ⟨x, (hmem x).1 hx, h⟩, fun ⟨x, hx, h⟩ => ⟨x, (hmem x).2 hx, h⟩⟩
  obtain ⟨r, h3, h4⟩ := turnedV_ok b t ht hts
  unfold shiftS
  rw [if_pos hz, ← hany]
  rw [hz] at h2
  generalize t.mapV (shV b) = u at *
  obtain ⟨v, fn, args⟩ := t
  obtain ⟨e, st, hrun, hend⟩ := shift_loop b v fn args l nl (by omega) hrange
  simp [Term.enc] at h2 h3 hv
  simp [shT] at hrun
  cases hb : l.any (badV b)
  ·rw [hb] at hend
   simp only [ShEnd, Bool.false_eq_true, if_false] at hend
   obtain ⟨rfl, nx, rfl⟩ := hend
   obtain ⟨uv, ufn, uargs⟩ := u
   simp [Term.enc] at h4
   refine ⟨.tup [.agg (Term.mk uv ufn uargs).enc, .int .i64 0], pcl_body code40 ?_, by simp [Term.enc]⟩
   simp [plc_raw, Term.enc, h2, hv, hrun, h3, h4, kill]
  ·rw [hb] at hend
   simp only [ShEnd, if_true] at hend
   obtain ⟨rfl, t4, t5, k, hk1, hk2⟩ := hend
   refine ⟨.tup [.agg [.int .i64 0, .str (ByteArray.mk #[]), .sl [] 0 false (some true)], .int .i64 1], pcl_body code40 ?_, by simp [Term.enc, encL]⟩
   obtain ⟨tm, H, nx⟩ := st
   simp at t4 t5 hk1 hk2
   simp [plc_raw, Term.enc, h2, hv, hrun, t4, t5, hk1, hk2]
 ·unfold shiftS
  rw [if_neg hz]
  generalize t.rightE = z at h2 hz
  obtain ⟨v, fn, args⟩ := t
  simp [Term.enc] at h2
  refine ⟨.tup [.agg [.int .i64 0, .str (ByteArray.mk #[]), .sl [] 0 false (some true)], .int .i64 1], pcl_body code40 ?_, by simp [Term.enc, encL]⟩
  simp [plc_raw, Term.enc, h2, hz]
end Go.Proofs.Ytiafeijkifpfaaa.Am

/-
 The numbers of a term's variables, rising: what the document's functions compute. No condition.
-/
namespace Go.Proofs.Ytiafeijkifpfaaa.Am
open Go Go.Proofs
set_option maxHeartbeats 4000000
set_option linter.unusedSimpArgs false
def withGo (n : Int) : Bool → List Int → List Int → List Int
 | inn, out, [] => if inn then out else out ++ [n]
 | inn, out, x :: r =>
  if inn = false ∧ n ≤ x then withGo n true ((out ++ [n]) ++ if x = n then [] else [x]) r else withGo n inn (out ++ if x = n then [] else [x]) r
def WithEnd (l : List Int) (b : Bool) (nl : Option Bool) (n : Int) (r : List Int) (e : Ex) (t : St) : Prop :=
 ∃ inn out, AtExit 0 [.d (.sl (encI l) l.length b nl), .d (.int .i64 n), .junk, .junk, .osl (0, 1) 0 0 1 0, .osl (1, 1) 0 out.length 1 out.length, .d (.bool inn), .d (.int .i64 l.length), .junk, .junk, .junk, .junk, .junk, .junk, .junk, .junk, .junk, .junk, .junk, .junk, .junk, .junk, .junk, .junk, .junk, .junk, .junk, .junk, .junk, .junk, .junk, .junk, .junk, .junk, .junk, .junk, .junk, .junk, .junk, .junk, .junk, .junk, .junk, .junk, .junk, .junk, .junk, .junk] (upd (upd (fun _ => none) (0, 1) .vnil) (1, 1) (rowI out)) e t ∧ out.length ≤ l.length + 1 ∧ r = if inn then out else out ++ [n]
theorem with_ok (l : List Int) (hl : l.length ≤ 68719476000) (b : Bool) (nl : Option Bool) (n : Int) : pcl Cp 88 [.sl (encI l) l.length b nl, .int .i64 n] = some (.sl (encI (withGo n false [] l)) (withGo n false [] l).length false (some (decide (withGo n false [] l = [])))) := by
 have hloop := loop_rule (P := Try.prog) (pol := plc) (c := b88_0) (m := ⟨[true, true, false, false, true, true, true, true, false, false, false, false, false, false, false, false, false, false, false, false, false, false, false, false, false, false, false, false, false, false, false, false, false, false, false, false, false, false, false, false, false, true, true, true, true, true, true, true], some 4⟩)
  (b := 4) (tm := fun (s : Nat × Bool × List Int) => [.d (.sl (encI l) l.length b nl), .d (.int .i64 n), .junk, .junk, .osl (0, 1) 0 0 1 0, .osl (1, 1) 0 s.2.2.length 1 s.2.2.length, .d (.bool s.2.1), .d (.int .i64 s.1), .junk, .junk, .junk, .junk, .junk, .junk, .junk, .junk, .junk, .junk, .junk, .junk, .junk, .junk, .junk, .junk, .junk, .junk, .junk, .junk, .junk, .junk, .junk, .junk, .junk, .junk, .junk, .junk, .junk, .junk, .junk, .junk, .junk, .junk, .junk, .junk, .junk, .junk, .junk, .junk])
  (Hf := fun s => upd (upd (fun _ => none) (0, 1) .vnil) (1, 1) (rowI s.2.2))
  (I := fun s => s.1 ≤ l.length ∧ s.2.2.length ≤ s.1 + if s.2.1 then 1 else 0) (μ := fun s => l.length - s.1) (res := fun s => withGo n s.2.1 s.2.2 (l.drop s.1))
  (R := fun r e t => WithEnd l b nl n r e t)
  (fun s nx hi => by
   obtain ⟨i, inn, out⟩ := s
   obtain ⟨hi, ho⟩ := hi
   simp only at hi ho ⊢
   rcases Nat.lt_or_ge i l.length with hl2 | hl2
   ·have hw : IntKind.i64.wrap ((i : Int) + 1) = (i : Int) + 1 := wrap_i64 (by omega) (by omega)
    have hb1 : out.length ≤ 68719476735 := by split at ho <;> omega
    obtain ⟨x, hx⟩ : ∃ x, l[i] = x := ⟨_, rfl⟩
    have hdr := List.drop_eq_getElem_cons hl2
    rw [hx] at hdr
    have ha2 := fun (H : Hp) (id : Nat) (o o2 : Oid) (y : Int) (h : H o = some (rowI (out ++ [n]))) (h2 : H o2 = some (.cells [.d (.int .i64 y)])) (hb : out.length + 1 ≤ 68719476735) => append_rowI (id := id) h h2 (by simpa using hb)
    simp only [List.length_append, List.length_singleton] at ha2
    by_cases hin : inn = false ∧ n ≤ x
    ·obtain ⟨rfl, hge⟩ := hin
     have hb2 : out.length + 1 ≤ 68719476735 := by simp at ho; omega
     by_cases he : x = n
     ·conv => arg 9; arg 4; unfold b88_0
      simp [hl2, hw, append_rowI, hb1, hx, hge, he]
      refine .next (i + 1, true, out ++ [n]) (by omega) (by simp) rfl ⟨hl2, by simp at ho ⊢; omega⟩ (by simp; omega) ?_
      simp [hdr, withGo, hge, he]
     ·conv => arg 9; arg 4; unfold b88_0
      simp [hl2, hw, append_rowI, ha2, hb1, hb2, hx, hge, he]
      refine .next (i + 1, true, out ++ [n] ++ [x]) (by omega) (by simp) (by simp) ⟨hl2, by simp at ho ⊢; omega⟩ (by simp; omega) ?_
      simp [hdr, withGo, hge, he]
    ·by_cases he : x = n
     ·cases inn
      ·simp at hin
       conv => arg 9; arg 4; unfold b88_0
       simp [hl2, hw, append_rowI, ha2, hb1, hx, hin, he]
       omega
      ·conv => arg 9; arg 4; unfold b88_0
       simp [hl2, hw, append_rowI, ha2, hb1, hx, he]
       refine .next (i + 1, true, out) (by omega) (by simp) rfl ⟨hl2, by simp at ho ⊢; omega⟩ (by simp; omega) ?_
       simp [hdr, withGo, he]
     ·cases inn
      ·simp at hin
       have hin2 : ¬ n ≤ x := by omega
       conv => arg 9; arg 4; unfold b88_0
       simp [hl2, hw, append_rowI, ha2, hb1, hx, hin2, he]
       refine .next (i + 1, false, out ++ [x]) (by omega) (by simp) (by simp) ⟨hl2, by simp at ho ⊢; omega⟩ (by simp; omega) ?_
       simp [hdr, withGo, he, hin2]
      ·conv => arg 9; arg 4; unfold b88_0
       simp [hl2, hw, append_rowI, ha2, hb1, hx, he]
       refine .next (i + 1, true, out ++ [x]) (by omega) (by simp) (by simp) ⟨hl2, by simp at ho ⊢; omega⟩ (by simp; omega) ?_
       simp [hdr, withGo, he]
   ·obtain rfl : i = l.length := Nat.le_antisymm hi hl2
    simp [b88_0]
    refine .fin _ _ ⟨inn, out, .mk, by split at ho <;> omega, by simp [withGo]⟩) (0, false, []) ⟨Nat.zero_le _, Nat.le_refl _⟩
 obtain ⟨e, t, hrun, inn, out, ⟨rfl, nx, rfl⟩, hout, hr⟩ := hloop
 refine pcl_body code88 ?_
 simp [rowI_nil] at hrun hr
 rw [hr]
 have hre := fun (H : Hp) (h : H (1, 1) = some (rowI (out ++ [n]))) => reify_rowI h 5
 have hre2 := fun (H : Hp) (h : H (1, 1) = some (rowI out)) => reify_rowI h 5
 simp only [List.length_append, List.length_singleton] at hre
 have hb1 : out.length ≤ 68719476735 := by omega
 cases inn
 ·simp [hrun, append_rowI, hb1, -datK_some]
  rw [datK_some]
  have h := hre (upd (upd (upd (upd (fun x => none) (0, 1) Obj.vnil) (1, 1) (rowI out)) (nx + 2 + 1 + 1, 0) (.cells [.d (.int .i64 n)])) (1, 1) (rowI (out ++ [n]))) (by simp)
  obtain ⟨x, hx, hx2⟩ := Option.map_eq_some_iff.1 h
  simp only [] at hx2 ⊢
  rw [hx]
  simp [hx2]
 ·simp [hrun, -datK_some]
  rw [datK_some]
  obtain ⟨x, hx, hx2⟩ := Option.map_eq_some_iff.1 (hre2 (upd (upd (fun x => none) (0, 1) Obj.vnil) (1, 1) (rowI out)) (by simp))
  rw [hx]
  simp [hx2]
end Go.Proofs.Ytiafeijkifpfaaa.Am

/-
 The numbers of a term's variables: what the document's functions compute. No condition.
-/
namespace Go.Proofs.Ytiafeijkifpfaaa.Am
open Go Go.Proofs
set_option maxHeartbeats 4000000
set_option linter.unusedSimpArgs false
set_option linter.unusedVariables false
mutual
def Term.varsW : Term → List Int → List Int
 | .mk v fn args, l => varsWL (if fn.toList = [] then withGo v false [] l else l) args
def varsWL (l : List Int) : List Term → List Int
 | [] => l
 | t :: r => varsWL (t.varsW l) r
end
theorem withGo_len (n : Int) : ∀ (l : List Int) (inn : Bool) (out : List Int), (withGo n inn out l).length ≤ out.length + l.length + if inn then 0 else 1
 | [], inn, out => by cases inn <;> simp [withGo]
 | x :: r, inn, out => by
  simp only [withGo]
  split
  ·rename_i h
   have := withGo_len n r true (out ++ [n] ++ if x = n then [] else [x])
   rw [h.1]
   refine Nat.le_trans this ?_
   split <;> simp <;> omega
  ·have := withGo_len n r inn (out ++ if x = n then [] else [x])
   refine Nat.le_trans this ?_
   split <;> simp <;> omega
theorem varsW_len (t : Term) : ∀ l, (t.varsW l).length ≤ l.length + t.size := by
 refine Term.ind (p := fun t => ∀ l, (t.varsW l).length ≤ l.length + t.size) (fun v fn args ih l => ?_) t
 have hl : ∀ (a : List Term), (∀ x ∈ a, ∀ l, (x.varsW l).length ≤ l.length + x.size) → ∀ l, (varsWL l a).length ≤ l.length + sizeL a := by
  intro a
  induction a with
  | nil => intro _ l; simp [varsWL]
  | cons x r ih2 =>
   intro h l
   have h1 := h x (by simp) l
   have h2 := ih2 (fun z hz => h z (by simp [hz])) (x.varsW l)
   simp only [varsWL, sizeL]; omega
 have h1 := hl args ih (if fn.toList = [] then withGo v false [] l else l)
 have h2 := withGo_len v l false []
 simp only [Term.varsW, Term.size]
 split at h1
 ·rename_i hv; rw [if_pos hv]; simp at h2; omega
 ·rename_i hv; rw [if_neg hv]; omega
theorem encI_nil : encI [] = [] := rfl
def Fl (l : List Int) (b : Bool) (nl : Option Bool) : Prop := b = false ∨ (l = [] ∧ b = true ∧ nl = some true)
def VarsEnd (v : Int) (fn : ByteArray) (args : List Term) (r : List Int) (e : Ex) (t : St) : Prop :=
 ∃ b' nl', Fl r b' nl' ∧ AtExit 0 [.d (.sl (encI r) r.length b' nl'), .junk, .junk, .ptr (0, 0) 0 3, .osl (1, 1) 0 0 1 0, .d (.int .i64 args.length), .junk, .junk, .junk, .junk, .junk, .junk, .junk, .junk, .junk, .junk, .junk, .junk, .junk, .junk, .junk, .junk, .junk, .junk, .junk, .junk, .junk, .junk] (upd (upd (fun _ => none) (0, 0) (.cells [.d (.int .i64 v), .d (.str fn), .d (.sl (encL args) args.length false none)])) (1, 1) .vnil) e t
theorem vars_ok (t : Term) : t.ok → ∀ l b nl, Fl l b nl → l.length + t.size ≤ 68719476000 → ∃ nl', pcl Cp 71 [.sl (encI l) l.length b nl, .agg t.enc] = some (.sl (encI (t.varsW l)) (t.varsW l).length false nl') := by
 refine Term.ind (p := fun t => t.ok → ∀ l b nl, Fl l b nl → l.length + t.size ≤ 68719476000 → ∃ nl', pcl Cp 71 [.sl (encI l) l.length b nl, .agg t.enc] = some (.sl (encI (t.varsW l)) (t.varsW l).length false nl')) (fun v fn args ih h l b nl hfl hsz => ?_) t
 have hn := h.1
 have hloop := fun (k : Nat) (hk : 2 ≤ k) (l : List Int) (b : Bool) (nl : Option Bool) (hfl : Fl l b nl) (hs : l.length + sizeL args ≤ 68719476000) =>
  loop_rule (P := Try.prog) (pol := plc) (c := b71_0) (m := ⟨[true, false, false, true, true, true, false, false, false, false, false, false, false, false, false, false, false, false, false, false, false, false, false, false, false, false, false, true], some k⟩)
   (b := k) (tm := fun (s : Nat × List Int × Bool × Option Bool) => [.d (.sl (encI s.2.1) s.2.1.length s.2.2.1 s.2.2.2), .junk, .junk, .ptr (0, 0) 0 3, .osl (1, 1) 0 0 1 0, .d (.int .i64 s.1), .junk, .junk, .junk, .junk, .junk, .junk, .junk, .junk, .junk, .junk, .junk, .junk, .junk, .junk, .junk, .junk, .junk, .junk, .junk, .junk, .junk, .junk])
   (Hf := fun _ => upd (upd (fun x => none) (0, 0) (.cells [.d (.int .i64 v), .d (.str fn), .d (.sl (encL args) args.length false none)])) (1, 1) .vnil)
   (I := fun s => s.1 ≤ args.length ∧ Fl s.2.1 s.2.2.1 s.2.2.2 ∧ s.2.1.length + sizeL (args.drop s.1) ≤ 68719476000) (μ := fun s => args.length - s.1) (res := fun s => varsWL s.2.1 (args.drop s.1))
   (R := VarsEnd v fn args)
   (fun s nx hi => by
    obtain ⟨i, l, b, nl⟩ := s
    obtain ⟨hi, hfl, hs⟩ := hi
    simp only at hi hfl hs ⊢
    rcases Nat.lt_or_ge i args.length with hl2 | hl2
    ·obtain ⟨v', fn', args', a⟩ := at_ok hn hl2
     rw [a.dr] at hs
     simp only [sizeL] at hs
     obtain ⟨nl', hc⟩ := ih _ a.mem (okL_mem h.2 _ a.mem) l b nl hfl (by omega)
     simp [Term.enc] at hc
     have hlen := varsW_len (.mk v' fn' args') l
     conv => arg 9; arg 4; unfold b71_0
     have hk0 : 0 < k := by omega
     have hk1 : 1 < k := by omega
     simp [a.lti, a.sz, a.ltm, a.cells, a.le3, plc_raw, a.w, hc, hk0, hk1]
     refine .next (i + 1, (Term.mk v' fn' args').varsW l, false, nl') (by omega) (by simp) rfl ⟨hl2, .inl rfl, by simp only; omega⟩ (by simp; omega) ?_
     simp only [a.dr, varsWL]
    ·obtain rfl : i = args.length := Nat.le_antisymm hi hl2
     have hk0 : 0 < k := by omega
     have hk1 : 1 < k := by omega
     simp [b71_0, hk0, hk1]
     refine .fin _ _ ⟨b, nl, ?_, ?_⟩
     ·simpa [varsWL] using hfl
     ·simp only [List.drop_length, varsWL]; exact .mk) (0, l, b, nl) ⟨Nat.zero_le _, hfl, by simpa using hs⟩
 simp only [Term.size] at hsz
 by_cases hv : fn.toList = []
 ·have hwith := with_ok l (by omega) b nl v
  have hwl := withGo_len v l false []
  simp at hwl
  generalize hl2 : withGo v false [] l = l2 at hwith hwl
  obtain ⟨e, t, hrun, hend⟩ := hloop 11 (by omega) l2 false (some (decide (l2 = []))) (.inl rfl) (by omega)
  simp only [List.drop_zero] at hend
  simp only [Term.varsW, hv, hl2, if_true]
  generalize varsWL l2 args = r at hend ⊢
  obtain ⟨b', nl', hfl2, rfl, nx, rfl⟩ := hend
  simp at hrun hwith
  rcases hfl2 with rfl | ⟨rfl, rfl, rfl⟩
  ·refine ⟨nl', pcl_body code71 ?_⟩
   simp [plc_raw, Term.enc, hv, hwith, hrun]
  ·refine ⟨some true, pcl_body code71 ?_⟩
   simp [encI_nil] at hrun
   simp [plc_raw, Term.enc, hv, hwith, hrun, encI_nil]
 ·obtain ⟨e, t, hrun, hend⟩ := hloop 6 (by omega) l b nl hfl (by omega)
  simp only [List.drop_zero] at hend
  simp only [Term.varsW, hv, if_false]
  generalize varsWL l args = r at hend ⊢
  obtain ⟨b', nl', hfl2, rfl, nx, rfl⟩ := hend
  simp at hrun
  rcases hfl2 with rfl | ⟨rfl, rfl, rfl⟩
  ·refine ⟨nl', pcl_body code71 ?_⟩
   simp [plc_raw, Term.enc, hv, hrun]
  ·refine ⟨some true, pcl_body code71 ?_⟩
   simp [encI_nil] at hrun
   simp [plc_raw, Term.enc, hv, hrun, encI_nil]
theorem rVars_ok (t : Term) (h : t.ok) (hs : t.size ≤ 68719476000) : ∃ nl', pcl Cp 39 [.agg t.enc] = some (.sl (encI (t.varsW [])) (t.varsW []).length false nl') := by
 obtain ⟨nl', hc⟩ := vars_ok t h [] true (some true) (.inr ⟨rfl, rfl, rfl⟩) (by simpa using hs)
 refine ⟨nl', pcl_body code39 ?_⟩
 generalize t.varsW [] = r at hc ⊢
 obtain ⟨v, fn, args⟩ := t
 simp [Term.enc, encI_nil] at hc ⊢
 simp [plc_raw, hc, encI_nil]
end Go.Proofs.Ytiafeijkifpfaaa.Am

/-
 Shifts there and back, and what a substitution leaves, as mathematics. No condition.
-/
namespace Go.Proofs.Ytiafeijkifpfaaa.Am
open Go Go.Proofs
set_option linter.unusedSimpArgs false
set_option linter.unusedVariables false
theorem withGo_mem (n : Int) : ∀ (l : List Int) (inn : Bool) (out : List Int), (inn = true → n ∈ out) → ∀ y, y ∈ out ∨ y ∈ l ∨ y = n → y ∈ withGo n inn out l
 | [], inn, out, h, y, hy => by
  simp only [withGo]
  rcases hy with hy | hy | hy
  ·cases inn <;> simp [hy]
  ·cases hy
  ·subst hy
   cases inn
   ·simp
   ·simpa using h rfl
 | x :: r, inn, out, h, y, hy => by
  simp only [withGo]
  split
  ·rename_i hc
   refine withGo_mem n r true _ (fun _ => by simp) y ?_
   rcases hy with hy | hy | hy
   ·exact .inl (by simp [hy])
   ·rcases List.mem_cons.1 hy with rfl | hy
    ·by_cases he : y = n
     ·exact .inr (.inr he)
     ·exact .inl (by simp [he])
    ·exact .inr (.inl hy)
   ·exact .inr (.inr hy)
  ·rename_i hc
   refine withGo_mem n r inn _ (fun hi => by simp [h hi]) y ?_
   rcases hy with hy | hy | hy
   ·exact .inl (by simp [hy])
   ·rcases List.mem_cons.1 hy with rfl | hy
    ·by_cases he : y = n
     ·exact .inr (.inr he)
     ·exact .inl (by simp [he])
    ·exact .inr (.inl hy)
   ·exact .inr (.inr hy)
theorem varsW_mem (t : Term) : ∀ (l : List Int) (x : Int), x ∈ l ∨ x ∈ t.occ → x ∈ t.varsW l := by
 refine Term.ind (p := fun t => ∀ (l : List Int) (x : Int), x ∈ l ∨ x ∈ t.occ → x ∈ t.varsW l) (fun v fn args ih l x hx => ?_) t
 have hL : ∀ (a : List Term), (∀ y ∈ a, ∀ (l : List Int) (x : Int), x ∈ l ∨ x ∈ y.occ → x ∈ y.varsW l) → ∀ (l : List Int) (x : Int), x ∈ l ∨ x ∈ occL a → x ∈ varsWL l a := by
  intro a
  induction a with
  | nil => intro _ l x h; simpa [varsWL, occL] using h
  | cons y r ih2 =>
   intro h l x hx
   simp only [varsWL]
   refine ih2 (fun z hz => h z (by simp [hz])) _ x ?_
   simp only [occL, List.mem_append] at hx
   rcases hx with hx | hx | hx
   ·exact .inl (h y (by simp) l x (.inl hx))
   ·exact .inl (h y (by simp) l x (.inr hx))
   ·exact .inr hx
 simp only [Term.varsW]
 refine hL args ih _ x ?_
 simp only [Term.occ, List.mem_append] at hx
 by_cases hv : fn.toList = []
 ·rw [if_pos hv] at hx ⊢
  rcases hx with hx | hx | hx
  ·exact .inl (withGo_mem v l false [] (by simp) x (.inr (.inl hx)))
  ·exact .inl (withGo_mem v l false [] (by simp) x (.inr (.inr (List.mem_singleton.1 hx))))
  ·exact .inr hx
 ·rw [if_neg hv] at hx ⊢
  rcases hx with hx | hx | hx
  ·exact .inl hx
  ·cases hx
  ·exact .inr hx
theorem mapV_ok (b : Int) (t : Term) : t.ok → (t.mapV (shV b)).ok := by
 refine Term.ind (p := fun t => t.ok → (t.mapV (shV b)).ok) (fun v fn args ih h => ?_) t
 have hl : ∀ (a : List Term), (∀ x ∈ a, x.ok → (x.mapV (shV b)).ok) → okL a → okL (mapVL (shV b) a) := by
  intro a
  induction a with
  | nil => intro _ _; trivial
  | cons x r ih2 => intro h1 h2; exact ⟨h1 x (by simp) h2.1, ih2 (fun z hz => h1 z (by simp [hz])) h2.2⟩
 by_cases hv : fn.toList = []
 ·simp only [Term.mapV, if_pos hv]
  simp [shV, varT, Term.ok, okL]
 ·simp only [Term.mapV, if_neg hv]
  exact ⟨by rw [mapVL_len]; exact h.1, hl args ih h.2⟩
theorem shiftS_ok (b : Int) (t : Term) (h : t.ok) : (shiftS b t).1.ok := by
 unfold shiftS
 split
 ·split
  ·simp [Term.ok, okL]
  ·exact mapV_ok b t h
 ·simp [Term.ok, okL]
theorem shift_back (b : Int) (hb : -9223372036854775808 ≤ b) (hb2 : b < 9223372036854775808) (t : Term) (hs : t.size ≤ 1048576) (hr : t.rightE = 0) (hno : t.occ.any (badV b) = false) :
  shiftS (IntKind.i64.wrap (-b)) (t.mapV (shV b)) = (t, 0) ∧ (t.mapV (shV b)).size ≤ 1048576 := by
 obtain ⟨hsh, hd, hz⟩ := (rightE_iff t (by omega)).1 hr
 have hoc := occ_range t hsh
 by_cases ho : t.occ = []
 ·have h1 : ∀ c, t.mapV (shV c) = t := fun c => mapV_same _ t hsh fun v hv => by rw [ho] at hv; cases hv
  rw [h1]
  refine ⟨?_, hs⟩
  unfold shiftS
  rw [if_pos hr, ho, List.any_nil, if_neg (by decide), h1]
 ·obtain ⟨x, hx⟩ := List.exists_mem_of_ne_nil _ ho
  have hbad : ∀ v ∈ t.occ, -v ≤ b ∧ b ≤ 999999 - v := fun v hv => by
   have := List.any_eq_false.1 hno v hv
   simp [badV] at this
   omega
  have hbx := hbad x hx
  have hxr := hoc x hx
  have hwb : IntKind.i64.wrap (-b) = -b := wrap_i64 (by omega) (by omega)
  rw [hwb]
  have hw1 : ∀ v ∈ t.occ, IntKind.i64.wrap (v + b) = v + b := fun v hv => by
   have h1 := hbad v hv
   have h2 := hoc v hv
   exact wrap_i64 (by omega) (by omega)
  obtain ⟨hms, hmd⟩ := mapV_size (fun v => IntKind.i64.wrap (v + b)) t hsh
  have hmo := mapV_occ (fun v => IntKind.i64.wrap (v + b)) t hsh
  have hmsh := mapV_shape (fun v => IntKind.i64.wrap (v + b)) t hsh fun v hv => by
   rw [hw1 v hv]
   have h1 := hbad v hv
   have h2 := hoc v hv
   omega
  have hr2 : (t.mapV (shV b)).rightE = 0 := (rightE_iff _ (by show ((t.mapV fun v => varT (IntKind.i64.wrap (v + b))).size : Int) ≤ _; omega)).2 ⟨hmsh, by show (t.mapV fun v => varT (IntKind.i64.wrap (v + b))).depth ≤ 60; omega, by show (t.mapV fun v => varT (IntKind.i64.wrap (v + b))).size ≤ 4000; omega⟩
  have hno2 : (t.mapV (shV b)).occ.any (badV (-b)) = false := by
   rw [List.any_eq_false]
   intro y hy
   have hy' : y ∈ t.occ.map fun v => IntKind.i64.wrap (v + b) := hmo ▸ hy
   obtain ⟨v, hv, rfl⟩ := List.mem_map.1 hy'
   rw [hw1 v hv]
   have h2 := hoc v hv
   simp [badV]
   omega
  have h4 : (t.mapV (shV b)).mapV (shV (-b)) = t := by
   have := mapV_twice (fun v => IntKind.i64.wrap (v + b)) (fun v => IntKind.i64.wrap (v + -b)) t hsh
   rw [show (t.mapV (shV b)).mapV (shV (-b)) = (t.mapV fun v => varT (IntKind.i64.wrap (v + b))).mapV (fun v => varT (IntKind.i64.wrap (v + -b))) from rfl, this]
   refine mapV_same _ t hsh fun v hv => ?_
   rw [hw1 v hv]
   have h2 := hoc v hv
   rw [show v + b + -b = v by omega, wrap_i64 (by omega) (by omega)]
  refine ⟨?_, by show (t.mapV fun v => varT (IntKind.i64.wrap (v + b))).size ≤ 1048576; omega⟩
  unfold shiftS
  rw [if_pos hr2, hno2, if_neg (by decide), h4]
theorem applyS_same (bs : List Bd) (t : Term) (hs : t.size ≤ 1048576) (hB : isB bs = true) (hr : t.rightE = 0) (hno : ∀ v ∈ t.varsW [], ∀ b ∈ bs, b.v ≠ v) : applyS bs t = (t, 0) := by
 obtain ⟨hsh, hd, hz⟩ := (rightE_iff t (by omega)).1 hr
 have h : t.putS bs = t := by
  rw [putS_mapV]
  exact mapV_same _ t hsh fun v hv => ofS_no (hno v (varsW_mem t [] v (.inr hv)))
 unfold applyS
 rw [if_pos ⟨hB, hr⟩, h, if_pos hr]
end Go.Proofs.Ytiafeijkifpfaaa.Am

/-
 Substitutions: what the program's function answers. No condition.
-/
namespace Go.Proofs.Ytiafeijkifpfaaa.Am
open Go Go.Proofs
set_option maxHeartbeats 4000000
set_option linter.unusedSimpArgs false
set_option linter.unusedVariables false
def rowW (l : List Bd) : Am.Obj := if l = [] then .vnil else .grow ((encT2 l).map .d)
def rowWA (o : Oid) (l : List Bd) : AV := if l = [] then .osl o 0 0 1 0 else .osl o 0 l.length 2 (l.length * 2)
theorem encT2_append (a : List Bd) (b : Bd) : encT2 (a ++ [b]) = encT2 a ++ [.int .i64 b.t.depthW, .int .i64 b.t.sizeW] := by simp [encT2]
theorem append_rowW {H : Hp} {id : Nat} {o o2 : Oid} {l : List Bd} {b : Bd} (h : H o = some (rowW l)) (h2 : H o2 = some (.cells [.d (.int .i64 b.t.depthW), .d (.int .i64 b.t.sizeW)])) (hl : l.length ≤ 1048576) :
  appendO Try.prog H id 108 108 (rowWA o l) (.osl o2 0 1 2 2) = some (rowWA o (l ++ [b]), upd H o (rowW (l ++ [b]))) := by
 have h3 : l.length * 2 ≤ 68719476736 := by omega
 cases l with
 | nil =>
  simp only [rowW, if_true] at h
  simp [appendO, srcCells, srcRaw, h, h2, rowWA, rowW, growO, encT2, kill]
 | cons y r =>
  simp [rowW] at h
  have hel2 : (encT2 (y :: r)).length = (r.length + 1) * 2 := by simpa using encT2_len (y :: r)
  have hle : ¬ ((r.length + 1) * 2 + 2 ≤ (r.length + 1) * 2) := by omega
  have h4 : (r.length + 1) * 2 ≤ 68719476736 := by simpa using h3
  have he : encT2 (y :: (r ++ [b])) = encT2 (y :: r) ++ [.int .i64 b.t.depthW, .int .i64 b.t.sizeW] := encT2_append (y :: r) b
  simp [appendO, srcCells, srcRaw, h, h2, rowWA, rowW, growO, kill, hel2, hle, h4, he]
  refine ⟨by omega, ?_⟩
  exact by rw [List.take_of_length_le (by simp [hel2])]
abbrev applyB (bs : List Bd) (v : Int) (fn : ByteArray) (args : List Term) : Hp :=
 upd (upd (upd (upd (fun _ => none) (0, 0) (.cells [.d (.sl (encB bs) bs.length false none)])) (1, 0) (.cells [.d (.int .i64 v), .d (.str fn), .d (.sl (encL args) args.length false none)])) (2, 3) .vnil) (2, 0) (.cells [.d (.int .i64 0), .d (.str (ByteArray.mk #[])), .osl (2, 3) 0 0 1 0])
abbrev applyH (bs : List Bd) (v : Int) (fn : ByteArray) (args : List Term) (done : List Bd) : Hp := upd (upd (applyB bs v fn args) (4, 1) (rowW done)) (4, 0) (.cells [rowWA (4, 1) done])
def ApplyEnd (bs : List Bd) (v : Int) (fn : ByteArray) (args : List Term) (r : List Bd) (e : Ex) (t : St) : Prop :=
 AtExit 0 [.junk, .junk, .ptr (0, 0) 0 1, .ptr (1, 0) 0 3, .ptr (2, 0) 0 3, .d (.int .i64 0), .ptr (4, 0) 0 1, .junk, .junk, .junk, .junk, .d (.sl (encB bs) bs.length false none), .d (.int .i64 bs.length), .d (.int .i64 bs.length), .junk, .junk, .junk, .junk, .junk, .junk, .junk, .junk, .junk, .junk, .junk, .junk, .junk, .junk, .junk, .junk, .junk, .junk, .junk, .junk, .junk, .junk, .junk, .junk, .junk, .junk, .junk, .junk, .junk, .junk, .junk] (applyH bs v fn args r) e t
theorem apply_loop (bs : List Bd) (hb : okB bs) (hn : bs.length ≤ 1048576) (v : Int) (fn : ByteArray) (args : List Term) :
  ∃ e t, aloop Try.prog plc b61_0 ⟨[false, false, true, true, true, true, true, false, false, true, true, true, true, true, false, false, false, false, false, false, false, false, false, false, false, false, false, false, true, true, true, true, true, true, true, true, true, true, true, true, true, true, true, true, true], some 8⟩ ⟨[.junk, .junk, .ptr (0, 0) 0 1, .ptr (1, 0) 0 3, .ptr (2, 0) 0 3, .d (.int .i64 0), .ptr (4, 0) 0 1, .junk, .junk, .junk, .junk, .d (.sl (encB bs) bs.length false none), .d (.int .i64 bs.length), .d (.int .i64 0), .junk, .junk, .junk, .junk, .junk, .junk, .junk, .junk, .junk, .junk, .junk, .junk, .junk, .junk, .junk, .junk, .junk, .junk, .junk, .junk, .junk, .junk, .junk, .junk, .junk, .junk, .junk, .junk, .junk, .junk, .junk], applyH bs v fn args [], 8⟩ = some (e, t) ∧
   ApplyEnd bs v fn args bs e t := by
 have key := loop_rule (P := Try.prog) (pol := plc) (c := b61_0) (m := ⟨[false, false, true, true, true, true, true, false, false, true, true, true, true, true, false, false, false, false, false, false, false, false, false, false, false, false, false, false, true, true, true, true, true, true, true, true, true, true, true, true, true, true, true, true, true], some 8⟩)
  (b := 8) (tm := fun (s : Nat × List Bd) => [.junk, .junk, .ptr (0, 0) 0 1, .ptr (1, 0) 0 3, .ptr (2, 0) 0 3, .d (.int .i64 0), .ptr (4, 0) 0 1, .junk, .junk, .junk, .junk, .d (.sl (encB bs) bs.length false none), .d (.int .i64 bs.length), .d (.int .i64 s.1), .junk, .junk, .junk, .junk, .junk, .junk, .junk, .junk, .junk, .junk, .junk, .junk, .junk, .junk, .junk, .junk, .junk, .junk, .junk, .junk, .junk, .junk, .junk, .junk, .junk, .junk, .junk, .junk, .junk, .junk, .junk]) (Hf := fun s => applyH bs v fn args s.2)
  (I := fun s => s.1 ≤ bs.length ∧ s.2.length = s.1) (μ := fun s => bs.length - s.1) (res := fun s => s.2 ++ bs.drop s.1) (R := ApplyEnd bs v fn args)
  (fun s nx hi => by
   obtain ⟨i, done⟩ := s
   obtain ⟨hi, hd⟩ := hi
   simp only at hi hd ⊢
   rcases Nat.lt_or_ge i bs.length with hl | hl
   ·obtain ⟨x, v', fn', args', a⟩ := atB_ok hb.1 hl
    have h1 := depth_ok _ (hb.2 _ a.mem)
    have h2 := size_ok _ (hb.2 _ a.mem)
    have happ := fun (H : Hp) (id : Nat) (o2 : Oid) (h1 : H (4, 1) = some (rowW done)) (h2 : H o2 = some (.cells [.d (.int .i64 (Term.mk v' fn' args').depthW), .d (.int .i64 (Term.mk v' fn' args').sizeW)])) => append_rowW (b := ⟨x, .mk v' fn' args'⟩) (id := id) h1 h2 (by omega)
    have hres : done ++ bs.drop i = (done ++ [⟨x, .mk v' fn' args'⟩]) ++ bs.drop (i + 1) := by rw [a.dr]; simp
    simp [Term.enc] at h1 h2
    conv => arg 9; arg 4; unfold b61_0
    cases done with
    | nil =>
     simp [rowWA] at happ
     simp [a.lti, a.sz, a.ltm, a.cells, a.le4, plc_raw, a.w, h1, h2, happ, rowWA]
     refine .next (i + 1, [⟨x, .mk v' fn' args'⟩]) (by omega) (by simp) ?_ ⟨hl, by simp at hd ⊢; omega⟩ (by simp; omega) (by simp only [hres]; simp)
     exact upd4 (by simp)
    | cons y q =>
     simp [rowWA] at happ
     simp [a.lti, a.sz, a.ltm, a.cells, a.le4, plc_raw, a.w, h1, h2, happ, rowWA]
     refine .next (i + 1, y :: q ++ [⟨x, .mk v' fn' args'⟩]) (by omega) (by simp) ?_ ⟨hl, by simp at hd ⊢; omega⟩ (by simp; omega) (by simp only [hres] <;> first | done | simp)
     simp [applyH, rowWA]
     exact upd4 (by simp)
   ·obtain rfl : i = bs.length := Nat.le_antisymm hi hl
    simp [b61_0]
    refine .fin _ _ ?_
    simp only [List.drop_length, List.append_nil]
    exact .mk) (0, []) ⟨Nat.zero_le _, rfl⟩
 simpa using key
def sapplyR (bs : List Bd) (t : Term) : Term × Int := if (60 : Int) < ((t.putS bs).depth : Int) then (zeroT, 22) else if (4000 : Int) < ((t.putS bs).size : Int) then (zeroT, 3) else (t.putS bs, 0)
theorem sapply_ok (bs : List Bd) (hb : okB bs) (hn : bs.length ≤ 1048576) (hp : bs.Pairwise (fun a b => a.v < b.v)) (hbs : ∀ b ∈ bs, b.t.size ≤ 1048576) (t : Term) (ht : t.ok) (hts : t.size ≤ 1048576) :
  ∃ r, pcl Cp 61 [.sl (encB bs) bs.length false none, .agg t.enc] = some r ∧ wk r = .tup [.agg (sapplyR bs t).1.enc, .int .i64 (sapplyR bs t).2] := by
 have hsz := putS_size bs 1048576 (by omega) hbs t
 have hsz2 : t.size * 1048576 ≤ 1048576 * 1048576 := Nat.mul_le_mul_right _ hts
 have hof : ∀ x, (ofS bs x).size ≤ 1048576 := fun x => by
  unfold ofS
  cases hf : bs.find? (fun b => decide (b.v = x)) with
  | none => simp [Term.size, sizeL]
  | some b => exact hbs b (List.mem_of_find?_eq_some hf)
 have hmeas := fun nl => measure_ok bs (.fn 80 [.dptr [.sl (encB bs) bs.length false none], .dptr [.sl (encT2 bs) bs.length false nl]]) (fun x => ⟨_, _, rfl, by
  have h := ofM_ok bs hb hn hp nl x
  rw [depthW_eq _ (by have := hof x; omega), sizeW_eq _ (by have := hof x; omega)] at h
  exact h⟩) (fun g cs h => by cases h; exact ⟨rfl, rfl, by decide⟩) t ht (by omega)
 obtain ⟨r, hr, hw⟩ := turned_ok bs hb hn hp hof t ht hts
 unfold sapplyR
 generalize t.putS bs = u at *
 obtain ⟨v, fn, args⟩ := t
 obtain ⟨e, st, hrun, rfl, nx, rfl⟩ := apply_loop bs hb hn v fn args
 obtain ⟨uv, ufn, uargs⟩ := u
 simp [Term.enc] at hmeas hr hw
 generalize (Term.mk uv ufn uargs).depth = dd at *
 generalize (Term.mk uv ufn uargs).size = zz at *
 have hel := encT2_len bs
 have htk : List.take (bs.length * 2) (List.map AV.d (encT2 bs)) = List.map AV.d (encT2 bs) := List.take_of_length_le (by simp [hel])
 have hmd := fun H n => mapD_encT H n (encT2 bs)
 by_cases hd : (60 : Int) < (dd : Int)
 ·have hd2 : 60 < dd := by omega
  rw [if_pos hd]
  refine ⟨.tup [.agg [.int .i64 0, .str (ByteArray.mk #[]), .sl [] 0 false (some true)], .int .i64 22], pcl_body code61 ?_, by simp [Term.enc, encL]⟩
  cases bs with
  | nil =>
   have hm0 := hmeas (some true)
   simp [encT2] at hm0
   simp at hr
   simp [applyH, applyB, rowWA, rowW] at hrun
   simp [plc_raw, Term.enc, hrun, hm0, hr, hw, hd, hd2]
  | cons y q =>
   simp only [List.length_cons] at htk hel hmeas
   simp at hr
   simp [applyH, applyB, rowWA, rowW] at hrun
   simp [plc_raw, Term.enc, hrun, hmeas, hr, hw, hd, hd2, htk, hmd, hel]
 by_cases hz : (4000 : Int) < (zz : Int)
 ·have hd2 : ¬ 60 < dd := by omega
  have hz2 : 4000 < zz := by omega
  rw [if_neg hd, if_pos hz]
  refine ⟨.tup [.agg [.int .i64 0, .str (ByteArray.mk #[]), .sl [] 0 false (some true)], .int .i64 3], pcl_body code61 ?_, by simp [Term.enc, encL]⟩
  cases bs with
  | nil =>
   have hm0 := hmeas (some true)
   simp [encT2] at hm0
   simp at hr
   simp [applyH, applyB, rowWA, rowW] at hrun
   simp [plc_raw, Term.enc, hrun, hm0, hr, hw, hd, hd2, hz, hz2]
  | cons y q =>
   simp only [List.length_cons] at htk hel hmeas
   simp at hr
   simp [applyH, applyB, rowWA, rowW] at hrun
   simp [plc_raw, Term.enc, hrun, hmeas, hr, hw, hd, hd2, hz, hz2, htk, hmd, hel]
 ·have hd2 : ¬ 60 < dd := by omega
  have hz2 : ¬ 4000 < zz := by omega
  rw [if_neg hd, if_neg hz]
  refine ⟨.tup [.agg (Term.mk uv ufn uargs).enc, .int .i64 0], pcl_body code61 ?_, by simp [Term.enc]⟩
  cases bs with
  | nil =>
   have hm0 := hmeas (some true)
   simp [encT2] at hm0
   simp at hr
   simp [applyH, applyB, rowWA, rowW] at hrun
   simp [plc_raw, Term.enc, hrun, hm0, hr, hw, hd, hd2, hz, hz2, kill]
  | cons y q =>
   simp only [List.length_cons] at htk hel hmeas
   simp at hr
   simp [applyH, applyB, rowWA, rowW] at hrun
   simp [plc_raw, Term.enc, hrun, hmeas, hr, hw, hd, hd2, hz, hz2, kill, htk, hmd, hel]
theorem subst_apply_ok (bs : List Bd) (hb : okB bs) (hn : bs.length ≤ 1048576) (hbs : ∀ b ∈ bs, b.t.size ≤ 1048576) (t : Term) (ht : t.ok) (hts : t.size ≤ 1048576) :
  ∃ r, pcl Cp 30 [.sl (encB bs) bs.length false none, .agg t.enc] = some r ∧ wk r = .tup [.agg (applyS bs t).1.enc, .int .i64 (applyS bs t).2] := by
 have h1 := sright_ok bs hb
 have h2 := tright_ok t ht
 cases hB : isB bs
 ·have ha : applyS bs t = (zeroT, 1) := by simp [applyS, hB]
  rw [ha]
  rw [hB] at h1
  obtain ⟨v, fn, args⟩ := t
  refine ⟨.tup [.agg [.int .i64 0, .str (ByteArray.mk #[]), .sl [] 0 false (some true)], .int .i64 1], pcl_body code30 ?_, by simp [Term.enc, encL]⟩
  simp [plc_raw, Term.enc, h1]
 ·rw [hB] at h1
  by_cases hz : t.rightE = 0
  ·have hB2 := hB
   simp only [isB, Bool.and_eq_true] at hB2
   obtain ⟨_, hp, hall⟩ := isOk_sorted bs none hB2.2
   obtain ⟨r, h3, h4⟩ := sapply_ok bs hb hn hp hbs t ht hts
   have hsz := putS_size bs 1048576 (by omega) hbs t
   have hsz2 : t.size * 1048576 ≤ 1048576 * 1048576 := Nat.mul_le_mul_right _ hts
   have hre := rightE_put hall hz (by omega)
   have ha : applyS bs t = sapplyR bs t := by
    unfold applyS sapplyR
    rw [if_pos ⟨hB, hz⟩, hre]
    by_cases c1 : ((t.putS bs).depth : Int) > 60
    ·rw [if_pos c1, if_neg (by decide), if_pos c1]
    ·rw [if_neg c1]
     by_cases c2 : ((t.putS bs).size : Int) > 4000
     ·rw [if_pos c2, if_neg (by decide), if_neg c1, if_pos c2]
     ·rw [if_neg c2, if_pos rfl, if_neg c1, if_neg c2]
   rw [ha]
   generalize sapplyR bs t = x at h4 ⊢
   generalize t.rightE = z at h2 hz
   obtain ⟨v, fn, args⟩ := t
   obtain ⟨⟨v2, fn2, args2⟩, e⟩ := x
   simp [Term.enc] at h2 h3 h4
   refine ⟨.tup [.agg (Term.mk v2 fn2 args2).enc, .int .i64 e], pcl_body code30 ?_, by simp [Term.enc]⟩
   simp [plc_raw, Term.enc, h1, h2, h3, h4, hz]
  ·have ha : applyS bs t = (zeroT, 1) := by simp [applyS, hB, hz]
   rw [ha]
   generalize t.rightE = z at h2 hz
   obtain ⟨v, fn, args⟩ := t
   simp [Term.enc] at h2
   refine ⟨.tup [.agg [.int .i64 0, .str (ByteArray.mk #[]), .sl [] 0 false (some true)], .int .i64 1], pcl_body code30 ?_, by simp [Term.enc, encL]⟩
   simp [plc_raw, Term.enc, h1, h2, hz]
end Go.Proofs.Ytiafeijkifpfaaa.Am

/-
 Light substitutions, the examples. No condition.
-/
namespace Go.Proofs.Ytiafeijkifpfaaa.Am
open Go Go.Proofs
set_option maxHeartbeats 4000000
set_option linter.unusedSimpArgs false
set_option linter.unusedVariables false
theorem alive04_ok : pcl Cp 29 [] = some (.bool true) := by
 have h : acall Try.prog plc 29 [] (fun _ => none) 0 = some (.d (.bool true), fun _ => none, 0) := by
  refine acall_of Try.prog plc ?_
  unfold callF
  rw [if_neg (by decide)]
  have : plc.ext 29 = some aliveX := rfl
  rw [this]
  rfl
 unfold pcl
 simp [h, reify]
def LightEnd (bs : List Bd) (v : Int) (fn : ByteArray) (args : List Term) (e : Ex) (t : St) : Prop :=
 AtRet 4 (.d (.bool false)) e t ∨ ∃ m : Int, AtExit 0 [.d (.sl (encB bs) bs.length false none), .junk, .junk, .ptr (0, 0) 0 3, .d (.bool false), .d (.int .i64 m), .d (.int .i64 bs.length), .junk, .junk, .junk, .junk, .junk, .junk, .junk, .junk, .junk, .junk, .junk, .junk, .junk, .junk, .junk, .junk, .junk, .junk, .junk, .junk, .junk, .junk, .junk, .junk, .junk, .junk, .junk, .junk] (upd (fun _ => none) (0, 0) (.cells [.d (.int .i64 v), .d (.str fn), .d (.sl (encL args) args.length false none)])) e t
theorem light_ok (bs : List Bd) (hb : okB bs) (t : Term) (ht : t.ok) : ∃ b, pcl Cp 28 [.sl (encB bs) bs.length false none, .agg t.enc] = some (.bool b) := by
 have hs := rsize_ok t ht
 obtain ⟨v, fn, args⟩ := t
 have hloop := loop_rule (P := Try.prog) (pol := plc) (c := b28_0) (m := ⟨[true, false, false, true, true, true, true, false, false, false, false, false, false, false, false, false, false, false, false, false, false, false, false, false, false, true, true, true, true, true, true, true, true, true, true], some 4⟩)
  (b := 4) (tm := fun (s : Nat × Int) => [.d (.sl (encB bs) bs.length false none), .junk, .junk, .ptr (0, 0) 0 3, .d (.bool false), .d (.int .i64 s.2), .d (.int .i64 s.1), .junk, .junk, .junk, .junk, .junk, .junk, .junk, .junk, .junk, .junk, .junk, .junk, .junk, .junk, .junk, .junk, .junk, .junk, .junk, .junk, .junk, .junk, .junk, .junk, .junk, .junk, .junk, .junk]) (Hf := fun _ => upd (fun x => none) (0, 0) (.cells [.d (.int .i64 v), .d (.str fn), .d (.sl (encL args) args.length false none)]))
  (I := fun s => s.1 ≤ bs.length) (μ := fun s => bs.length - s.1) (res := fun s => ()) (R := fun _ e t => LightEnd bs v fn args e t)
  (fun s nx hi => by
   obtain ⟨i, m⟩ := s
   simp only at hi ⊢
   rcases Nat.lt_or_ge i bs.length with hl | hl
   ·obtain ⟨x, v', fn', args', a⟩ := atB_ok hb.1 hl
    have hc := rsize_ok _ (hb.2 _ a.mem)
    generalize (Term.mk v' fn' args').sizeW = z at hc
    simp [Term.enc] at hc
    conv => arg 9; arg 4; unfold b28_0
    by_cases hz : (3000 : Int) < z
    ·simp [a.lti, a.sz, a.ltm, a.c1, a.e10, a.e11, a.c10, a.c11, a.le1, a.le4, a.le3, a.le2, a.le11, plc_raw, a.w, hc, hz]
     exact .fin _ _ (.inl ⟨rfl, rfl⟩)
    ·simp [a.lti, a.sz, a.ltm, a.c1, a.e10, a.e11, a.c10, a.c11, a.le1, a.le4, a.le3, a.le2, a.le11, plc_raw, a.w, hc, hz]
     exact .next (i + 1, if m < z then z else m) (by omega) (by simp) rfl hl (by simp; omega) rfl
   ·obtain rfl : i = bs.length := Nat.le_antisymm hi hl
    simp [b28_0]
    exact .fin _ _ (.inr ⟨m, .mk⟩)) (0, 1) (Nat.zero_le _)
 obtain ⟨e, st, hrun, hR⟩ := hloop
 simp at hrun
 generalize (Term.mk v fn args).sizeW = z at hs
 simp [Term.enc] at hs
 rcases hR with ⟨rfl, hv⟩ | ⟨m, rfl, nx, rfl⟩
 ·exact ⟨false, pcl_body code28 (by simp [plc_raw, Term.enc, hrun, hv])⟩
 ·by_cases hz : z ≤ 5000
  ·exact ⟨decide (IntKind.i64.wrap (m * z) ≤ 1000000), pcl_body code28 (by simp [plc_raw, Term.enc, hrun, hs, hz])⟩
  ·exact ⟨false, pcl_body code28 (by simp [plc_raw, Term.enc, hrun, hs, hz])⟩
theorem sameB_refl (t : Term) : t.sameB t = true := (sameB_eq t t).2 rfl
theorem applyS_ok (bs : List Bd) (hb : okB bs) (t : Term) (ht : t.ok) : (applyS bs t).1.ok := by
 unfold applyS
 split
 ·split
  ·exact putS_ok bs hb t ht
  ·simp [Term.ok, okL]
 ·simp [Term.ok, okL]
end Go.Proofs.Ytiafeijkifpfaaa.Am

/-
 The law of what substitutions keep: its function returns true. No condition.
-/
namespace Go.Proofs.Ytiafeijkifpfaaa.Am
open Go Go.Proofs
set_option maxHeartbeats 4000000
set_option maxRecDepth 20000
set_option linter.unusedSimpArgs false
set_option linter.unusedVariables false
theorem varsW_size (t : Term) (h : t.size ≤ 1048576) : (t.varsW []).length ≤ 1048576 := by
 have := varsW_len t []
 simp at this; omega
theorem substKeeps_ok (bs : List Bd) (hb : okB bs) (hbs : ∀ b ∈ bs, b.t.size ≤ 1048576) (hn : bs.length ≤ 1048576) (t : Term) (ht : t.ok) (hts : t.size ≤ 1048576) (by_ : Int) (hby : -9223372036854775808 ≤ by_ ∧ by_ < 9223372036854775808) :
  pcl Cp 11 [.sl (encB bs) bs.length false none, .agg t.enc, .int .i64 by_] = some (.bool true) := by
 obtain ⟨b, h1⟩ := light_ok bs hb t ht
 have hal := alive04_ok
 have h7 := ris_ok bs hb
 have hrr := rright_ok t ht
 obtain ⟨v, fn, args⟩ := t
 cases b
 ·simp [Term.enc] at h1
  refine pcl_body code11 ?_
  simp [plc_raw, Term.enc, h1, hal]
 by_cases hz : (Term.mk v fn args).rightE = 0
 ·cases hB : isB bs
  ·rw [hB] at h7
   simp [Term.enc] at h1 hrr
   simp [hz] at hrr
   refine pcl_body code11 ?_
   simp [plc_raw, Term.enc, h1, hal, hrr, h7]
  ·rw [hB] at h7
   obtain ⟨nl, hvars⟩ := rVars_ok _ ht (by omega)
   obtain ⟨r1, h2, h3⟩ := subst_apply_ok bs hb hn hbs _ ht hts
   have hvl := varsW_size _ hts
   have hsame := applyS_same bs _ hts hB hz
   have happ := applyS_ok bs hb _ ht
   have h8 := rsame_ok _ happ _ ht
   obtain ⟨r2, h4, h5⟩ := shiftP_ok by_ _ ht hts
   have hsh : shiftS by_ (Term.mk v fn args) = if (Term.mk v fn args).occ.any (badV by_) = true then (zeroT, 1) else ((Term.mk v fn args).mapV (shV by_), 0) := by
    unfold shiftS; rw [if_pos hz]
   have hback := shift_back by_ hby.1 hby.2 _ hts hz
   have hmok := mapV_ok by_ _ ht
   have h10 := rsame_ok _ ht _ ht
   rw [sameB_refl] at h10
   rw [hsh] at h5
   have hno : ((Term.mk v fn args).varsW []).any (fun y => bs.any fun x => decide (x.v = y)) = false → applyS bs (Term.mk v fn args) = (Term.mk v fn args, 0) := fun h => hsame fun y hy x hx => by
    have := List.any_eq_false.1 h y hy
    simp only [List.any_eq_true, decide_eq_true_eq, not_exists, not_and] at this
    exact this x hx
   generalize (Term.mk v fn args).varsW [] = l at *
   obtain ⟨e, st, hrun, rfl, nx, rfl⟩ := keeps_out bs hb by_ l nl hvl v fn args 21 (by decide)
   generalize l.any (fun y => bs.any fun x => decide (x.v = y)) = tch at hrun hno
   generalize applyS bs (Term.mk v fn args) = xe at h3 happ h8 hno
   obtain ⟨⟨v2, fn2, args2⟩, e2⟩ := xe
   generalize hbad : (Term.mk v fn args).occ.any (badV by_) = bad at h5 hback
   have hcase : (tch = true) ∨ (tch = false ∧ e2 = 0 ∧ v2 = v ∧ fn2 = fn ∧ args2 = args) := by
    cases tch
    ·have := hno rfl
     simp at this
     exact .inr ⟨rfl, this.2, this.1.1, this.1.2.1, this.1.2.2⟩
    ·exact .inl rfl
   simp [Term.enc] at h1 hrr h2 h3 h4 h8 h10 hvars
   simp [hz] at hrr
   simp [kOut] at hrun
   cases bad
   ·obtain ⟨hb1, hb2⟩ := hback rfl
    obtain ⟨r3, h11, h12⟩ := shiftP_ok (IntKind.i64.wrap (-by_)) _ hmok hb2
    rw [hb1] at h12
    generalize (Term.mk v fn args).mapV (shV by_) = u at *
    obtain ⟨uv, ufn, uargs⟩ := u
    simp [Term.enc] at h5 h11 h12
    refine pcl_body code11 ?_
    rcases hcase with rfl | ⟨rfl, rfl, rfl, rfl, rfl⟩
    ·simp [plc_raw, Term.enc, h1, hal, hrr, h7, hvars, hrun, h2, h3, h4, h5, h8, h10, h11, h12]
    ·simp [plc_raw, Term.enc, h1, hal, hrr, h7, hvars, hrun, h2, h3, h4, h5, h10, h11, h12]
   ·simp [Term.enc, encL] at h5
    refine pcl_body code11 ?_
    rcases hcase with rfl | ⟨rfl, rfl, rfl, rfl, rfl⟩
    ·simp [plc_raw, Term.enc, h1, hal, hrr, h7, hvars, hrun, h2, h3, h4, h5, h8, h10]
    ·simp [plc_raw, Term.enc, h1, hal, hrr, h7, hvars, hrun, h2, h3, h4, h5, h10]
 ·generalize (Term.mk v fn args).rightE = z at hrr hz
  simp [Term.enc] at h1 hrr
  refine pcl_body code11 ?_
  simp [plc_raw, Term.enc, h1, hal, hrr, hz]
end Go.Proofs.Ytiafeijkifpfaaa.Am


/-
  The order of Knuth and Bendix: what the program's function computes. No condition.
-/
import Derived.Test.YtfcedichoigbbaaAmKbw
namespace Go.Proofs.Ytfcedichoigbbaa.Am
open Go Go.Proofs
set_option maxHeartbeats 4000000
set_option linter.unusedSimpArgs false

theorem encMi_stamps : ∀ (m : List (Int × Int)) (i : Nat), (encMi i m).map (·.2.2) = List.range' i m.length
  | [], _ => rfl
  | (u, n) :: r, i => by simp [encMi, encMi_stamps r (i + 1), List.range'_succ]
theorem valsOf_enc : ∀ (m : List (Int × Int)) (i : Nat), valsOf (encMi i m) = some (m.map (·.2))
  | [], _ => rfl
  | (u, n) :: r, i => by simp [encMi, valsOf, valsOf_enc r (i + 1)]
theorem holeG_ok {o : Oid} {m : List (Int × Int)} {H : Hp} {nx : Nat} (h : H o = some (encM m)) (y0 y1 y2 y3 y4 y5 y6 y8 : AV) (r : List AV) (hr : r.length = 105) :
    holeG ⟨y0 :: y1 :: y2 :: y3 :: y4 :: y5 :: y6 :: .map o :: y8 :: .d (.bool false) :: .d (.bool false) :: r, H, nx⟩ =
      some (.normal, ⟨y0 :: y1 :: y2 :: y3 :: y4 :: y5 :: y6 :: .map o :: y8 :: .d (.bool (m.any fun q => decide (0 < q.2))) :: .d (.bool (m.any fun q => decide (q.2 < 0))) :: List.replicate 105 .junk, H, nx⟩) := by
  simp only [holeG, h, encM, hr, encMi_stamps, encMi_len, List.range_eq_range', valsOf_enc, Nat.le_refl, and_self, if_true, Option.map_some, List.any_map]
  rfl

/-- The place of the first arguments that are not the same. -/
def firstL : List Term → List Term → Option Nat
  | t :: r, u :: s => if t.sameB u then (firstL r s).map (· + 1) else some 0
  | _, _ => none
def sideI (b : Bool) : Int := if b then 1 else -1
mutual
def Term.kcmp (g : Sg) : Term → Term → Int
  | .mk v1 f1 a1, .mk v2 f2 a2 =>
    if (Term.mk v1 f1 a1).sameB (.mk v2 f2 a2) then 0 else
    let x := (Term.mk v1 f1 a1).loadW g 1 []
    let y := (Term.mk v2 f2 a2).loadW g (-1) x.2
    let d := IntKind.i64.wrap (x.1 - y.1)
    let out : Int := if 0 < d then 1 else if d < 0 then -1 else if f1.toList = [] ∨ f2.toList = [] then 2 else if f1.toList ≠ f2.toList then sideI (g.above f1 f2)
      else if a1.length ≠ a2.length then sideI (decide (a1.length > a2.length)) else kcmpL g a1 a2
    if (out = 1 ∧ y.2.any (fun q => decide (q.2 < 0)) = true) ∨ (out = -1 ∧ y.2.any (fun q => decide (0 < q.2)) = true) then 2 else out
def kcmpL (g : Sg) : List Term → List Term → Int
  | t :: r, u :: s => if t.sameB u then kcmpL g r s else t.kcmp g u
  | _, _ => 2
end
theorem kcmpL_first (g : Sg) : ∀ (a b : List Term) (i : Nat), firstL a b = some i → ∃ t u, a[i]? = some t ∧ b[i]? = some u ∧ kcmpL g a b = t.kcmp g u
  | t :: r, u :: s, i, h => by
    simp only [firstL] at h
    by_cases hs : t.sameB u = true
    · rw [if_pos hs] at h
      simp only [Option.map_eq_some_iff] at h
      obtain ⟨j, hj, rfl⟩ := h
      obtain ⟨t', u', h1, h2, h3⟩ := kcmpL_first g r s j hj
      exact ⟨t', u', by simpa using h1, by simpa using h2, by simp only [kcmpL, if_pos hs, h3]⟩
    · rw [if_neg hs] at h
      cases h
      exact ⟨t, u, rfl, rfl, by simp only [kcmpL, if_neg hs]⟩
  | [], _, _, h => by simp [firstL] at h
  | _ :: _, [], _, h => by simp [firstL] at h

theorem side_ok (b : Bool) : pcl Cp 66 [.bool b] = some (.int .i64 (sideI b)) := by
  refine pcl_body code66 ?_
  cases b <;> simp [sideI]

def optI : Option Nat → Int
  | some i => i
  | none => -1
def firstI (a b : List Term) (i : Nat) : Int := optI ((firstL (a.drop i) (b.drop i)).map (· + i))
theorem first_loop (v0 : Int) (fn0 : ByteArray) (v00 : Int) (fn00 : ByteArray) (ts us : List Term) (hn : ts.length ≤ 9223372036854775807) (hlen : us.length = ts.length) (hok : okL ts) (hok2 : okL us) :
    ∃ e t, aloop Try.prog plc b67_0 ⟨[false, false, true, true, true, true, false, false, false, true, true, false, false, false, false, false, false, false, false, false, false, false, false, false, false, false, false, true], some 8⟩ ⟨[.junk, .junk, .ptr (0, 0) 0 3, .ptr (1, 0) 0 3, .d (.int .i64 0), .d (.int .i64 (-1)), .junk, .junk, .junk, .d (.int .i64 ts.length), .d (.int .i64 0), .junk, .junk, .junk, .junk, .junk, .junk, .junk, .junk, .junk, .junk, .junk, .junk, .junk, .junk, .junk, .junk, .junk], termH2 v0 fn0 ts v00 fn00 us, 8⟩ = some (e, t) ∧
      ∃ i' : Int, AtExit 0 [.junk, .junk, .ptr (0, 0) 0 3, .ptr (1, 0) 0 3, .d (.int .i64 0), .d (.int .i64 (firstI ts us 0)), .junk, .junk, .junk, .d (.int .i64 ts.length), .d (.int .i64 i'), .junk, .junk, .junk, .junk, .junk, .junk, .junk, .junk, .junk, .junk, .junk, .junk, .junk, .junk, .junk, .junk, .junk] (termH2 v0 fn0 ts v00 fn00 us) e t := by
  refine loop_rule (b := 8) (tm := fun (i : Nat) => [.junk, .junk, .ptr (0, 0) 0 3, .ptr (1, 0) 0 3, .d (.int .i64 0), .d (.int .i64 (-1)), .junk, .junk, .junk, .d (.int .i64 ts.length), .d (.int .i64 i), .junk, .junk, .junk, .junk, .junk, .junk, .junk, .junk, .junk, .junk, .junk, .junk, .junk, .junk, .junk, .junk, .junk]) (Hf := fun _ => termH2 v0 fn0 ts v00 fn00 us)
    (I := fun i => i ≤ ts.length) (μ := fun i => ts.length - i) (res := fun i => firstI ts us i) (R := fun r e t => ∃ i' : Int, AtExit 0 [.junk, .junk, .ptr (0, 0) 0 3, .ptr (1, 0) 0 3, .d (.int .i64 0), .d (.int .i64 r), .junk, .junk, .junk, .d (.int .i64 ts.length), .d (.int .i64 i'), .junk, .junk, .junk, .junk, .junk, .junk, .junk, .junk, .junk, .junk, .junk, .junk, .junk, .junk, .junk, .junk, .junk] (termH2 v0 fn0 ts v00 fn00 us) e t)
    (fun i nx hi => ?_) 0 (Nat.zero_le _)
  rcases Nat.lt_or_ge i ts.length with hl | hl
  · obtain ⟨v, fn, args, a⟩ := at_ok hn hl
    obtain ⟨v2, fn2, args2, b⟩ := at_ok (ts := us) (by omega) (i := i) (by omega)
    have hcall := same_ok _ (okL_mem hok _ a.mem) _ (okL_mem hok2 _ b.mem)
    simp [Term.enc] at hcall
    have bsz := b.sz
    have bltm := b.ltm
    have ble3 := b.le3
    rw [hlen] at bsz bltm ble3
    conv => arg 9; arg 4; unfold b67_0
    cases hp : (Term.mk v fn args).sameB (.mk v2 fn2 args2) <;> rw [hp] at hcall <;> simp [a.lti, a.sz, a.ltm, a.cells, a.le3, b.cells, bsz, bltm, ble3, hlen, plc_raw, hcall, a.w, termH2]
    · refine .fin _ _ ⟨i, ?_⟩
      rw [show firstI ts us i = i by simp [firstI, a.dr, b.dr, firstL, hp, optI]]
      exact .mk
    · refine .next (i + 1) (by simp) (by simp) (by simp [termH2, hlen]) hl (by omega) ?_
      simp only [firstI, a.dr, b.dr, firstL, hp, if_true]
      cases firstL (ts.drop (i + 1)) (us.drop (i + 1)) <;> simp [optI]; omega
  · obtain rfl : i = ts.length := Nat.le_antisymm hi hl
    simp [b67_0, termH2, hlen]
    refine .fin _ _ ⟨ts.length, ?_⟩
    rw [show firstI ts us ts.length = -1 by simp [firstI, firstL, optI]]
    exact .mk
theorem first_ok (v1 : Int) (f1 : ByteArray) (a1 : List Term) (h1 : (Term.mk v1 f1 a1).ok) (v2 : Int) (f2 : ByteArray) (a2 : List Term) (h2 : (Term.mk v2 f2 a2).ok) (hl : a2.length = a1.length) :
    pcl Cp 67 [.agg (Term.mk v1 f1 a1).enc, .agg (Term.mk v2 f2 a2).enc] = some (.int .i64 (optI (firstL a1 a2))) := by
  refine pcl_body code67 ?_
  obtain ⟨e, t, hrun, i', rfl, nx, rfl⟩ := first_loop v1 f1 v2 f2 a1 a2 h1.1 hl h1.2 h2.2
  simp [Term.enc, termH2, hl] at hrun ⊢
  simp [hrun, firstI]
end Go.Proofs.Ytfcedichoigbbaa.Am

/-
  The numbers of a term's variables, rising: what the document's functions compute. No condition.
-/
import Derived.Test.YtfcedichoigbbaaAmVa0
namespace Go.Proofs.Ytfcedichoigbbaa.Am
open Go Go.Proofs
set_option maxHeartbeats 4000000
set_option linter.unusedSimpArgs false

/-- Numbers, rising, and one more. -/
def withGo (n : Int) : Bool → List Int → List Int → List Int
  | inn, out, [] => if inn then out else out ++ [n]
  | inn, out, x :: r =>
    if inn = false ∧ n ≤ x then withGo n true ((out ++ [n]) ++ if x = n then [] else [x]) r else withGo n inn (out ++ if x = n then [] else [x]) r
def WithEnd (l : List Int) (b : Bool) (nl : Option Bool) (n : Int) (r : List Int) (e : Ex) (t : St) : Prop :=
  ∃ inn out, AtExit 0 [.d (.sl (encI l) l.length b nl), .d (.int .i64 n), .junk, .junk, .osl (0, 1) 0 0 1 0, .osl (1, 1) 0 out.length 1 out.length, .d (.bool inn), .d (.int .i64 l.length), .junk, .junk, .junk, .junk, .junk, .junk, .junk, .junk, .junk, .junk, .junk, .junk, .junk, .junk, .junk, .junk, .junk, .junk, .junk, .junk, .junk, .junk, .junk, .junk, .junk, .junk, .junk, .junk, .junk, .junk, .junk, .junk, .junk, .junk, .junk, .junk, .junk, .junk, .junk, .junk] (upd (upd (fun _ => none) (0, 1) .vnil) (1, 1) (rowI out)) e t ∧ out.length ≤ l.length + 1 ∧ r = if inn then out else out ++ [n]
theorem with_ok (l : List Int) (hl : l.length ≤ 68719476000) (b : Bool) (nl : Option Bool) (n : Int) : pcl Cp 65 [.sl (encI l) l.length b nl, .int .i64 n] = some (.sl (encI (withGo n false [] l)) (withGo n false [] l).length false (some (decide (withGo n false [] l = [])))) := by
  have hloop := loop_rule (P := Try.prog) (pol := plc) (c := b65_0) (m := ⟨[true, true, false, false, true, true, true, true, false, false, false, false, false, false, false, false, false, false, false, false, false, false, false, false, false, false, false, false, false, false, false, false, false, false, false, false, false, false, false, false, false, true, true, true, true, true, true, true], some 4⟩)
    (b := 4) (tm := fun (s : Nat × Bool × List Int) => [.d (.sl (encI l) l.length b nl), .d (.int .i64 n), .junk, .junk, .osl (0, 1) 0 0 1 0, .osl (1, 1) 0 s.2.2.length 1 s.2.2.length, .d (.bool s.2.1), .d (.int .i64 s.1), .junk, .junk, .junk, .junk, .junk, .junk, .junk, .junk, .junk, .junk, .junk, .junk, .junk, .junk, .junk, .junk, .junk, .junk, .junk, .junk, .junk, .junk, .junk, .junk, .junk, .junk, .junk, .junk, .junk, .junk, .junk, .junk, .junk, .junk, .junk, .junk, .junk, .junk, .junk, .junk])
    (Hf := fun s => upd (upd (fun _ => none) (0, 1) .vnil) (1, 1) (rowI s.2.2))
    (I := fun s => s.1 ≤ l.length ∧ s.2.2.length ≤ s.1 + if s.2.1 then 1 else 0) (μ := fun s => l.length - s.1) (res := fun s => withGo n s.2.1 s.2.2 (l.drop s.1))
    (R := fun r e t => WithEnd l b nl n r e t)
    (fun s nx hi => by
      obtain ⟨i, inn, out⟩ := s
      obtain ⟨hi, ho⟩ := hi
      simp only at hi ho ⊢
      rcases Nat.lt_or_ge i l.length with hl2 | hl2
      · have hw : IntKind.i64.wrap ((i : Int) + 1) = (i : Int) + 1 := wrap_i64 (by omega) (by omega)
        have hb1 : out.length ≤ 68719476735 := by split at ho <;> omega
        obtain ⟨x, hx⟩ : ∃ x, l[i] = x := ⟨_, rfl⟩
        have hdr := List.drop_eq_getElem_cons hl2
        rw [hx] at hdr
        have ha2 := fun (H : Hp) (id : Nat) (o o2 : Oid) (y : Int) (h : H o = some (rowI (out ++ [n]))) (h2 : H o2 = some (.cells [.d (.int .i64 y)])) (hb : out.length + 1 ≤ 68719476735) => append_rowI (id := id) h h2 (by simpa using hb)
        simp only [List.length_append, List.length_singleton] at ha2
        by_cases hin : inn = false ∧ n ≤ x
        · obtain ⟨rfl, hge⟩ := hin
          have hb2 : out.length + 1 ≤ 68719476735 := by simp at ho; omega
          by_cases he : x = n
          · conv => arg 9; arg 4; unfold b65_0
            simp [hl2, hw, append_rowI, hb1, hx, hge, he]
            refine .next (i + 1, true, out ++ [n]) (by omega) (by simp) rfl ⟨hl2, by simp at ho ⊢; omega⟩ (by simp; omega) ?_
            simp [hdr, withGo, hge, he]
          · conv => arg 9; arg 4; unfold b65_0
            simp [hl2, hw, append_rowI, ha2, hb1, hb2, hx, hge, he]
            refine .next (i + 1, true, out ++ [n] ++ [x]) (by omega) (by simp) (by simp) ⟨hl2, by simp at ho ⊢; omega⟩ (by simp; omega) ?_
            simp [hdr, withGo, hge, he]
        · by_cases he : x = n
          · cases inn
            · simp at hin
              conv => arg 9; arg 4; unfold b65_0
              simp [hl2, hw, append_rowI, ha2, hb1, hx, hin, he]
              omega
            · conv => arg 9; arg 4; unfold b65_0
              simp [hl2, hw, append_rowI, ha2, hb1, hx, he]
              refine .next (i + 1, true, out) (by omega) (by simp) rfl ⟨hl2, by simp at ho ⊢; omega⟩ (by simp; omega) ?_
              simp [hdr, withGo, he]
          · cases inn
            · simp at hin
              have hin2 : ¬ n ≤ x := by omega
              conv => arg 9; arg 4; unfold b65_0
              simp [hl2, hw, append_rowI, ha2, hb1, hx, hin2, he]
              refine .next (i + 1, false, out ++ [x]) (by omega) (by simp) (by simp) ⟨hl2, by simp at ho ⊢; omega⟩ (by simp; omega) ?_
              simp [hdr, withGo, he, hin2]
            · conv => arg 9; arg 4; unfold b65_0
              simp [hl2, hw, append_rowI, ha2, hb1, hx, he]
              refine .next (i + 1, true, out ++ [x]) (by omega) (by simp) (by simp) ⟨hl2, by simp at ho ⊢; omega⟩ (by simp; omega) ?_
              simp [hdr, withGo, he]
      · obtain rfl : i = l.length := Nat.le_antisymm hi hl2
        simp [b65_0]
        refine .fin _ _ ⟨inn, out, .mk, by split at ho <;> omega, by simp [withGo]⟩) (0, false, []) ⟨Nat.zero_le _, Nat.le_refl _⟩
  obtain ⟨e, t, hrun, inn, out, ⟨rfl, nx, rfl⟩, hout, hr⟩ := hloop
  refine pcl_body code65 ?_
  simp [rowI_nil] at hrun hr
  rw [hr]
  have hre := fun (H : Hp) (h : H (1, 1) = some (rowI (out ++ [n]))) => reify_rowI h 5
  have hre2 := fun (H : Hp) (h : H (1, 1) = some (rowI out)) => reify_rowI h 5
  simp only [List.length_append, List.length_singleton] at hre
  have hb1 : out.length ≤ 68719476735 := by omega
  cases inn
  · simp [hrun, append_rowI, hb1, -datK_some]
    rw [datK_some]
    have h := hre (upd (upd (upd (upd (fun x => none) (0, 1) Obj.vnil) (1, 1) (rowI out)) (nx + 2 + 1 + 1, 0) (.cells [.d (.int .i64 n)])) (1, 1) (rowI (out ++ [n]))) (by simp)
    obtain ⟨x, hx, hx2⟩ := Option.map_eq_some_iff.1 h
    simp only [] at hx2 ⊢
    rw [hx]
    simp [hx2]
  · simp [hrun, -datK_some]
    rw [datK_some]
    obtain ⟨x, hx, hx2⟩ := Option.map_eq_some_iff.1 (hre2 (upd (upd (fun x => none) (0, 1) Obj.vnil) (1, 1) (rowI out)) (by simp))
    rw [hx]
    simp [hx2]
end Go.Proofs.Ytfcedichoigbbaa.Am

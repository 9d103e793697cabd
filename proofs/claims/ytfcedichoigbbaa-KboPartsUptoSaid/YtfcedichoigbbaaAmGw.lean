/-
  Signatures: what the program's functions and the document's compute of them, as the abstract machine runs them. No condition.
-/
import Derived.Test.YtfcedichoigbbaaAmPol
import Derived.Test.YtfcedichoigbbaaAmG
namespace Go.Proofs.Ytfcedichoigbbaa.Am
open Go Go.Proofs
set_option maxHeartbeats 4000000
set_option linter.unusedSimpArgs false

theorem eqS_comm (a b : ByteArray) : eqS a b = eqS b a := by unfold eqS; rw [Bool.eq_iff_iff, beq_iff_eq, beq_iff_eq]; exact ⟨Eq.symm, Eq.symm⟩
theorem sindex_ok (ns : List ByteArray) (hn : ns.length ≤ 9223372036854775807) (s : ByteArray) : pcl Cp 44 [.sl (encS ns) ns.length false none, .str s] = some (.int .i64 (idxS ns s)) := by
  have hloop := loop_rule (P := Try.prog) (pol := plc) (c := b44_0) (m := ⟨[true, true, false, false, true, false, false, true, true, false, false, false, false, false, false, false, false, false, false], some 4⟩)
    (b := 4) (tm := fun (i : Nat) => [.d (.sl (encS ns) ns.length false none), .d (.str s), .junk, .junk, .d (.int .i64 0), .junk, .junk, .d (.int .i64 ns.length), .d (.int .i64 i), .junk, .junk, .junk, .junk, .junk, .junk, .junk, .junk, .junk, .junk]) (Hf := fun _ => fun _ => none)
    (I := fun i => i ≤ ns.length) (μ := fun i => ns.length - i) (res := fun i => fromI (fun n => eqS n s) ns i)
    (R := fun o e t => match o with | some k => AtRet 4 (.d (.int .i64 k)) e t | none => AtExit 0 [.d (.sl (encS ns) ns.length false none), .d (.str s), .junk, .junk, .d (.int .i64 0), .junk, .junk, .d (.int .i64 ns.length), .d (.int .i64 ns.length), .junk, .junk, .junk, .junk, .junk, .junk, .junk, .junk, .junk, .junk] (fun _ => none) e t)
    (fun i nx hi => by
      conv => arg 9; arg 4; unfold b44_0
      rcases Nat.lt_or_ge i ns.length with hl | hl
      · have hw : IntKind.i64.wrap ((i : Int) + 1) = (i : Int) + 1 := wrap_i64 (by omega) (by omega)
        simp [hl, hw]
        simp only [condP_ite]
        split <;> simp only [holdE] <;> simp [*]
        · rename_i hq
          exact .fin _ _ (by rw [fromI_step hl, if_pos (by simp [eqS, hq])]; exact ⟨rfl, rfl⟩)
        · rename_i hq
          exact .next (i + 1) (by omega) rfl rfl hl (by omega) (by rw [fromI_step hl, if_neg (by simp only [eqS, beq_iff_eq]; exact fun e => hq e.symm)])
      · obtain rfl : i = ns.length := Nat.le_antisymm hi hl
        simp
        exact .fin _ _ (by rw [fromI_end]; exact .mk)) 0 (Nat.zero_le _)
  obtain ⟨e, t, h1, h2⟩ := hloop
  refine pcl_body code44 ?_
  simp [fromI_zero] at h1 h2
  simp [h1]
  unfold idxS
  revert h2
  cases ns.findIdx? (fun n => eqS n s) with
  | some k => rintro ⟨rfl, h⟩; simp [h]
  | none => rintro ⟨rfl, nx, rfl⟩; simp
theorem rat_ok (ns : List ByteArray) (ws : List Int) (hn : ns.length ≤ 9223372036854775807) (s : ByteArray) : pcl Cp 40 [.agg [.sl (encS ns) ns.length false none, .sl (encI ws) ws.length false none], .str s] = some (.int .i64 (idxS ns s)) := by
  have hloop := loop_rule (P := Try.prog) (pol := plc) (c := b40_0) (m := ⟨[false, true, true, false, true, true, false, false, false, false, false, false, false, false, false, false, false, false, false, false, false], some 3⟩)
    (b := 3) (tm := fun (i : Nat) => [.junk, .d (.str s), .ptr (0, 0) 0 2, .junk, .d (.int .i64 0), .d (.int .i64 i), .junk, .junk, .junk, .junk, .junk, .junk, .junk, .junk, .junk, .junk, .junk, .junk, .junk, .junk, .junk]) (Hf := fun _ => upd (fun _ => none) (0, 0) (.cells [.d (.sl (encS ns) ns.length false none), .d (.sl (encI ws) ws.length false none)]))
    (I := fun i => i ≤ ns.length) (μ := fun i => ns.length - i) (res := fun i => fromI (fun n => eqS n s) ns i)
    (R := fun o e t => match o with | some k => AtRet 4 (.d (.int .i64 k)) e t | none => AtExit 0 [.junk, .d (.str s), .ptr (0, 0) 0 2, .junk, .d (.int .i64 0), .d (.int .i64 ns.length), .junk, .junk, .junk, .junk, .junk, .junk, .junk, .junk, .junk, .junk, .junk, .junk, .junk, .junk, .junk] (upd (fun _ => none) (0, 0) (.cells [.d (.sl (encS ns) ns.length false none), .d (.sl (encI ws) ws.length false none)])) e t)
    (fun i nx hi => by
      conv => arg 9; arg 4; unfold b40_0
      rcases Nat.lt_or_ge i ns.length with hl | hl
      · have hw : IntKind.i64.wrap ((i : Int) + 1) = (i : Int) + 1 := wrap_i64 (by omega) (by omega)
        simp [hl, hw]
        simp only [condP_ite]
        split <;> simp only [holdE] <;> simp [*]
        · exact .fin _ _ (by rw [fromI_step hl]; simp [eqS, *, AtRet])
        · exact .next (i + 1) (by omega) rfl rfl hl (by omega) (by simp only [fromI_step hl]; simp [eqS, *])
      · obtain rfl : i = ns.length := Nat.le_antisymm hi hl
        simp
        exact .fin _ _ (by rw [fromI_end]; exact .mk)) 0 (Nat.zero_le _)
  obtain ⟨e, t, h1, h2⟩ := hloop
  refine pcl_body code40 ?_
  simp [fromI_zero] at h1 h2
  simp [h1]
  unfold idxS
  revert h2
  cases ns.findIdx? (fun n => eqS n s) with
  | some k => rintro ⟨rfl, h⟩; simp [h]
  | none => rintro ⟨rfl, nx, rfl⟩; simp

theorem rank_ok (g : Sg) (hg : g.ok) (s : ByteArray) : pcl Cp 49 [.agg g.enc, .str s] = some (.int .i64 (g.rank s)) := by
  have h := sindex_ok g.names hg.1 s
  refine pcl_body code49 ?_
  simp [Sg.enc, plc_raw, h]
  repeat' ((try simp only [condP_ite]); split <;> (try simp only [holdE]) <;> (try simp [*, plc_raw]))
  all_goals simp_all [Sg.rank, dollarTrue]
theorem above_ok (g : Sg) (hg : g.ok) (a b : ByteArray) : pcl Cp 31 [.agg g.enc, .str a, .str b] = some (.bool (g.above a b)) := by
  have h1 := rank_ok g hg a
  have h2 := rank_ok g hg b
  refine pcl_body code31 ?_
  simp [Sg.enc] at h1 h2
  simp [Sg.enc, plc_raw, h1, h2]
  repeat' ((try simp only [condP_ite]); split <;> (try simp only [holdE]) <;> (try simp [*, plc_raw]))
  all_goals simp_all [Sg.above, gtS]
theorem rabove_ok (g : Sg) (hg : g.ok) (a b : ByteArray) : pcl Cp 32 [.agg g.enc, .str a, .str b] = some (.bool (g.aboveR a b)) := by
  have h1 := rat_ok g.names g.weights hg.1 a
  have h2 := rat_ok g.names g.weights hg.1 b
  refine pcl_body code32 ?_
  simp [Sg.enc, plc_raw, h1, h2]
  repeat' ((try simp only [condP_ite]); split <;> (try simp only [holdE]) <;> (try simp [*, plc_raw]))
  all_goals simp_all [Sg.aboveR, gtS, dollarTrue]
  all_goals (first | omega | grind)
theorem of_ok (g : Sg) (hg : g.ok) (s : ByteArray) : pcl Cp 70 [.agg g.enc, .str s] = some (.int .i64 (g.of s)) := by
  have h1 := sindex_ok g.names hg.1 s
  refine pcl_body code70 ?_
  simp [Sg.enc, plc_raw, h1]
  rcases idxS_lt (ns := g.names) (s := s) with hi | ⟨k, hi, hk⟩
  · simp [hi]
    repeat' ((try simp only [condP_ite]); split <;> (try simp only [holdE]) <;> (try simp [*, plc_raw]))
    all_goals simp_all [Sg.of]
  · simp [hi]
    by_cases hw : k < g.weights.length
    · have hw' : ¬ (g.weights.length : Int) ≤ (k : Int) := by omega
      repeat' ((try simp only [condP_ite]); split <;> (try simp only [holdE]) <;> (try simp [*, plc_raw]))
      all_goals simp_all [Sg.of]
      all_goals (first | omega | grind)
    · have hw' : (g.weights.length : Int) ≤ (k : Int) := by omega
      repeat' ((try simp only [condP_ite]); split <;> (try simp only [holdE]) <;> (try simp [*, plc_raw]))
      all_goals simp_all [Sg.of]
      all_goals (first | omega | grind)

/-! ### Which signatures are right -/
abbrev sgH (g : Sg) : Hp := upd (fun _ => none) (0, 0) (.cells [.d (.sl (encS g.names) g.names.length false none), .d (.sl (encI g.weights) g.weights.length false none)])
theorem gright_ok (g : Sg) (hg : g.ok) : pcl Cp 26 [.agg g.enc] = some (.int .i64 (if g.right then 0 else 1)) := by
  have hloop := fun w => loop_rule (P := Try.prog) (pol := plc) (c := b26_1) (m := ⟨[false, true, true, true, false, false, false, true, false, false, false, false, false, false, false, false, false, false, false, false, false, false, true, true, true, false, false, false, false, false, false, false, false, false, false, false, false, false, false, false, false, false, false, false, false, false, false, false, false, false, false, false, true, true, true, true, true, true, true, true, true, true, true, true, true, true, true, true, true, true], some 20⟩)
    (b := 20) (tm := fun (s : Nat × Bool) => [.junk, .ptr (0, 0) 0 2, .d (.int .i64 0), .d (.bool s.2), .junk, .junk, .junk, .junk, .junk, .junk, .junk, .junk, .junk, .junk, .junk, .junk, .junk, .junk, .junk, .junk, .junk, .junk, .d (.sl (encS g.names) g.names.length false none), .d (.int .i64 g.names.length), .d (.int .i64 s.1), .junk, .junk, .junk, .junk, .junk, .junk, .junk, .junk, .junk, .junk, .junk, .junk, .junk, .junk, .junk, .junk, .junk, .junk, .junk, .junk, .junk, .junk, .junk, .junk, .junk, .junk, .junk, .junk, .junk, .junk, .junk, .junk, .junk, .junk, .junk, .junk, .junk, .junk, .junk, .junk, .junk, .junk, .junk, .junk, .junk]) (Hf := fun _ => sgH g)
    (I := fun s => s.1 ≤ g.names.length) (μ := fun s => g.names.length - s.1) (res := fun s => s.2 || anyI (badN g.names) g.names s.1)
    (R := fun r e t => AtExit 0 [.junk, .ptr (0, 0) 0 2, .d (.int .i64 0), .d (.bool r), .junk, .junk, .junk, .junk, .junk, .junk, .junk, .junk, .junk, .junk, .junk, .junk, .junk, .junk, .junk, .junk, .junk, .junk, .d (.sl (encS g.names) g.names.length false none), .d (.int .i64 g.names.length), .d (.int .i64 g.names.length), .junk, .junk, .junk, .junk, .junk, .junk, .junk, .junk, .junk, .junk, .junk, .junk, .junk, .junk, .junk, .junk, .junk, .junk, .junk, .junk, .junk, .junk, .junk, .junk, .junk, .junk, .junk, .junk, .junk, .junk, .junk, .junk, .junk, .junk, .junk, .junk, .junk, .junk, .junk, .junk, .junk, .junk, .junk, .junk, .junk] (sgH g) e t)
    (fun s nx hi => by
      obtain ⟨i, w⟩ := s
      conv => arg 9; arg 4; unfold b26_1
      rcases Nat.lt_or_ge i g.names.length with hl | hl
      · have hlt := hg.1
        have hw : IntKind.i64.wrap ((i : Int) + 1) = (i : Int) + 1 := wrap_i64 (by omega) (by omega)
        have hidx := sindex_ok g.names hlt g.names[i]
        simp [hl, hw, plc_raw, hidx]
        repeat' ((try simp only [condP_ite]); split <;> (try simp only [holdE]) <;> (try simp [*, plc_raw]))
        all_goals exact .next (i + 1, w || badN g.names i g.names[i]) (by omega) (by simp_all [badN, dollarTrue]; try omega) rfl hl (by simp; omega) (by simp [anyI_step hl, Bool.or_assoc, *])
      · obtain rfl : i = g.names.length := Nat.le_antisymm hi hl
        simp
        exact .fin _ _ (by simp only [anyI_end, Bool.or_false]; exact .mk)) (0, w) (Nat.zero_le _)
  have hloop2 := fun w k => loop_rule (P := Try.prog) (pol := plc) (c := b26_0) (m := ⟨[false, false, true, true, false, false, false, false, false, false, false, false, false, false, false, false, false, false, false, false, false, false, false, false, false, false, false, false, false, false, false, false, false, false, false, false, false, false, false, false, false, false, false, false, false, false, false, false, false, false, false, false, false, true, true, true, false, false, false, false, false, false, false, false, false, false, false, false, false, true], some (k + 4)⟩)
    (b := k + 4) (tm := fun (s : Nat × Bool) => [.junk, .junk, .d (.int .i64 0), .d (.bool s.2), .junk, .junk, .junk, .junk, .junk, .junk, .junk, .junk, .junk, .junk, .junk, .junk, .junk, .junk, .junk, .junk, .junk, .junk, .junk, .junk, .junk, .junk, .junk, .junk, .junk, .junk, .junk, .junk, .junk, .junk, .junk, .junk, .junk, .junk, .junk, .junk, .junk, .junk, .junk, .junk, .junk, .junk, .junk, .junk, .junk, .junk, .junk, .junk, .junk, .d (.sl (encI g.weights) g.weights.length false none), .d (.int .i64 g.weights.length), .d (.int .i64 s.1), .junk, .junk, .junk, .junk, .junk, .junk, .junk, .junk, .junk, .junk, .junk, .junk, .junk, .junk]) (Hf := fun _ => sgH g)
    (I := fun s => s.1 ≤ g.weights.length) (μ := fun s => g.weights.length - s.1) (res := fun s => s.2 || anyI (fun _ => badW) g.weights s.1)
    (R := fun r e t => AtExit 2 [.junk, .junk, .d (.int .i64 0), .d (.bool r), .junk, .junk, .junk, .junk, .junk, .junk, .junk, .junk, .junk, .junk, .junk, .junk, .junk, .junk, .junk, .junk, .junk, .junk, .junk, .junk, .junk, .junk, .junk, .junk, .junk, .junk, .junk, .junk, .junk, .junk, .junk, .junk, .junk, .junk, .junk, .junk, .junk, .junk, .junk, .junk, .junk, .junk, .junk, .junk, .junk, .junk, .junk, .junk, .junk, .d (.sl (encI g.weights) g.weights.length false none), .d (.int .i64 g.weights.length), .d (.int .i64 g.weights.length), .junk, .junk, .junk, .junk, .junk, .junk, .junk, .junk, .junk, .junk, .junk, .junk, .junk, .junk] (sgH g) e t)
    (fun s nx hi => by
      clear hloop
      obtain ⟨i, w⟩ := s
      conv => arg 9; arg 4; unfold b26_0
      rcases Nat.lt_or_ge i g.weights.length with hl | hl
      · have hlt := hg.2
        have hw : IntKind.i64.wrap ((i : Int) + 1) = (i : Int) + 1 := wrap_i64 (by omega) (by omega)
        simp [hl, hw, plc_raw]
        repeat' ((try simp only [condP_ite]); split <;> (try simp only [holdE]) <;> (try simp [*, plc_raw]))
        all_goals exact .next (i + 1, w || badW g.weights[i]) (by omega) (by simp_all [badW]; try omega) (by simp) hl (by simp; omega) (by simp [anyI_step hl, Bool.or_assoc, *])
      · obtain rfl : i = g.weights.length := Nat.le_antisymm hi hl
        simp
        exact .fin _ _ (by simp only [anyI_end, Bool.or_false]; exact .mk)) (0, w) (Nat.zero_le _)
  obtain ⟨e1, t1, hrun1, rfl, nx1, rfl⟩ := hloop true
  obtain ⟨e2, t2, hrun2, rfl, nx2, rfl⟩ := hloop (decide (g.names.length < g.weights.length))
  obtain ⟨e3, t3, hrun3, rfl, nx3, rfl⟩ := hloop2 true nx1
  obtain ⟨e4, t4, hrun4, rfl, nx4, rfl⟩ := hloop2 (decide (g.names.length < g.weights.length) || anyI (badN g.names) g.names 0) nx2
  simp at hrun1 hrun2 hrun3 hrun4
  refine pcl_body code26 ?_
  simp [Sg.enc]
  repeat' ((try simp only [condP_ite]); split <;> (try simp only [holdE]) <;> (try simp [*, plc_raw]))
  all_goals (clear hloop hloop2 hrun1 hrun2 hrun3 hrun4; simp_all [Sg.right]; try grind)
theorem size_nil (b : ByteArray) : ((b.size : Int) < 1) ↔ b.toList = [] := by
  rw [ByteArray.toList_eq]
  have : b.data.toList.length = b.size := rfl
  constructor
  · intro h; exact List.eq_nil_of_length_eq_zero (by omega)
  · intro h; rw [h] at this; simp at this; omega
theorem grright_ok (g : Sg) (hg : g.ok) : pcl Cp 22 [.agg g.enc] = some (.bool g.right) := by
  have hloop := loop_rule (P := Try.prog) (pol := plc) (c := b22_1) (m := ⟨[false, true, true, true, true, false, false, false, false, false, false, false, false, false, false, false, false, false, false, false, false, false, false, false, false, false, false, false, false, false, false, false, false, false, false, false, false, false, false, false, false, false, false, false, false, false, false, false, false, false, false, false, false, false, false, false, false, false, false, false, true, true, true, true, true, true, true, true, true, true, true, true, true, true, true, true, true, true, true, true, true], some 16⟩)
    (b := 16) (tm := fun (i : Nat) => [.junk, .ptr (0, 0) 0 2, .d (.bool false), .d (.int .i64 i), .junk, .junk, .junk, .junk, .junk, .junk, .junk, .junk, .junk, .junk, .junk, .junk, .junk, .junk, .junk, .junk, .junk, .junk, .junk, .junk, .junk, .junk, .junk, .junk, .junk, .junk, .junk, .junk, .junk, .junk, .junk, .junk, .junk, .junk, .junk, .junk, .junk, .junk, .junk, .junk, .junk, .junk, .junk, .junk, .junk, .junk, .junk, .junk, .junk, .junk, .junk, .junk, .junk, .junk, .junk, .junk, .junk, .junk, .junk, .junk, .junk, .junk, .junk, .junk, .junk, .junk, .junk, .junk, .junk, .junk, .junk, .junk, .junk, .junk, .junk, .junk, .junk]) (Hf := fun _ => sgH g)
    (I := fun i => i ≤ g.names.length) (μ := fun i => g.names.length - i) (res := fun i => anyI (badN g.names) g.names i)
    (R := fun r e t => if r then AtRet 2 (.d (.bool false)) e t else AtExit 0 [.junk, .ptr (0, 0) 0 2, .d (.bool false), .d (.int .i64 g.names.length), .junk, .junk, .junk, .junk, .junk, .junk, .junk, .junk, .junk, .junk, .junk, .junk, .junk, .junk, .junk, .junk, .junk, .junk, .junk, .junk, .junk, .junk, .junk, .junk, .junk, .junk, .junk, .junk, .junk, .junk, .junk, .junk, .junk, .junk, .junk, .junk, .junk, .junk, .junk, .junk, .junk, .junk, .junk, .junk, .junk, .junk, .junk, .junk, .junk, .junk, .junk, .junk, .junk, .junk, .junk, .junk, .junk, .junk, .junk, .junk, .junk, .junk, .junk, .junk, .junk, .junk, .junk, .junk, .junk, .junk, .junk, .junk, .junk, .junk, .junk, .junk, .junk] (sgH g) e t)
    (fun i nx hi => by
      conv => arg 9; arg 4; unfold b22_1
      rcases Nat.lt_or_ge i g.names.length with hl | hl
      · have hlt := hg.1
        have hw : IntKind.i64.wrap ((i : Int) + 1) = (i : Int) + 1 := wrap_i64 (by omega) (by omega)
        have hidx := rat_ok g.names g.weights hlt g.names[i]
        have hz := size_nil g.names[i]
        simp [hl, hw, plc_raw, hidx]
        repeat' ((try simp only [condP_ite]); split <;> (try simp only [holdE]) <;> (try simp [*, plc_raw]))
        all_goals first
          | exact .fin _ _ (by rw [anyI_step hl, if_pos (by simp_all [badN, dollarTrue])]; exact ⟨rfl, rfl⟩)
          | (exfalso; simp_all; done)
          | exact .next (i + 1) (by omega) rfl rfl hl (by omega) (by rw [anyI_step hl]; simp_all [badN, dollarTrue]; try omega)
      · obtain rfl : i = g.names.length := Nat.le_antisymm hi hl
        simp
        exact .fin _ _ (by rw [anyI_end]; exact .mk)) 0 (Nat.zero_le _)
  obtain ⟨e1, t1, hrun1, hR⟩ := hloop
  simp at hrun1
  refine pcl_body code22 ?_
  simp [Sg.enc]
  cases ha : anyI (badN g.names) g.names 0 <;> simp only [ha, Bool.false_eq_true, if_true, if_false] at hR
  · obtain ⟨rfl, nx1, rfl⟩ := hR
    have hloop2 := loop_rule (P := Try.prog) (pol := plc) (c := b22_0) (m := ⟨[false, true, true, false, true, false, false, false, false, false, false, false, false, false, false, false, false, false, false, false, false, false, false, false, false, false, false, false, false, false, false, false, false, false, false, false, false, false, false, false, false, false, false, false, false, false, false, false, false, false, false, false, false, false, false, false, false, false, false, false, false, false, false, false, false, false, false, false, false, false, false, false, false, false, false, false, false, false, false, false, false], some (nx1 + 1)⟩)
      (b := nx1 + 1) (tm := fun (i : Nat) => [.junk, .ptr (0, 0) 0 2, .d (.bool false), .junk, .d (.int .i64 i), .junk, .junk, .junk, .junk, .junk, .junk, .junk, .junk, .junk, .junk, .junk, .junk, .junk, .junk, .junk, .junk, .junk, .junk, .junk, .junk, .junk, .junk, .junk, .junk, .junk, .junk, .junk, .junk, .junk, .junk, .junk, .junk, .junk, .junk, .junk, .junk, .junk, .junk, .junk, .junk, .junk, .junk, .junk, .junk, .junk, .junk, .junk, .junk, .junk, .junk, .junk, .junk, .junk, .junk, .junk, .junk, .junk, .junk, .junk, .junk, .junk, .junk, .junk, .junk, .junk, .junk, .junk, .junk, .junk, .junk, .junk, .junk, .junk, .junk, .junk, .junk]) (Hf := fun _ => sgH g)
      (I := fun i => i ≤ g.weights.length) (μ := fun i => g.weights.length - i) (res := fun i => anyI (fun _ => badW) g.weights i)
      (R := fun r e t => if r then AtRet 2 (.d (.bool false)) e t else AtExit 2 [.junk, .ptr (0, 0) 0 2, .d (.bool false), .junk, .d (.int .i64 g.weights.length), .junk, .junk, .junk, .junk, .junk, .junk, .junk, .junk, .junk, .junk, .junk, .junk, .junk, .junk, .junk, .junk, .junk, .junk, .junk, .junk, .junk, .junk, .junk, .junk, .junk, .junk, .junk, .junk, .junk, .junk, .junk, .junk, .junk, .junk, .junk, .junk, .junk, .junk, .junk, .junk, .junk, .junk, .junk, .junk, .junk, .junk, .junk, .junk, .junk, .junk, .junk, .junk, .junk, .junk, .junk, .junk, .junk, .junk, .junk, .junk, .junk, .junk, .junk, .junk, .junk, .junk, .junk, .junk, .junk, .junk, .junk, .junk, .junk, .junk, .junk, .junk] (sgH g) e t)
      (fun i nx hi => by
        clear hrun1
        conv => arg 9; arg 4; unfold b22_0
        rcases Nat.lt_or_ge i g.weights.length with hl | hl
        · have hlt := hg.2
          have hw : IntKind.i64.wrap ((i : Int) + 1) = (i : Int) + 1 := wrap_i64 (by omega) (by omega)
          simp [hl, hw, plc_raw]
          repeat' ((try simp only [condP_ite]); split <;> (try simp only [holdE]) <;> (try simp [*, plc_raw]))
          all_goals first
            | exact .fin _ _ (by rw [anyI_step hl, if_pos (by simp_all [badW])]; exact ⟨rfl, rfl⟩)
            | (exfalso; simp_all; done)
            | exact .next (i + 1) (by omega) rfl (by simp) hl (by omega) (by rw [anyI_step hl]; simp_all [badW]; try omega)
        · obtain rfl : i = g.weights.length := Nat.le_antisymm hi hl
          simp
          exact .fin _ _ (by rw [anyI_end]; exact .mk)) 0 (Nat.zero_le _)
    obtain ⟨e2, t2, hrun2, hR2⟩ := hloop2
    simp at hrun2
    cases hb : anyI (fun _ => badW) g.weights 0 <;> simp only [hb, Bool.false_eq_true, if_true, if_false] at hR2
    · obtain ⟨rfl, nx2, rfl⟩ := hR2
      repeat' ((try simp only [condP_ite]); split <;> (try simp only [holdE]) <;> (try simp [*, plc_raw]))
      all_goals (clear hrun1 hrun2; simp_all [Sg.right]; try grind)
    · obtain ⟨rfl, hv⟩ := hR2
      repeat' ((try simp only [condP_ite]); split <;> (try simp only [holdE]) <;> (try simp [*, plc_raw]))
      all_goals (clear hrun1 hrun2; simp_all [Sg.right]; try grind)
  · obtain ⟨rfl, hv⟩ := hR
    repeat' ((try simp only [condP_ite]); split <;> (try simp only [holdE]) <;> (try simp [*, plc_raw]))
    all_goals (clear hrun1; simp_all [Sg.right]; try grind)
end Go.Proofs.Ytfcedichoigbbaa.Am

/-
  Joined texts: AmGw, AmKb, AmKbw, AmKc, AmKp, AmLp, AmLl, AmLw, AmLs, AmSn, AmLt, AmLg, AmLf. No condition.
-/
import Derived.Test.YtfcedichoigbbaaAmPal
/-
  Signatures: what the program's functions and the document's compute of them, as the abstract machine runs them. No condition.
-/
namespace Go.Proofs.Ytfcedichoigbbaa.Am
open Go Go.Proofs
set_option maxHeartbeats 4000000
set_option linter.unusedSimpArgs false

theorem eqS_comm (a b : ByteArray) : eqS a b = eqS b a := by unfold eqS; rw [Bool.eq_iff_iff, beq_iff_eq, beq_iff_eq]; exact ⟨Eq.symm, Eq.symm⟩
theorem sindex_ok (ns : List ByteArray) (hn : ns.length ≤ 9223372036854775807) (s : ByteArray) : pcl Cp 44 [.sl (encS ns) ns.length false none, .str s] = some (.int .i64 (idxS ns s)) := by
  have hloop := loop_rule (P := Try.prog) (pol := plc) (c := b44_0) (m := ⟨[true, true, false, false, true, false, false, true, true, false, false, false, false, false, false, false, false, false, false], some 4⟩)
    (b := 4) (tm := fun (i : Nat) => [.d (.sl (encS ns) ns.length false none), .d (.str s), .junk, .junk, .d (.int .i64 0), .junk, .junk, .d (.int .i64 ns.length), .d (.int .i64 i), .junk, .junk, .junk, .junk, .junk, .junk, .junk, .junk, .junk, .junk]) (Hf := fun _ => fun _ => none)
    (I := fun i => i ≤ ns.length) (μ := fun i => ns.length - i) (res := fun i => fromI (fun n => eqS n s) ns i)
    (R := fun o e t => match o with | some k => AtRet 4 (.d (.int .i64 k)) e t | none => AtExit 0 [.d (.sl (encS ns) ns.length false none), .d (.str s), .junk, .junk, .d (.int .i64 0), .junk, .junk, .d (.int .i64 ns.length), .d (.int .i64 ns.length), .junk, .junk, .junk, .junk, .junk, .junk, .junk, .junk, .junk, .junk] (fun _ => none) e t)
    (fun i nx hi => by
      conv => arg 9; arg 4; unfold b44_0
      rcases Nat.lt_or_ge i ns.length with hl | hl
      · have hw : IntKind.i64.wrap ((i : Int) + 1) = (i : Int) + 1 := wrap_i64 (by omega) (by omega)
        simp [hl, hw]
        simp only [condP_ite]
        split <;> simp only [holdE] <;> simp [*]
        · rename_i hq
          exact .fin _ _ (by rw [fromI_step hl, if_pos (by simp [eqS, hq])]; exact ⟨rfl, rfl⟩)
        · rename_i hq
          exact .next (i + 1) (by omega) rfl rfl hl (by omega) (by rw [fromI_step hl, if_neg (by simp only [eqS, beq_iff_eq]; exact fun e => hq e.symm)])
      · obtain rfl : i = ns.length := Nat.le_antisymm hi hl
        simp
        exact .fin _ _ (by rw [fromI_end]; exact .mk)) 0 (Nat.zero_le _)
  obtain ⟨e, t, h1, h2⟩ := hloop
  refine pcl_body code44 ?_
  simp [fromI_zero] at h1 h2
  simp [h1]
  unfold idxS
  revert h2
  cases ns.findIdx? (fun n => eqS n s) with
  | some k => rintro ⟨rfl, h⟩; simp [h]
  | none => rintro ⟨rfl, nx, rfl⟩; simp
theorem rat_ok (ns : List ByteArray) (ws : List Int) (hn : ns.length ≤ 9223372036854775807) (s : ByteArray) : pcl Cp 40 [.agg [.sl (encS ns) ns.length false none, .sl (encI ws) ws.length false none], .str s] = some (.int .i64 (idxS ns s)) := by
  have hloop := loop_rule (P := Try.prog) (pol := plc) (c := b40_0) (m := ⟨[false, true, true, false, true, true, false, false, false, false, false, false, false, false, false, false, false, false, false, false, false], some 3⟩)
    (b := 3) (tm := fun (i : Nat) => [.junk, .d (.str s), .ptr (0, 0) 0 2, .junk, .d (.int .i64 0), .d (.int .i64 i), .junk, .junk, .junk, .junk, .junk, .junk, .junk, .junk, .junk, .junk, .junk, .junk, .junk, .junk, .junk]) (Hf := fun _ => upd (fun _ => none) (0, 0) (.cells [.d (.sl (encS ns) ns.length false none), .d (.sl (encI ws) ws.length false none)]))
    (I := fun i => i ≤ ns.length) (μ := fun i => ns.length - i) (res := fun i => fromI (fun n => eqS n s) ns i)
    (R := fun o e t => match o with | some k => AtRet 4 (.d (.int .i64 k)) e t | none => AtExit 0 [.junk, .d (.str s), .ptr (0, 0) 0 2, .junk, .d (.int .i64 0), .d (.int .i64 ns.length), .junk, .junk, .junk, .junk, .junk, .junk, .junk, .junk, .junk, .junk, .junk, .junk, .junk, .junk, .junk] (upd (fun _ => none) (0, 0) (.cells [.d (.sl (encS ns) ns.length false none), .d (.sl (encI ws) ws.length false none)])) e t)
    (fun i nx hi => by
      conv => arg 9; arg 4; unfold b40_0
      rcases Nat.lt_or_ge i ns.length with hl | hl
      · have hw : IntKind.i64.wrap ((i : Int) + 1) = (i : Int) + 1 := wrap_i64 (by omega) (by omega)
        simp [hl, hw]
        simp only [condP_ite]
        split <;> simp only [holdE] <;> simp [*]
        · exact .fin _ _ (by rw [fromI_step hl]; simp [eqS, *, AtRet])
        · exact .next (i + 1) (by omega) rfl rfl hl (by omega) (by simp only [fromI_step hl]; simp [eqS, *])
      · obtain rfl : i = ns.length := Nat.le_antisymm hi hl
        simp
        exact .fin _ _ (by rw [fromI_end]; exact .mk)) 0 (Nat.zero_le _)
  obtain ⟨e, t, h1, h2⟩ := hloop
  refine pcl_body code40 ?_
  simp [fromI_zero] at h1 h2
  simp [h1]
  unfold idxS
  revert h2
  cases ns.findIdx? (fun n => eqS n s) with
  | some k => rintro ⟨rfl, h⟩; simp [h]
  | none => rintro ⟨rfl, nx, rfl⟩; simp

theorem rank_ok (g : Sg) (hg : g.ok) (s : ByteArray) : pcl Cp 49 [.agg g.enc, .str s] = some (.int .i64 (g.rank s)) := by
  have h := sindex_ok g.names hg.1 s
  refine pcl_body code49 ?_
  simp [Sg.enc, plc_raw, h]
  repeat' ((try simp only [condP_ite]); split <;> (try simp only [holdE]) <;> (try simp [*, plc_raw]))
  all_goals simp_all [Sg.rank, dollarTrue]
theorem above_ok (g : Sg) (hg : g.ok) (a b : ByteArray) : pcl Cp 31 [.agg g.enc, .str a, .str b] = some (.bool (g.above a b)) := by
  have h1 := rank_ok g hg a
  have h2 := rank_ok g hg b
  refine pcl_body code31 ?_
  simp [Sg.enc] at h1 h2
  simp [Sg.enc, plc_raw, h1, h2]
  repeat' ((try simp only [condP_ite]); split <;> (try simp only [holdE]) <;> (try simp [*, plc_raw]))
  all_goals simp_all [Sg.above, gtS]
theorem rabove_ok (g : Sg) (hg : g.ok) (a b : ByteArray) : pcl Cp 32 [.agg g.enc, .str a, .str b] = some (.bool (g.aboveR a b)) := by
  have h1 := rat_ok g.names g.weights hg.1 a
  have h2 := rat_ok g.names g.weights hg.1 b
  refine pcl_body code32 ?_
  simp [Sg.enc, plc_raw, h1, h2]
  repeat' ((try simp only [condP_ite]); split <;> (try simp only [holdE]) <;> (try simp [*, plc_raw]))
  all_goals simp_all [Sg.aboveR, gtS, dollarTrue]
  all_goals (first | omega | grind)
theorem of_ok (g : Sg) (hg : g.ok) (s : ByteArray) : pcl Cp 70 [.agg g.enc, .str s] = some (.int .i64 (g.of s)) := by
  have h1 := sindex_ok g.names hg.1 s
  refine pcl_body code70 ?_
  simp [Sg.enc, plc_raw, h1]
  rcases idxS_lt (ns := g.names) (s := s) with hi | ⟨k, hi, hk⟩
  · simp [hi]
    repeat' ((try simp only [condP_ite]); split <;> (try simp only [holdE]) <;> (try simp [*, plc_raw]))
    all_goals simp_all [Sg.of]
  · simp [hi]
    by_cases hw : k < g.weights.length
    · have hw' : ¬ (g.weights.length : Int) ≤ (k : Int) := by omega
      repeat' ((try simp only [condP_ite]); split <;> (try simp only [holdE]) <;> (try simp [*, plc_raw]))
      all_goals simp_all [Sg.of]
      all_goals (first | omega | grind)
    · have hw' : (g.weights.length : Int) ≤ (k : Int) := by omega
      repeat' ((try simp only [condP_ite]); split <;> (try simp only [holdE]) <;> (try simp [*, plc_raw]))
      all_goals simp_all [Sg.of]
      all_goals (first | omega | grind)

/-! ### Which signatures are right -/
abbrev sgH (g : Sg) : Hp := upd (fun _ => none) (0, 0) (.cells [.d (.sl (encS g.names) g.names.length false none), .d (.sl (encI g.weights) g.weights.length false none)])
theorem gright_ok (g : Sg) (hg : g.ok) : pcl Cp 26 [.agg g.enc] = some (.int .i64 (if g.right then 0 else 1)) := by
  have hloop := fun w => loop_rule (P := Try.prog) (pol := plc) (c := b26_1) (m := ⟨[false, true, true, true, false, false, false, true, false, false, false, false, false, false, false, false, false, false, false, false, false, false, true, true, true, false, false, false, false, false, false, false, false, false, false, false, false, false, false, false, false, false, false, false, false, false, false, false, false, false, false, false, true, true, true, true, true, true, true, true, true, true, true, true, true, true, true, true, true, true], some 20⟩)
    (b := 20) (tm := fun (s : Nat × Bool) => [.junk, .ptr (0, 0) 0 2, .d (.int .i64 0), .d (.bool s.2), .junk, .junk, .junk, .junk, .junk, .junk, .junk, .junk, .junk, .junk, .junk, .junk, .junk, .junk, .junk, .junk, .junk, .junk, .d (.sl (encS g.names) g.names.length false none), .d (.int .i64 g.names.length), .d (.int .i64 s.1), .junk, .junk, .junk, .junk, .junk, .junk, .junk, .junk, .junk, .junk, .junk, .junk, .junk, .junk, .junk, .junk, .junk, .junk, .junk, .junk, .junk, .junk, .junk, .junk, .junk, .junk, .junk, .junk, .junk, .junk, .junk, .junk, .junk, .junk, .junk, .junk, .junk, .junk, .junk, .junk, .junk, .junk, .junk, .junk, .junk]) (Hf := fun _ => sgH g)
    (I := fun s => s.1 ≤ g.names.length) (μ := fun s => g.names.length - s.1) (res := fun s => s.2 || anyI (badN g.names) g.names s.1)
    (R := fun r e t => AtExit 0 [.junk, .ptr (0, 0) 0 2, .d (.int .i64 0), .d (.bool r), .junk, .junk, .junk, .junk, .junk, .junk, .junk, .junk, .junk, .junk, .junk, .junk, .junk, .junk, .junk, .junk, .junk, .junk, .d (.sl (encS g.names) g.names.length false none), .d (.int .i64 g.names.length), .d (.int .i64 g.names.length), .junk, .junk, .junk, .junk, .junk, .junk, .junk, .junk, .junk, .junk, .junk, .junk, .junk, .junk, .junk, .junk, .junk, .junk, .junk, .junk, .junk, .junk, .junk, .junk, .junk, .junk, .junk, .junk, .junk, .junk, .junk, .junk, .junk, .junk, .junk, .junk, .junk, .junk, .junk, .junk, .junk, .junk, .junk, .junk, .junk] (sgH g) e t)
    (fun s nx hi => by
      obtain ⟨i, w⟩ := s
      conv => arg 9; arg 4; unfold b26_1
      rcases Nat.lt_or_ge i g.names.length with hl | hl
      · have hlt := hg.1
        have hw : IntKind.i64.wrap ((i : Int) + 1) = (i : Int) + 1 := wrap_i64 (by omega) (by omega)
        have hidx := sindex_ok g.names hlt g.names[i]
        simp [hl, hw, plc_raw, hidx]
        repeat' ((try simp only [condP_ite]); split <;> (try simp only [holdE]) <;> (try simp [*, plc_raw]))
        all_goals exact .next (i + 1, w || badN g.names i g.names[i]) (by omega) (by simp_all [badN, dollarTrue]; try omega) rfl hl (by simp; omega) (by simp [anyI_step hl, Bool.or_assoc, *])
      · obtain rfl : i = g.names.length := Nat.le_antisymm hi hl
        simp
        exact .fin _ _ (by simp only [anyI_end, Bool.or_false]; exact .mk)) (0, w) (Nat.zero_le _)
  have hloop2 := fun w k => loop_rule (P := Try.prog) (pol := plc) (c := b26_0) (m := ⟨[false, false, true, true, false, false, false, false, false, false, false, false, false, false, false, false, false, false, false, false, false, false, false, false, false, false, false, false, false, false, false, false, false, false, false, false, false, false, false, false, false, false, false, false, false, false, false, false, false, false, false, false, false, true, true, true, false, false, false, false, false, false, false, false, false, false, false, false, false, true], some (k + 4)⟩)
    (b := k + 4) (tm := fun (s : Nat × Bool) => [.junk, .junk, .d (.int .i64 0), .d (.bool s.2), .junk, .junk, .junk, .junk, .junk, .junk, .junk, .junk, .junk, .junk, .junk, .junk, .junk, .junk, .junk, .junk, .junk, .junk, .junk, .junk, .junk, .junk, .junk, .junk, .junk, .junk, .junk, .junk, .junk, .junk, .junk, .junk, .junk, .junk, .junk, .junk, .junk, .junk, .junk, .junk, .junk, .junk, .junk, .junk, .junk, .junk, .junk, .junk, .junk, .d (.sl (encI g.weights) g.weights.length false none), .d (.int .i64 g.weights.length), .d (.int .i64 s.1), .junk, .junk, .junk, .junk, .junk, .junk, .junk, .junk, .junk, .junk, .junk, .junk, .junk, .junk]) (Hf := fun _ => sgH g)
    (I := fun s => s.1 ≤ g.weights.length) (μ := fun s => g.weights.length - s.1) (res := fun s => s.2 || anyI (fun _ => badW) g.weights s.1)
    (R := fun r e t => AtExit 2 [.junk, .junk, .d (.int .i64 0), .d (.bool r), .junk, .junk, .junk, .junk, .junk, .junk, .junk, .junk, .junk, .junk, .junk, .junk, .junk, .junk, .junk, .junk, .junk, .junk, .junk, .junk, .junk, .junk, .junk, .junk, .junk, .junk, .junk, .junk, .junk, .junk, .junk, .junk, .junk, .junk, .junk, .junk, .junk, .junk, .junk, .junk, .junk, .junk, .junk, .junk, .junk, .junk, .junk, .junk, .junk, .d (.sl (encI g.weights) g.weights.length false none), .d (.int .i64 g.weights.length), .d (.int .i64 g.weights.length), .junk, .junk, .junk, .junk, .junk, .junk, .junk, .junk, .junk, .junk, .junk, .junk, .junk, .junk] (sgH g) e t)
    (fun s nx hi => by
      clear hloop
      obtain ⟨i, w⟩ := s
      conv => arg 9; arg 4; unfold b26_0
      rcases Nat.lt_or_ge i g.weights.length with hl | hl
      · have hlt := hg.2
        have hw : IntKind.i64.wrap ((i : Int) + 1) = (i : Int) + 1 := wrap_i64 (by omega) (by omega)
        simp [hl, hw, plc_raw]
        repeat' ((try simp only [condP_ite]); split <;> (try simp only [holdE]) <;> (try simp [*, plc_raw]))
        all_goals exact .next (i + 1, w || badW g.weights[i]) (by omega) (by simp_all [badW]; try omega) (by simp) hl (by simp; omega) (by simp [anyI_step hl, Bool.or_assoc, *])
      · obtain rfl : i = g.weights.length := Nat.le_antisymm hi hl
        simp
        exact .fin _ _ (by simp only [anyI_end, Bool.or_false]; exact .mk)) (0, w) (Nat.zero_le _)
  obtain ⟨e1, t1, hrun1, rfl, nx1, rfl⟩ := hloop true
  obtain ⟨e2, t2, hrun2, rfl, nx2, rfl⟩ := hloop (decide (g.names.length < g.weights.length))
  obtain ⟨e3, t3, hrun3, rfl, nx3, rfl⟩ := hloop2 true nx1
  obtain ⟨e4, t4, hrun4, rfl, nx4, rfl⟩ := hloop2 (decide (g.names.length < g.weights.length) || anyI (badN g.names) g.names 0) nx2
  simp at hrun1 hrun2 hrun3 hrun4
  refine pcl_body code26 ?_
  simp [Sg.enc]
  repeat' ((try simp only [condP_ite]); split <;> (try simp only [holdE]) <;> (try simp [*, plc_raw]))
  all_goals (clear hloop hloop2 hrun1 hrun2 hrun3 hrun4; simp_all [Sg.right]; try grind)
theorem size_nil (b : ByteArray) : ((b.size : Int) < 1) ↔ b.toList = [] := by
  rw [ByteArray.toList_eq]
  have : b.data.toList.length = b.size := rfl
  constructor
  · intro h; exact List.eq_nil_of_length_eq_zero (by omega)
  · intro h; rw [h] at this; simp at this; omega
theorem grright_ok (g : Sg) (hg : g.ok) : pcl Cp 22 [.agg g.enc] = some (.bool g.right) := by
  have hloop := loop_rule (P := Try.prog) (pol := plc) (c := b22_1) (m := ⟨[false, true, true, true, true, false, false, false, false, false, false, false, false, false, false, false, false, false, false, false, false, false, false, false, false, false, false, false, false, false, false, false, false, false, false, false, false, false, false, false, false, false, false, false, false, false, false, false, false, false, false, false, false, false, false, false, false, false, false, false, true, true, true, true, true, true, true, true, true, true, true, true, true, true, true, true, true, true, true, true, true], some 16⟩)
    (b := 16) (tm := fun (i : Nat) => [.junk, .ptr (0, 0) 0 2, .d (.bool false), .d (.int .i64 i), .junk, .junk, .junk, .junk, .junk, .junk, .junk, .junk, .junk, .junk, .junk, .junk, .junk, .junk, .junk, .junk, .junk, .junk, .junk, .junk, .junk, .junk, .junk, .junk, .junk, .junk, .junk, .junk, .junk, .junk, .junk, .junk, .junk, .junk, .junk, .junk, .junk, .junk, .junk, .junk, .junk, .junk, .junk, .junk, .junk, .junk, .junk, .junk, .junk, .junk, .junk, .junk, .junk, .junk, .junk, .junk, .junk, .junk, .junk, .junk, .junk, .junk, .junk, .junk, .junk, .junk, .junk, .junk, .junk, .junk, .junk, .junk, .junk, .junk, .junk, .junk, .junk]) (Hf := fun _ => sgH g)
    (I := fun i => i ≤ g.names.length) (μ := fun i => g.names.length - i) (res := fun i => anyI (badN g.names) g.names i)
    (R := fun r e t => if r then AtRet 2 (.d (.bool false)) e t else AtExit 0 [.junk, .ptr (0, 0) 0 2, .d (.bool false), .d (.int .i64 g.names.length), .junk, .junk, .junk, .junk, .junk, .junk, .junk, .junk, .junk, .junk, .junk, .junk, .junk, .junk, .junk, .junk, .junk, .junk, .junk, .junk, .junk, .junk, .junk, .junk, .junk, .junk, .junk, .junk, .junk, .junk, .junk, .junk, .junk, .junk, .junk, .junk, .junk, .junk, .junk, .junk, .junk, .junk, .junk, .junk, .junk, .junk, .junk, .junk, .junk, .junk, .junk, .junk, .junk, .junk, .junk, .junk, .junk, .junk, .junk, .junk, .junk, .junk, .junk, .junk, .junk, .junk, .junk, .junk, .junk, .junk, .junk, .junk, .junk, .junk, .junk, .junk, .junk] (sgH g) e t)
    (fun i nx hi => by
      conv => arg 9; arg 4; unfold b22_1
      rcases Nat.lt_or_ge i g.names.length with hl | hl
      · have hlt := hg.1
        have hw : IntKind.i64.wrap ((i : Int) + 1) = (i : Int) + 1 := wrap_i64 (by omega) (by omega)
        have hidx := rat_ok g.names g.weights hlt g.names[i]
        have hz := size_nil g.names[i]
        simp [hl, hw, plc_raw, hidx]
        repeat' ((try simp only [condP_ite]); split <;> (try simp only [holdE]) <;> (try simp [*, plc_raw]))
        all_goals first
          | exact .fin _ _ (by rw [anyI_step hl, if_pos (by simp_all [badN, dollarTrue])]; exact ⟨rfl, rfl⟩)
          | (exfalso; simp_all; done)
          | exact .next (i + 1) (by omega) rfl rfl hl (by omega) (by rw [anyI_step hl]; simp_all [badN, dollarTrue]; try omega)
      · obtain rfl : i = g.names.length := Nat.le_antisymm hi hl
        simp
        exact .fin _ _ (by rw [anyI_end]; exact .mk)) 0 (Nat.zero_le _)
  obtain ⟨e1, t1, hrun1, hR⟩ := hloop
  simp at hrun1
  refine pcl_body code22 ?_
  simp [Sg.enc]
  cases ha : anyI (badN g.names) g.names 0 <;> simp only [ha, Bool.false_eq_true, if_true, if_false] at hR
  · obtain ⟨rfl, nx1, rfl⟩ := hR
    have hloop2 := loop_rule (P := Try.prog) (pol := plc) (c := b22_0) (m := ⟨[false, true, true, false, true, false, false, false, false, false, false, false, false, false, false, false, false, false, false, false, false, false, false, false, false, false, false, false, false, false, false, false, false, false, false, false, false, false, false, false, false, false, false, false, false, false, false, false, false, false, false, false, false, false, false, false, false, false, false, false, false, false, false, false, false, false, false, false, false, false, false, false, false, false, false, false, false, false, false, false, false], some (nx1 + 1)⟩)
      (b := nx1 + 1) (tm := fun (i : Nat) => [.junk, .ptr (0, 0) 0 2, .d (.bool false), .junk, .d (.int .i64 i), .junk, .junk, .junk, .junk, .junk, .junk, .junk, .junk, .junk, .junk, .junk, .junk, .junk, .junk, .junk, .junk, .junk, .junk, .junk, .junk, .junk, .junk, .junk, .junk, .junk, .junk, .junk, .junk, .junk, .junk, .junk, .junk, .junk, .junk, .junk, .junk, .junk, .junk, .junk, .junk, .junk, .junk, .junk, .junk, .junk, .junk, .junk, .junk, .junk, .junk, .junk, .junk, .junk, .junk, .junk, .junk, .junk, .junk, .junk, .junk, .junk, .junk, .junk, .junk, .junk, .junk, .junk, .junk, .junk, .junk, .junk, .junk, .junk, .junk, .junk, .junk]) (Hf := fun _ => sgH g)
      (I := fun i => i ≤ g.weights.length) (μ := fun i => g.weights.length - i) (res := fun i => anyI (fun _ => badW) g.weights i)
      (R := fun r e t => if r then AtRet 2 (.d (.bool false)) e t else AtExit 2 [.junk, .ptr (0, 0) 0 2, .d (.bool false), .junk, .d (.int .i64 g.weights.length), .junk, .junk, .junk, .junk, .junk, .junk, .junk, .junk, .junk, .junk, .junk, .junk, .junk, .junk, .junk, .junk, .junk, .junk, .junk, .junk, .junk, .junk, .junk, .junk, .junk, .junk, .junk, .junk, .junk, .junk, .junk, .junk, .junk, .junk, .junk, .junk, .junk, .junk, .junk, .junk, .junk, .junk, .junk, .junk, .junk, .junk, .junk, .junk, .junk, .junk, .junk, .junk, .junk, .junk, .junk, .junk, .junk, .junk, .junk, .junk, .junk, .junk, .junk, .junk, .junk, .junk, .junk, .junk, .junk, .junk, .junk, .junk, .junk, .junk, .junk, .junk] (sgH g) e t)
      (fun i nx hi => by
        clear hrun1
        conv => arg 9; arg 4; unfold b22_0
        rcases Nat.lt_or_ge i g.weights.length with hl | hl
        · have hlt := hg.2
          have hw : IntKind.i64.wrap ((i : Int) + 1) = (i : Int) + 1 := wrap_i64 (by omega) (by omega)
          simp [hl, hw, plc_raw]
          repeat' ((try simp only [condP_ite]); split <;> (try simp only [holdE]) <;> (try simp [*, plc_raw]))
          all_goals first
            | exact .fin _ _ (by rw [anyI_step hl, if_pos (by simp_all [badW])]; exact ⟨rfl, rfl⟩)
            | (exfalso; simp_all; done)
            | exact .next (i + 1) (by omega) rfl (by simp) hl (by omega) (by rw [anyI_step hl]; simp_all [badW]; try omega)
        · obtain rfl : i = g.weights.length := Nat.le_antisymm hi hl
          simp
          exact .fin _ _ (by rw [anyI_end]; exact .mk)) 0 (Nat.zero_le _)
    obtain ⟨e2, t2, hrun2, hR2⟩ := hloop2
    simp at hrun2
    cases hb : anyI (fun _ => badW) g.weights 0 <;> simp only [hb, Bool.false_eq_true, if_true, if_false] at hR2
    · obtain ⟨rfl, nx2, rfl⟩ := hR2
      repeat' ((try simp only [condP_ite]); split <;> (try simp only [holdE]) <;> (try simp [*, plc_raw]))
      all_goals (clear hrun1 hrun2; simp_all [Sg.right]; try grind)
    · obtain ⟨rfl, hv⟩ := hR2
      repeat' ((try simp only [condP_ite]); split <;> (try simp only [holdE]) <;> (try simp [*, plc_raw]))
      all_goals (clear hrun1 hrun2; simp_all [Sg.right]; try grind)
  · obtain ⟨rfl, hv⟩ := hR
    repeat' ((try simp only [condP_ite]); split <;> (try simp only [holdE]) <;> (try simp [*, plc_raw]))
    all_goals (clear hrun1; simp_all [Sg.right]; try grind)
end Go.Proofs.Ytfcedichoigbbaa.Am

/-
  Maps of counts; weights. No condition.
-/
namespace Go.Proofs.Ytfcedichoigbbaa.Am
open Go

/-- A map from numbers to numbers, as it stands after insertions: the stamp is the place. -/
def encMi (i : Nat) : List (Int × Int) → List (D × AV × Nat)
  | [] => []
  | (u, n) :: r => (.int .i64 u, .d (.int .i64 n), i) :: encMi (i + 1) r
@[simp] theorem encMi_len : ∀ (i : Nat) (m : List (Int × Int)), (encMi i m).length = m.length
  | _, [] => rfl
  | i, _ :: r => by simp [encMi, encMi_len]
def encM (m : List (Int × Int)) : Am.Obj := .mp (false, [.int .i64]) (encMi 0 m) m.length
def bump : List (Int × Int) → Int → Int → List (Int × Int)
  | [], v, k => [(v, IntKind.i64.wrap (0 + k))]
  | (u, n) :: r, v, k => if v = u then (v, IntKind.i64.wrap (n + k)) :: r else (u, n) :: bump r v k
/-- What is found at a key, what is stored there. -/
theorem bump_spec (v k : Int) : ∀ (m : List (Int × Int)) (i : Nat),
    (∃ j n, findK (.int .i64 v) (encMi i m) i = some (i + j, .d (.int .i64 n), i + j) ∧ stampAt ((i + j : Nat) : Int) (encMi i m) i = some (i + j, .int .i64 v) ∧ (encMi i m).set j (.int .i64 v, .d (.int .i64 (IntKind.i64.wrap (n + k))), i + j) = encMi i (bump m v k) ∧ (bump m v k).length = m.length) ∨
    (findK (.int .i64 v) (encMi i m) i = none ∧ (∀ z, stampAt ((i + m.length : Nat) : Int) (encMi i m ++ [(.int .i64 v, z, i + m.length)]) i = some (i + m.length, .int .i64 v)) ∧
      (∀ z, (encMi i m ++ [((D.int .i64 v), z, i + m.length)]).set m.length (.int .i64 v, .d (.int .i64 (IntKind.i64.wrap (0 + k))), i + m.length) = encMi i (bump m v k)) ∧ (bump m v k).length = m.length + 1)
  | [], i => .inr ⟨rfl, fun z => by simp [encMi, stampAt], fun z => by simp [encMi, bump], rfl⟩
  | (u, n) :: r, i => by
    by_cases h : v = u
    · subst h
      exact .inl ⟨0, n, by simp [encMi, findK, eqD, eq1], by simp [encMi, stampAt], by simp [encMi, bump], by simp [bump]⟩
    · have h2 : ¬ (((i : Int)) = ((i + 1 + r.length : Nat) : Int)) := by omega
      rcases bump_spec v k r (i + 1) with ⟨j, n', h1, h3, h4, h5⟩ | ⟨h1, h3, h4, h5⟩
      · refine .inl ⟨j + 1, n', ?_, ?_, ?_, ?_⟩
        · have he : ¬ eqD (D.int .i64 v) (D.int .i64 u) = true := by simpa [eqD, eq1] using h
          simp only [encMi, findK, if_neg he, h1]
          simp; omega
        · simp only [encMi, stampAt]
          rw [if_neg (by omega)]
          rw [show i + (j + 1) = i + 1 + j by omega]
          exact h3
        · simp only [encMi, List.set_cons_succ, bump, if_neg h]
          rw [show i + (j + 1) = i + 1 + j by omega, h4]
        · simp [bump, if_neg h, h5]
      · refine .inr ⟨?_, fun z => ?_, fun z => ?_, ?_⟩
        · have he : ¬ eqD (D.int .i64 v) (D.int .i64 u) = true := by simpa [eqD, eq1] using h
          simp only [encMi, findK, if_neg he, h1]
        · simp only [encMi, List.cons_append, stampAt, List.length_cons]
          rw [if_neg (by omega)]
          rw [show i + (r.length + 1) = i + 1 + r.length by omega]
          exact h3 z
        · simp only [encMi, List.cons_append, List.length_cons, List.set_cons_succ, bump, if_neg h]
          rw [show i + (r.length + 1) = i + 1 + r.length by omega, h4]
        · simp [bump, if_neg h, h5]

/-! ### What the program computes of a term: its weight, and the counts of its variables -/
mutual
def Term.loadW (g : Sg) (k : Int) : Term → List (Int × Int) → Int × List (Int × Int)
  | .mk v fn args, m => loadWL g k (g.of fn) (if fn.toList = [] then bump m v k else m) args
def loadWL (g : Sg) (k : Int) (acc : Int) (m : List (Int × Int)) : List Term → Int × List (Int × Int)
  | [] => (acc, m)
  | t :: r => loadWL g k (IntKind.i64.wrap (acc + (t.loadW g k m).1)) (t.loadW g k m).2 r
end
end Go.Proofs.Ytfcedichoigbbaa.Am

/-
  Weights and counts: what the program's function does to a map, as the abstract machine runs it. No condition.
-/
namespace Go.Proofs.Ytfcedichoigbbaa.Am
open Go Go.Proofs
set_option maxHeartbeats 4000000
set_option linter.unusedSimpArgs false

theorem upd_old {o : Oid} {i : Nat} (h : o.1 < i) (j : Nat) (x : Am.Obj) (H : Hp) : upd H (i, j) x o = H o := by
  simp only [upd]; rw [if_neg]; intro e; rw [e] at h; simp at h
/-- A call that answers a value, turns one object and leaves the others that are older than a number. -/
def Does (f : FuncId) (args : List AV) (o : Oid) (x y : Am.Obj) (v : AV) : Prop :=
  ∀ H nx, o.1 < nx → H o = some x → ∃ q : Hp × Nat, acall Try.prog plc f args H nx = some (v, q.1, q.2) ∧ nx ≤ q.2 ∧ q.1 o = some y ∧ ∀ p, p.1 < nx → p ≠ o → q.1 p = H p
/-- Its answers as functions. -/
theorem Does.fn {f : FuncId} {args : List AV} {o : Oid} {x y : Am.Obj} {v : AV} (h : Does f args o x y v) :
    ∃ (F : Hp → Nat → Hp) (N : Hp → Nat → Nat), ∀ H nx, o.1 < nx → H o = some x → acall Try.prog plc f args H nx = some (v, F H nx, N H nx) ∧ nx ≤ N H nx ∧ F H nx o = some y ∧ ∀ p, p.1 < nx → p ≠ o → F H nx p = H p := by
  have h2 : ∀ z : Hp × Nat, ∃ q : Hp × Nat, o.1 < z.2 → z.1 o = some x → acall Try.prog plc f args z.1 z.2 = some (v, q.1, q.2) ∧ z.2 ≤ q.2 ∧ q.1 o = some y ∧ ∀ p, p.1 < z.2 → p ≠ o → q.1 p = z.1 p := fun z => by
    by_cases h1 : o.1 < z.2 ∧ z.1 o = some x
    · obtain ⟨q, hq⟩ := h z.1 z.2 h1.1 h1.2
      exact ⟨q, fun _ _ => hq⟩
    · exact ⟨default, fun a b => absurd ⟨a, b⟩ h1⟩
  obtain ⟨G, hG⟩ := Classical.skolem.1 h2
  exact ⟨fun H nx => (G (H, nx)).1, fun H nx => (G (H, nx)).2, fun H nx a b => hG (H, nx) a b⟩

theorem below_lt {k : Nat} {H : Hp} {p : Oid} (h : p.1 < k) : below k H p = H p := by simp only [below]; rw [if_pos h]
theorem load_ok (g : Sg) (hg : g.ok) (k : Int) (o : Oid) (t : Term) : t.ok → ∀ m, Does 47 [.d (.agg g.enc), .d (.agg t.enc), .d (.int .i64 k), .map o] o (encM m) (encM (t.loadW g k m).2) (.d (.int .i64 (t.loadW g k m).1)) := by
  refine Term.ind (p := fun t => t.ok → ∀ m, Does 47 [.d (.agg g.enc), .d (.agg t.enc), .d (.int .i64 k), .map o] o (encM m) (encM (t.loadW g k m).2) (.d (.int .i64 (t.loadW g k m).1))) (fun v fn ts ih h m => ?_) t
  intro H nx hlt ho
  have hn := h.1
  have hof := of_ok g hg fn
  simp only [Sg.enc] at hof
  have hne : ∀ k j x H', upd H' (nx + k, j) x o = H' o := fun k j x H' => upd_old (by omega) j x H'
  have hne0 : ∀ j x H', upd H' (nx, j) x o = H' o := fun j x H' => upd_old hlt j x H'
  -- the loop
  have hloop := fun (b : Nat) (hb : nx + 1 < b) (H1 : Hp) (hH1 : H1 (nx, 0) = some (.cells [.d (.sl (encS g.names) g.names.length false none), .d (.sl (encI g.weights) g.weights.length false none)])) (m0 : List (Int × Int)) (h0 : H1 o = some (encM m0)) =>
    loop_rule (P := Try.prog) (pol := plc) (c := b47_0) (m := ⟨[false, false, true, true, true, false, false, false, true, true, false, false, false, false, false, false, false, false, false, false, false, false, false, false, false, false, true, true, true, false, false, false, false, false, false, false, false, false, false, false, true], some b⟩)
    (b := b) (tm := fun (s : Nat × Int × List (Int × Int) × Hp) => [.junk, .junk, .d (.int .i64 k), .map o, .ptr (nx, 0) 0 2, .junk, .junk, .junk, .d (.int .i64 0), .d (.int .i64 s.2.1), .junk, .junk, .junk, .junk, .junk, .junk, .junk, .junk, .junk, .junk, .junk, .junk, .junk, .junk, .junk, .junk, .d (.sl (encL ts) ts.length false none), .d (.int .i64 ts.length), .d (.int .i64 s.1), .junk, .junk, .junk, .junk, .junk, .junk, .junk, .junk, .junk, .junk, .junk, .junk]) (Hf := fun s => s.2.2.2)
    (I := fun s => s.1 ≤ ts.length ∧ s.2.2.2 o = some (encM s.2.2.1) ∧ ∀ p, p.1 < b → p ≠ o → s.2.2.2 p = H1 p) (μ := fun s => ts.length - s.1) (res := fun s => loadWL g k s.2.1 s.2.2.1 (ts.drop s.1))
    (R := fun r e t => ∃ H2 nx2, e = .exit 0 ∧ t = ⟨[.junk, .junk, .d (.int .i64 k), .map o, .ptr (nx, 0) 0 2, .junk, .junk, .junk, .d (.int .i64 0), .d (.int .i64 r.1), .junk, .junk, .junk, .junk, .junk, .junk, .junk, .junk, .junk, .junk, .junk, .junk, .junk, .junk, .junk, .junk, .d (.sl (encL ts) ts.length false none), .d (.int .i64 ts.length), .d (.int .i64 ts.length), .junk, .junk, .junk, .junk, .junk, .junk, .junk, .junk, .junk, .junk, .junk, .junk], H2, nx2⟩ ∧ b ≤ nx2 ∧ H2 o = some (encM r.2) ∧ ∀ p, p.1 < b → p ≠ o → H2 p = H1 p)
    (fun s nx1 hi => by
      obtain ⟨i, acc, m1, HH⟩ := s
      obtain ⟨hi, hHo, hHH⟩ := hi
      simp only at hi hHo hHH
      have hnx : (nx, 0) ≠ o := fun e => by rw [← e] at hlt; simp at hlt
      have hHn := (hHH (nx, 0) (by simp; omega) hnx).trans hH1
      rcases Nat.lt_or_ge i ts.length with hl | hl
      · obtain ⟨v1, fn1, args, a⟩ := at_ok hn hl
        obtain ⟨F, N, hF⟩ := (ih _ a.mem (okL_mem h.2 _ a.mem) m1).fn
        have hne1 : ∀ k j x H', upd H' (nx1 + (b + k), j) x o = H' o := fun k j x H' => upd_old (by omega) j x H'
        have hne2 : ∀ j x H', upd H' (nx1 + b, j) x o = H' o := fun j x H' => upd_old (by omega) j x H'
        have hlo : ∀ k, o.1 < nx1 + (b + k) := fun k => by omega
        have hnx1 : ∀ k j x H', upd H' (nx1 + (b + k), j) x (nx, 0) = H' (nx, 0) := fun k j x H' => upd_old (o := (nx, 0)) (by simp; omega) j x H'
        simp [Term.enc, Sg.enc] at hF
        have hFc := fun H nx h1 h2 => (hF H nx h1 h2).1
        conv => arg 9; arg 4; unfold b47_0
        simp [a.lti, a.sz, a.ltm, a.cells, a.le3, plc_raw, a.w, Nat.add_assoc, hne1, hne2, hlo, hnx1, hHn, hFc, hHo]
        have h4 := hF _ (nx1 + (b + 13)) (hlo 13) (show (upd (upd HH (nx1 + (b + 3), 3) .vnil) (nx1 + (b + 3), 0) (.cells [.d (.int .i64 v1), .d (.str fn1), .d (.sl (encL args) args.length false none)])) o = _ by simp [hne1, hHo])
        refine .next (i + 1, IntKind.i64.wrap (acc + ((Term.mk v1 fn1 args).loadW g k m1).1), ((Term.mk v1 fn1 args).loadW g k m1).2, _) ?_ rfl rfl ⟨hl, ?_, ?_⟩ (by simp; omega) (by simp only [a.dr, loadWL])
        · refine Nat.le_trans (Nat.le_trans ?_ h4.2.1) (Nat.le_add_right _ _)
          omega
        · exact (below_lt (by omega)).trans h4.2.2.1
        · intro a c hp hpo
          refine (below_lt (p := (a, c)) hp).trans ((h4.2.2.2 a c (by omega) hpo).trans ?_)
          rw [upd_old (o := (a, c)) (by simp; omega), upd_old (o := (a, c)) (by simp; omega)]
          exact hHH (a, c) hp hpo
      · obtain rfl : i = ts.length := Nat.le_antisymm hi hl
        have hr : loadWL g k acc m1 (ts.drop ts.length) = (acc, m1) := by simp only [List.drop_length, loadWL]
        simp [b47_0]
        refine .fin _ _ ?_
        simp only [hr]
        exact ⟨trivial, _, _, rfl, by omega, (below_lt (by omega)).trans hHo, fun a c hp hpo => (below_lt (p := (a, c)) hp).trans (hHH (a, c) hp hpo)⟩) (0, g.of fn, m0, H1) ⟨Nat.zero_le _, h0, fun _ _ _ => rfl⟩
  have hno : ∀ k j x H', upd H' o x (nx + k, j) = H' (nx + k, j) := fun k j x H' => by
    simp only [upd]; rw [if_neg]; rintro rfl; simp at hlt; omega
  have hno0 : ∀ j x H', upd H' o x (nx, j) = H' (nx, j) := fun j x H' => by
    simp only [upd]; rw [if_neg]; rintro rfl; simp at hlt
  by_cases hv : fn.toList = []
  · have hr : Term.loadW g k (Term.mk v fn ts) m = loadWL g k (g.of fn) (bump m v k) (ts.drop 0) := by simp [Term.loadW, hv]
    rw [hr]
    obtain ⟨e, t, hrun, H2, nx2, rfl, rfl, hnx2, hH2, hHf⟩ := hloop (nx + 22) (by omega) (upd (upd (upd H (nx, 0) (.cells [.d (.sl (encS g.names) g.names.length false none), .d (.sl (encI g.weights) g.weights.length false none)])) (nx + 1, 0) (.cells [.d (.int .i64 v), .d (.str fn), .d (.sl (encL ts) ts.length false none)])) o (encM (bump m v k))) (by rw [hno0]; simp [upd]) (bump m v k) (by simp)
    refine ⟨(H2, nx2 + 2), acall_body code47 ?_, by simp; omega, hH2, fun p hp hpo => (hHf p (by omega) hpo).trans (by rw [show upd _ o (encM (bump m v k)) p = _ from if_neg hpo, upd_old (by omega), upd_old (by omega)])⟩
    simp [encM] at hrun
    rcases bump_spec v k m 0 with ⟨j, n, h1, h2, h3, h4⟩ | ⟨h1, h2, h3, h4⟩
    · simp at h3
      rw [h4] at hrun
      simp [plc_raw, hv, hof, hlt, Term.enc, Sg.enc, Nat.add_assoc, hne, hne0, ho, hno, hno0, encM, h1, h2, h3, hrun]
    · simp at h3
      rw [h4] at hrun
      simp [plc_raw, hv, hof, hlt, Term.enc, Sg.enc, Nat.add_assoc, hne, hne0, ho, hno, hno0, encM, h1, h2, h3, hrun]
  · obtain ⟨e, t, hrun, H2, nx2, rfl, rfl, hnx2, hH2, hHf⟩ := hloop (nx + 15) (by omega) (upd (upd H (nx, 0) (.cells [.d (.sl (encS g.names) g.names.length false none), .d (.sl (encI g.weights) g.weights.length false none)])) (nx + 1, 0) (.cells [.d (.int .i64 v), .d (.str fn), .d (.sl (encL ts) ts.length false none)])) (by simp [upd]) m (by rw [hne, hne0]; exact ho)
    have hr : Term.loadW g k (Term.mk v fn ts) m = loadWL g k (g.of fn) m (ts.drop 0) := by simp [Term.loadW, hv]
    rw [hr]
    refine ⟨(H2, nx2 + 2), acall_body code47 ?_, by simp; omega, hH2, fun p hp hpo => ?_⟩
    · simp at hrun
      simp [plc_raw, hv, hof, hlt, Term.enc, Sg.enc, Nat.add_assoc, hrun]
    · exact (hHf p (by omega) hpo).trans (by rw [upd_old (by omega), upd_old (by omega)])
end Go.Proofs.Ytfcedichoigbbaa.Am

/-
  The order of Knuth and Bendix: what the program's function computes. No condition.
-/
namespace Go.Proofs.Ytfcedichoigbbaa.Am
open Go Go.Proofs
set_option maxHeartbeats 4000000
set_option linter.unusedSimpArgs false

theorem encMi_stamps : ∀ (m : List (Int × Int)) (i : Nat), (encMi i m).map (·.2.2) = List.range' i m.length
  | [], _ => rfl
  | (u, n) :: r, i => by simp [encMi, encMi_stamps r (i + 1), List.range'_succ]
theorem valsOf_enc : ∀ (m : List (Int × Int)) (i : Nat), valsOf (encMi i m) = some (m.map (·.2))
  | [], _ => rfl
  | (u, n) :: r, i => by simp [encMi, valsOf, valsOf_enc r (i + 1)]
theorem holeG_ok {o : Oid} {m : List (Int × Int)} {H : Hp} {nx : Nat} (h : H o = some (encM m)) (y0 y1 y2 y3 y4 y5 y6 y8 : AV) (r : List AV) (hr : r.length = 105) :
    holeG ⟨y0 :: y1 :: y2 :: y3 :: y4 :: y5 :: y6 :: .map o :: y8 :: .d (.bool false) :: .d (.bool false) :: r, H, nx⟩ =
      some (.normal, ⟨y0 :: y1 :: y2 :: y3 :: y4 :: y5 :: y6 :: .map o :: y8 :: .d (.bool (m.any fun q => decide (0 < q.2))) :: .d (.bool (m.any fun q => decide (q.2 < 0))) :: List.replicate 105 .junk, H, nx⟩) := by
  simp only [holeG, h, encM, hr, encMi_stamps, encMi_len, List.range_eq_range', valsOf_enc, Nat.le_refl, and_self, if_true, Option.map_some, List.any_map]
  rfl

/-- The place of the first arguments that are not the same. -/
def firstL : List Term → List Term → Option Nat
  | t :: r, u :: s => if t.sameB u then (firstL r s).map (· + 1) else some 0
  | _, _ => none
def sideI (b : Bool) : Int := if b then 1 else -1
mutual
def Term.kcmp (g : Sg) : Term → Term → Int
  | .mk v1 f1 a1, .mk v2 f2 a2 =>
    if (Term.mk v1 f1 a1).sameB (.mk v2 f2 a2) then 0 else
    let x := (Term.mk v1 f1 a1).loadW g 1 []
    let y := (Term.mk v2 f2 a2).loadW g (-1) x.2
    let d := IntKind.i64.wrap (x.1 - y.1)
    let out : Int := if 0 < d then 1 else if d < 0 then -1 else if f1.toList = [] ∨ f2.toList = [] then 2 else if f1.toList ≠ f2.toList then sideI (g.above f1 f2)
      else if a1.length ≠ a2.length then sideI (decide (a1.length > a2.length)) else kcmpL g a1 a2
    if (out = 1 ∧ y.2.any (fun q => decide (q.2 < 0)) = true) ∨ (out = -1 ∧ y.2.any (fun q => decide (0 < q.2)) = true) then 2 else out
def kcmpL (g : Sg) : List Term → List Term → Int
  | t :: r, u :: s => if t.sameB u then kcmpL g r s else t.kcmp g u
  | _, _ => 2
end
theorem kcmpL_first (g : Sg) : ∀ (a b : List Term) (i : Nat), firstL a b = some i → ∃ t u, a[i]? = some t ∧ b[i]? = some u ∧ kcmpL g a b = t.kcmp g u
  | t :: r, u :: s, i, h => by
    simp only [firstL] at h
    by_cases hs : t.sameB u = true
    · rw [if_pos hs] at h
      simp only [Option.map_eq_some_iff] at h
      obtain ⟨j, hj, rfl⟩ := h
      obtain ⟨t', u', h1, h2, h3⟩ := kcmpL_first g r s j hj
      exact ⟨t', u', by simpa using h1, by simpa using h2, by simp only [kcmpL, if_pos hs, h3]⟩
    · rw [if_neg hs] at h
      cases h
      exact ⟨t, u, rfl, rfl, by simp only [kcmpL, if_neg hs]⟩
  | [], _, _, h => by simp [firstL] at h
  | _ :: _, [], _, h => by simp [firstL] at h

theorem side_ok (b : Bool) : pcl Cp 66 [.bool b] = some (.int .i64 (sideI b)) := by
  refine pcl_body code66 ?_
  cases b <;> simp [sideI]

def optI : Option Nat → Int
  | some i => i
  | none => -1
def firstI (a b : List Term) (i : Nat) : Int := optI ((firstL (a.drop i) (b.drop i)).map (· + i))
theorem first_loop (v0 : Int) (fn0 : ByteArray) (v00 : Int) (fn00 : ByteArray) (ts us : List Term) (hn : ts.length ≤ 9223372036854775807) (hlen : us.length = ts.length) (hok : okL ts) (hok2 : okL us) :
    ∃ e t, aloop Try.prog plc b67_0 ⟨[false, false, true, true, true, true, false, false, false, true, true, false, false, false, false, false, false, false, false, false, false, false, false, false, false, false, false, true], some 8⟩ ⟨[.junk, .junk, .ptr (0, 0) 0 3, .ptr (1, 0) 0 3, .d (.int .i64 0), .d (.int .i64 (-1)), .junk, .junk, .junk, .d (.int .i64 ts.length), .d (.int .i64 0), .junk, .junk, .junk, .junk, .junk, .junk, .junk, .junk, .junk, .junk, .junk, .junk, .junk, .junk, .junk, .junk, .junk], termH2 v0 fn0 ts v00 fn00 us, 8⟩ = some (e, t) ∧
      ∃ i' : Int, AtExit 0 [.junk, .junk, .ptr (0, 0) 0 3, .ptr (1, 0) 0 3, .d (.int .i64 0), .d (.int .i64 (firstI ts us 0)), .junk, .junk, .junk, .d (.int .i64 ts.length), .d (.int .i64 i'), .junk, .junk, .junk, .junk, .junk, .junk, .junk, .junk, .junk, .junk, .junk, .junk, .junk, .junk, .junk, .junk, .junk] (termH2 v0 fn0 ts v00 fn00 us) e t := by
  refine loop_rule (b := 8) (tm := fun (i : Nat) => [.junk, .junk, .ptr (0, 0) 0 3, .ptr (1, 0) 0 3, .d (.int .i64 0), .d (.int .i64 (-1)), .junk, .junk, .junk, .d (.int .i64 ts.length), .d (.int .i64 i), .junk, .junk, .junk, .junk, .junk, .junk, .junk, .junk, .junk, .junk, .junk, .junk, .junk, .junk, .junk, .junk, .junk]) (Hf := fun _ => termH2 v0 fn0 ts v00 fn00 us)
    (I := fun i => i ≤ ts.length) (μ := fun i => ts.length - i) (res := fun i => firstI ts us i) (R := fun r e t => ∃ i' : Int, AtExit 0 [.junk, .junk, .ptr (0, 0) 0 3, .ptr (1, 0) 0 3, .d (.int .i64 0), .d (.int .i64 r), .junk, .junk, .junk, .d (.int .i64 ts.length), .d (.int .i64 i'), .junk, .junk, .junk, .junk, .junk, .junk, .junk, .junk, .junk, .junk, .junk, .junk, .junk, .junk, .junk, .junk, .junk] (termH2 v0 fn0 ts v00 fn00 us) e t)
    (fun i nx hi => ?_) 0 (Nat.zero_le _)
  rcases Nat.lt_or_ge i ts.length with hl | hl
  · obtain ⟨v, fn, args, a⟩ := at_ok hn hl
    obtain ⟨v2, fn2, args2, b⟩ := at_ok (ts := us) (by omega) (i := i) (by omega)
    have hcall := same_ok _ (okL_mem hok _ a.mem) _ (okL_mem hok2 _ b.mem)
    simp [Term.enc] at hcall
    have bsz := b.sz
    have bltm := b.ltm
    have ble3 := b.le3
    rw [hlen] at bsz bltm ble3
    conv => arg 9; arg 4; unfold b67_0
    cases hp : (Term.mk v fn args).sameB (.mk v2 fn2 args2) <;> rw [hp] at hcall <;> simp [a.lti, a.sz, a.ltm, a.cells, a.le3, b.cells, bsz, bltm, ble3, hlen, plc_raw, hcall, a.w, termH2]
    · refine .fin _ _ ⟨i, ?_⟩
      rw [show firstI ts us i = i by simp [firstI, a.dr, b.dr, firstL, hp, optI]]
      exact .mk
    · refine .next (i + 1) (by simp) (by simp) (by simp [termH2, hlen]) hl (by omega) ?_
      simp only [firstI, a.dr, b.dr, firstL, hp, if_true]
      cases firstL (ts.drop (i + 1)) (us.drop (i + 1)) <;> simp [optI]; omega
  · obtain rfl : i = ts.length := Nat.le_antisymm hi hl
    simp [b67_0, termH2, hlen]
    refine .fin _ _ ⟨ts.length, ?_⟩
    rw [show firstI ts us ts.length = -1 by simp [firstI, firstL, optI]]
    exact .mk
theorem first_ok (v1 : Int) (f1 : ByteArray) (a1 : List Term) (h1 : (Term.mk v1 f1 a1).ok) (v2 : Int) (f2 : ByteArray) (a2 : List Term) (h2 : (Term.mk v2 f2 a2).ok) (hl : a2.length = a1.length) :
    pcl Cp 67 [.agg (Term.mk v1 f1 a1).enc, .agg (Term.mk v2 f2 a2).enc] = some (.int .i64 (optI (firstL a1 a2))) := by
  refine pcl_body code67 ?_
  obtain ⟨e, t, hrun, i', rfl, nx, rfl⟩ := first_loop v1 f1 v2 f2 a1 a2 h1.1 hl h1.2 h2.2
  simp [Term.enc, termH2, hl] at hrun ⊢
  simp [hrun, firstI]
end Go.Proofs.Ytfcedichoigbbaa.Am

/-
  The order of Knuth and Bendix as mathematics: what the program's function computes is it; through a third term; never both ways. No condition.
-/
namespace Go.Proofs.Ytfcedichoigbbaa.Am
open Go Go.Proofs
set_option linter.unusedSimpArgs false
set_option linter.unusedVariables false

/-! ### Names -/
theorem bless_irrefl : ∀ (a : List UInt8), Op.bytesLess a a = false
  | [] => rfl
  | x :: r => by simp [Op.bytesLess, bless_irrefl r]
theorem bless_trans : ∀ (a b c : List UInt8), Op.bytesLess a b = true → Op.bytesLess b c = true → Op.bytesLess a c = true
  | [], [], _, h, _ => by simp [Op.bytesLess] at h
  | [], _ :: _, [], _, h => by simp [Op.bytesLess] at h
  | [], _ :: _, _ :: _, _, _ => by simp [Op.bytesLess]
  | _ :: _, [], _, h, _ => by simp [Op.bytesLess] at h
  | _ :: _, _ :: _, [], _, h => by simp [Op.bytesLess] at h
  | x :: r, y :: s, z :: t, h, k => by
    simp only [Op.bytesLess, Bool.or_eq_true, Bool.and_eq_true, decide_eq_true_eq, beq_iff_eq] at h k ⊢
    rcases h with h | ⟨rfl, h⟩ <;> rcases k with k | ⟨rfl, k⟩
    · exact .inl (UInt8.lt_trans h k)
    · exact .inl h
    · exact .inl k
    · exact .inr ⟨rfl, bless_trans r s t h k⟩
theorem bless_total : ∀ (a b : List UInt8), a ≠ b → Op.bytesLess a b = !Op.bytesLess b a
  | [], [], h => absurd rfl h
  | [], _ :: _, _ => rfl
  | _ :: _, [], _ => rfl
  | x :: r, y :: s, h => by
    by_cases hxy : x = y
    · subst hxy
      have := bless_total r s (fun e => h (by rw [e]))
      simp [Op.bytesLess, this]
    · have h1 : (y == x) = false := by simpa using fun e => hxy e.symm
      simp only [Op.bytesLess, beq_eq_false_iff_ne.2 hxy, h1, Bool.false_and, Bool.or_false]
      rcases UInt8.lt_or_lt_of_ne hxy with h | h
      · have := UInt8.lt_asymm h
        simp [h, this]
      · have := UInt8.lt_asymm h
        simp [h, this]
theorem bless_asymm {a b : List UInt8} (h : Op.bytesLess a b = true) : Op.bytesLess b a = false := by
  cases hb : Op.bytesLess b a with
  | false => rfl
  | true => have := bless_trans _ _ _ h hb; rw [bless_irrefl] at this; cases this
theorem gtS_eq (a b : ByteArray) : gtS a b = Op.bytesLess b.toList a.toList := by
  unfold gtS
  by_cases h : a.toList = b.toList
  · simp [h, bless_irrefl]
  · have := bless_total _ _ h
    simp [this, h]
theorem above_irrefl (g : Sg) (a : ByteArray) : g.above a a = false := by simp [Sg.above, gtS_eq, bless_irrefl]
theorem above_total (g : Sg) {a b : ByteArray} (h : a.toList ≠ b.toList) : g.above a b = !g.above b a := by
  unfold Sg.above
  rw [gtS_eq, gtS_eq]
  by_cases hr : g.rank a = g.rank b
  · rw [if_neg (by simpa using hr), if_neg (by simpa using hr.symm)]
    exact bless_total _ _ (Ne.symm h)
  · rw [if_pos hr, if_pos (Ne.symm hr)]
    by_cases h2 : g.rank a > g.rank b
    · have : ¬ g.rank b > g.rank a := by omega
      simp [h2, this]
    · have : g.rank b > g.rank a := by omega
      simp [h2, this]
theorem above_trans (g : Sg) {a b c : ByteArray} (h : g.above a b = true) (k : g.above b c = true) : g.above a c = true := by
  unfold Sg.above at *
  rw [gtS_eq] at *
  by_cases h1 : g.rank a = g.rank b <;> by_cases h2 : g.rank b = g.rank c
  · rw [if_neg (by simpa using h1)] at h
    rw [if_neg (by simpa using h2)] at k
    rw [if_neg (by simpa using h1.trans h2)]
    exact bless_trans _ _ _ k h
  · rw [if_pos h2] at k
    rw [if_pos (by rw [h1]; exact h2), h1]; exact k
  · rw [if_pos h1] at h
    rw [if_pos (by rw [← h2]; exact h1), ← h2]; exact h
  · rw [if_pos h1] at h
    rw [if_pos h2] at k
    simp at h k
    rw [if_pos (by omega)]
    simp; omega
theorem above_asymm (g : Sg) {a b : ByteArray} (h : g.above a b = true) : g.above b a = false := by
  cases hb : g.above b a with
  | false => rfl
  | true => have := above_trans g h hb; rw [above_irrefl] at this; cases this

/-! ### Terms: the same; how great; which variables; weights -/
mutual
def Term.wt (g : Sg) : Term → Int
  | .mk _ fn args => g.of fn + wtL g args
def wtL (g : Sg) : List Term → Int
  | [] => 0
  | t :: r => t.wt g + wtL g r
end
theorem of_range (g : Sg) (s : ByteArray) : 1 ≤ g.of s ∧ g.of s ≤ 1000 := by
  unfold Sg.of
  simp only
  split
  · omega
  · split
    · omega
    · rename_i h; have := not_or.1 h; omega
theorem wt_range (g : Sg) (t : Term) : (t.size : Int) ≤ t.wt g ∧ t.wt g ≤ 1000 * t.size := by
  refine Term.ind (p := fun t => (t.size : Int) ≤ t.wt g ∧ t.wt g ≤ 1000 * t.size) (fun v fn args ih => ?_) t
  have hl : ∀ (a : List Term), (∀ x ∈ a, (x.size : Int) ≤ x.wt g ∧ x.wt g ≤ 1000 * x.size) → (sizeL a : Int) ≤ wtL g a ∧ wtL g a ≤ 1000 * sizeL a := by
    intro a
    induction a with
    | nil => intro _; simp [sizeL, wtL]
    | cons x r ih2 =>
      intro h
      have h1 := h x (by simp)
      have h2 := ih2 fun z hz => h z (by simp [hz])
      simp only [sizeL, wtL]; omega
  have h1 := hl args ih
  have h2 := of_range g fn
  simp only [Term.size, Term.wt]; omega
theorem wtL_range (g : Sg) : ∀ (a : List Term), (sizeL a : Int) ≤ wtL g a ∧ wtL g a ≤ 1000 * sizeL a
  | [] => by simp [sizeL, wtL]
  | x :: r => by
    have h1 := wt_range g x
    have h2 := wtL_range g r
    simp only [sizeL, wtL]; omega
/-! ### What the program's function does to a map of counts -/
def look : List (Int × Int) → Int → Int
  | [], _ => 0
  | (u, n) :: r, x => if x = u then n else look r x
theorem bump_look (v k : Int) : ∀ (m : List (Int × Int)) (x : Int), look (bump m v k) x = if x = v then IntKind.i64.wrap (look m v + k) else look m x
  | [], x => by simp [bump, look]
  | (u, n) :: r, x => by
    by_cases h : v = u
    · subst h
      simp only [bump, if_pos, look]
      split <;> rfl
    · simp only [bump, if_neg h, look, bump_look v k r]
      by_cases h2 : x = v
      · subst h2; simp [h]
      · simp [h2]
theorem bump_keys (v k : Int) : ∀ (m : List (Int × Int)), ∀ x, x ∈ (bump m v k).map (·.1) ↔ x = v ∨ x ∈ m.map (·.1)
  | [], x => by simp [bump]
  | (u, n) :: r, x => by
    by_cases h : v = u
    · subst h; simp [bump]
    · simp only [bump, if_neg h, List.map_cons, List.mem_cons, bump_keys v k r]
      constructor
      · rintro (h | h | h)
        · exact .inr (.inl h)
        · exact .inl h
        · exact .inr (.inr h)
      · rintro (h | h | h)
        · exact .inr (.inl h)
        · exact .inl h
        · exact .inr (.inr h)
theorem bump_nodup (v k : Int) : ∀ (m : List (Int × Int)), (m.map (·.1)).Nodup → ((bump m v k).map (·.1)).Nodup
  | [], _ => by simp [bump]
  | (u, n) :: r, h => by
    by_cases h2 : v = u
    · subst h2; simpa [bump] using h
    · simp only [bump, if_neg h2, List.map_cons, List.nodup_cons] at h ⊢
      refine ⟨fun hm => ?_, bump_nodup v k r h.2⟩
      rcases (bump_keys v k r u).1 hm with e | e
      · exact h2 e.symm
      · exact h.1 e
/-- The counts behind a call of load. -/
theorem loadW_ok (g : Sg) (k : Int) (hk : k = 1 ∨ k = -1) (t : Term) : ∀ m : List (Int × Int), (m.map (·.1)).Nodup → (t.size : Int) ≤ 1048576 → (∀ x, -4000000000 ≤ look m x - t.size ∧ look m x + t.size ≤ 4000000000) →
    (t.loadW g k m).1 = t.wt g ∧ ((t.loadW g k m).2.map (·.1)).Nodup ∧ ∀ x, look (t.loadW g k m).2 x = look m x + k * (t.occ.count x : Int) := by
  refine Term.ind (p := fun t => ∀ m : List (Int × Int), (m.map (·.1)).Nodup → (t.size : Int) ≤ 1048576 → (∀ x, -4000000000 ≤ look m x - t.size ∧ look m x + t.size ≤ 4000000000) →
    (t.loadW g k m).1 = t.wt g ∧ ((t.loadW g k m).2.map (·.1)).Nodup ∧ ∀ x, look (t.loadW g k m).2 x = look m x + k * (t.occ.count x : Int)) (fun v fn args ih m hm hs hb => ?_) t
  have hl : ∀ (a : List Term), (∀ x ∈ a, ∀ m : List (Int × Int), (m.map (·.1)).Nodup → (x.size : Int) ≤ 1048576 → (∀ z, -4000000000 ≤ look m z - x.size ∧ look m z + x.size ≤ 4000000000) →
    (x.loadW g k m).1 = x.wt g ∧ ((x.loadW g k m).2.map (·.1)).Nodup ∧ ∀ z, look (x.loadW g k m).2 z = look m z + k * (x.occ.count z : Int)) →
      ∀ (acc : Int) (m : List (Int × Int)), (m.map (·.1)).Nodup → (sizeL a : Int) ≤ 1048576 → 0 ≤ acc → acc + 1000 * sizeL a ≤ 4000000000 → (∀ z, -4000000000 ≤ look m z - sizeL a ∧ look m z + sizeL a ≤ 4000000000) →
      (loadWL g k acc m a).1 = acc + wtL g a ∧ ((loadWL g k acc m a).2.map (·.1)).Nodup ∧ ∀ z, look (loadWL g k acc m a).2 z = look m z + k * ((occL a).count z : Int) := by
    intro a
    induction a with
    | nil => intro _ acc m hm _ _ _ _; simp [loadWL, wtL, occL, hm]
    | cons x r ih2 =>
      intro h acc m hm hs h0 hacc hb
      simp only [sizeL] at hs hacc hb
      have hx := h x (by simp) m hm (by omega) (fun z => by have := hb z; omega)
      have hw := wt_range g x
      have hwr : IntKind.i64.wrap (acc + x.wt g) = acc + x.wt g := wrap_small (by omega) (by omega)
      have hr := ih2 (fun z hz => h z (by simp [hz])) (acc + x.wt g) (x.loadW g k m).2 hx.2.1 (by omega) (by omega) (by omega) (fun z => by
        have h1 := hx.2.2 z
        have h2 := hb z
        have h3 : x.occ.count z ≤ x.size := Nat.le_trans List.count_le_length (occ_len x)
        rcases hk with rfl | rfl <;> omega)
      simp only [loadWL, hx.1, hwr]
      refine ⟨by rw [hr.1]; simp only [wtL]; omega, hr.2.1, fun z => ?_⟩
      rw [hr.2.2 z, hx.2.2 z]
      simp only [occL, List.count_append]
      rcases hk with rfl | rfl <;> omega
  have ho := of_range g fn
  simp only [Term.size] at hs hb
  by_cases hv : fn.toList = []
  · have hbl : ∀ x, look (bump m v k) x = look m x + k * (([v] : List Int).count x : Int) := fun x => by
      rw [bump_look]
      by_cases hx : x = v
      · subst hx
        have := hb x
        simp only [if_true, List.count_singleton_self]
        rw [wrap_small (by rcases hk with rfl | rfl <;> omega) (by rcases hk with rfl | rfl <;> omega)]
        omega
      · have : ([v] : List Int).count x = 0 := List.count_eq_zero.2 (by simpa using hx)
        simp [hx, this]
    have hr := hl args ih (g.of fn) (bump m v k) (bump_nodup v k m hm) (by omega) (by omega) (by omega) (fun z => by
      have h1 := hbl z
      have h2 := hb z
      have h3 : ([v] : List Int).count z ≤ 1 := by simpa using List.count_le_length (a := z) (l := [v])
      rcases hk with rfl | rfl <;> omega)
    simp only [Term.loadW, if_pos hv, Term.wt, Term.occ, List.count_append]
    refine ⟨hr.1, hr.2.1, fun x => ?_⟩
    rw [hr.2.2 x, hbl x]
    rcases hk with rfl | rfl <;> omega
  · have hr := hl args ih (g.of fn) m hm (by omega) (by omega) (by omega) (fun z => by have := hb z; omega)
    simp only [Term.loadW, if_neg hv, Term.wt, Term.occ, List.nil_append]
    exact hr
theorem look_mem : ∀ {m : List (Int × Int)}, (m.map (·.1)).Nodup → ∀ q ∈ m, look m q.1 = q.2
  | (u, n) :: r, h, q, hq => by
    simp only [List.map_cons, List.nodup_cons] at h
    rcases List.mem_cons.1 hq with rfl | hq
    · simp [look]
    · have : q.1 ≠ u := fun e => h.1 (e ▸ List.mem_map.2 ⟨q, hq, rfl⟩)
      simp only [look, if_neg this]
      exact look_mem h.2 q hq
theorem look_ne : ∀ {m : List (Int × Int)} {x : Int}, look m x ≠ 0 → (x, look m x) ∈ m
  | [], x, h => absurd rfl h
  | (u, n) :: r, x, h => by
    by_cases hx : x = u
    · subst hx; simp [look]
    · simp only [look, if_neg hx] at h ⊢
      exact List.mem_cons.2 (.inr (look_ne h))
theorem any_look {m : List (Int × Int)} (h : (m.map (·.1)).Nodup) (p : Int → Bool) (h0 : p 0 = false) : m.any (fun q => p q.2) = true ↔ ∃ x, p (look m x) = true := by
  rw [List.any_eq_true]
  constructor
  · rintro ⟨q, hq, hp⟩
    exact ⟨q.1, by rw [look_mem h q hq]; exact hp⟩
  · rintro ⟨x, hx⟩
    exact ⟨_, look_ne (fun e => by rw [e, h0] at hx; cases hx), hx⟩

/-! ### The order -/
mutual
def kgt (g : Sg) : Term → Term → Prop
  | .mk v1 f1 a1, .mk v2 f2 a2 =>
    (∀ x, (Term.mk v2 f2 a2).occ.count x ≤ (Term.mk v1 f1 a1).occ.count x) ∧
    ((Term.mk v2 f2 a2).wt g < (Term.mk v1 f1 a1).wt g ∨ ((Term.mk v1 f1 a1).wt g = (Term.mk v2 f2 a2).wt g ∧ f1.toList ≠ [] ∧ f2.toList ≠ [] ∧
      ((f1.toList ≠ f2.toList ∧ g.above f1 f2 = true) ∨ (f1.toList = f2.toList ∧ (a2.length < a1.length ∨ (a1.length = a2.length ∧ kgtL g a1 a2))))))
def kgtL (g : Sg) : List Term → List Term → Prop
  | t :: r, u :: s => (t = u ∧ kgtL g r s) ∨ (t ≠ u ∧ kgt g t u)
  | _, _ => False
end
theorem kgtL_irrefl (g : Sg) : ∀ (a : List Term), ¬ kgtL g a a
  | [], h => by simp [kgtL] at h
  | x :: r, h => by
    simp only [kgtL] at h
    rcases h with ⟨_, h⟩ | ⟨h, _⟩
    · exact kgtL_irrefl g r h
    · exact h rfl
theorem kgt_irrefl (g : Sg) (t : Term) : ¬ kgt g t t := by
  refine Term.ind (p := fun t => ¬ kgt g t t) (fun v fn args ih => ?_) t
  simp only [kgt]
  rintro ⟨_, h | ⟨_, _, _, ⟨h, _⟩ | ⟨_, h | ⟨_, h⟩⟩⟩⟩
  · omega
  · exact h rfl
  · omega
  · exact kgtL_irrefl g args h
theorem kgtL_trans_of {g : Sg} : ∀ (a b c : List Term), (∀ x ∈ a, ∀ y z, kgt g x y → kgt g y z → kgt g x z) → kgtL g a b → kgtL g b c → kgtL g a c
  | [], _, _, _, h, _ => by simp [kgtL] at h
  | _ :: _, [], _, _, h, _ => by simp [kgtL] at h
  | _ :: _, _ :: _, [], _, _, h => by simp [kgtL] at h
  | x :: r, y :: s, z :: t, hx, h, k => by
    simp only [kgtL] at h k ⊢
    rcases h with ⟨rfl, h⟩ | ⟨hn, h⟩ <;> rcases k with ⟨rfl, k⟩ | ⟨kn, k⟩
    · exact .inl ⟨rfl, kgtL_trans_of r s t (fun w hw => hx w (by simp [hw])) h k⟩
    · exact .inr ⟨kn, k⟩
    · exact .inr ⟨hn, h⟩
    · have := hx x (by simp) y z h k
      exact .inr ⟨fun e => kgt_irrefl g x (by rw [← e] at this; exact this), this⟩
theorem kgt_trans (g : Sg) (t : Term) : ∀ u w, kgt g t u → kgt g u w → kgt g t w := by
  refine Term.ind (p := fun t => ∀ u w, kgt g t u → kgt g u w → kgt g t w) (fun v fn args ih u w h k => ?_) t
  obtain ⟨v2, f2, a2⟩ := u
  obtain ⟨v3, f3, a3⟩ := w
  simp only [kgt] at h k ⊢
  obtain ⟨h1, h2⟩ := h
  obtain ⟨k1, k2⟩ := k
  refine ⟨fun x => Nat.le_trans (k1 x) (h1 x), ?_⟩
  rcases h2 with h2 | ⟨hw, n1, n2, h2⟩ <;> rcases k2 with k2 | ⟨kw, n3, n4, k2⟩
  · exact .inl (Int.lt_trans k2 h2)
  · exact .inl (by omega)
  · exact .inl (by omega)
  · refine .inr ⟨by omega, n1, n4, ?_⟩
    rcases h2 with ⟨hf, hab⟩ | ⟨hf, h2⟩ <;> rcases k2 with ⟨kf, kab⟩ | ⟨kf, k2⟩
    · have hac := above_trans g hab kab
      exact .inl ⟨fun e => (by have := bytes_ext e; subst this; rw [above_irrefl] at hac; cases hac), hac⟩
    · have := bytes_ext kf; subst this
      exact .inl ⟨hf, hab⟩
    · have := bytes_ext hf; subst this
      exact .inl ⟨kf, kab⟩
    · refine .inr ⟨hf.trans kf, ?_⟩
      rcases h2 with h2 | ⟨hlen, h2⟩ <;> rcases k2 with k2 | ⟨klen, k2⟩
      · exact .inl (by omega)
      · exact .inl (by omega)
      · exact .inl (by omega)
      · exact .inr ⟨hlen.trans klen, kgtL_trans_of args a2 a3 ih h2 k2⟩
theorem kgt_asymm {g : Sg} {t u : Term} (h : kgt g t u) : ¬ kgt g u t := fun k => kgt_irrefl g t (kgt_trans g t u t h k)
theorem kgtL_asymm {g : Sg} {a b : List Term} (h : kgtL g a b) : ¬ kgtL g b a := fun k => by
  exact kgtL_irrefl g a (kgtL_trans_of a b a (fun x _ y z => kgt_trans g x y z) h k)

/-! ### The program's function computes it -/
open Classical in
theorem kcmp_spec (g : Sg) (t : Term) : ∀ u, t.shapeB = true → u.shapeB = true → (t.size : Int) ≤ 1048576 → (u.size : Int) ≤ 1048576 →
    t.kcmp g u = if t = u then 0 else if kgt g t u then 1 else if kgt g u t then -1 else 2 := by
  refine Term.ind (p := fun t => ∀ u, t.shapeB = true → u.shapeB = true → (t.size : Int) ≤ 1048576 → (u.size : Int) ≤ 1048576 →
    t.kcmp g u = if t = u then 0 else if kgt g t u then 1 else if kgt g u t then -1 else 2) (fun v fn args ih u ht hu hts hus => ?_) t
  obtain ⟨v2, f2, a2⟩ := u
  have hl : ∀ (a b : List Term), (∀ x ∈ a, x ∈ args) → (∀ x ∈ b, x ∈ a2) → a.length = b.length → a ≠ b → kcmpL g a b = if kgtL g a b then 1 else if kgtL g b a then -1 else 2 := by
    intro a
    induction a with
    | nil => intro b _ _ h h2; cases b with | nil => exact absurd rfl h2 | cons => simp at h
    | cons x r ih2 =>
      intro b ha hb h h2
      cases b with
      | nil => simp at h
      | cons y s =>
        by_cases hxy : x = y
        · subst hxy
          have := ih2 s (fun z hz => ha z (by simp [hz])) (fun z hz => hb z (by simp [hz])) (by simpa using h) (fun e => h2 (by rw [e]))
          simp only [kcmpL, if_pos ((sameB_eq x x).2 rfl), kgtL, this]
          simp
        · have hx := ha x (by simp)
          have hy := hb y (by simp)
          simp only [Term.shapeB, Bool.and_eq_true] at ht hu
          simp only [Term.size] at hts hus
          have h3 := sizeL_mem hx
          have h4 := sizeL_mem hy
          have hs : x.sameB y = false := sameB_ff.2 hxy
          have hyx : ¬ y = x := fun e => hxy e.symm
          have := ih x hx y (shapeBL_mem' ht.2 _ hx) (shapeBL_mem' hu.2 _ hy) (by omega) (by omega)
          simp only [kcmpL, hs, kgtL, this]
          simp [hxy, hyx]
  by_cases he : Term.mk v fn args = .mk v2 f2 a2
  · rw [if_pos he]
    simp only [Term.kcmp, if_pos ((sameB_eq _ _).2 he)]
  · rw [if_neg he]
    have hs : (Term.mk v fn args).sameB (.mk v2 f2 a2) = false := sameB_ff.2 he
    have h1 := loadW_ok g 1 (.inl rfl) (.mk v fn args) [] (by simp) hts (fun x => by simp [look]; omega)
    have h2 := loadW_ok g (-1) (.inr rfl) (.mk v2 f2 a2) ((Term.mk v fn args).loadW g 1 []).2 h1.2.1 hus (fun x => by
      have h3 := h1.2.2 x
      have h4 : (Term.mk v fn args).occ.count x ≤ (Term.mk v fn args).size := Nat.le_trans List.count_le_length (occ_len _)
      simp [look] at h3
      omega)
    have hlk : ∀ x, look (((Term.mk v2 f2 a2).loadW g (-1) ((Term.mk v fn args).loadW g 1 []).2).2) x = ((Term.mk v fn args).occ.count x : Int) - ((Term.mk v2 f2 a2).occ.count x : Int) := fun x => by
      rw [h2.2.2 x, h1.2.2 x]; simp [look]; omega
    have hmore := any_look h2.2.1 (fun n => decide (0 < n)) (by simp)
    have hless := any_look h2.2.1 (fun n => decide (n < 0)) (by simp)
    simp only [hlk, decide_eq_true_eq] at hmore hless
    have w1 := wt_range g (.mk v fn args)
    have w2 := wt_range g (.mk v2 f2 a2)
    have hd : IntKind.i64.wrap (((Term.mk v fn args).loadW g 1 []).1 - ((Term.mk v2 f2 a2).loadW g (-1) ((Term.mk v fn args).loadW g 1 []).2).1) = (Term.mk v fn args).wt g - (Term.mk v2 f2 a2).wt g := by
      rw [h1.1, h2.1]; exact wrap_small (by omega) (by omega)
    simp only [Term.kcmp, hs, hd]
    simp only [Bool.false_eq_true, if_false]
    have hmo : ((((Term.mk v2 f2 a2).loadW g (-1) ((Term.mk v fn args).loadW g 1 []).2).2.any fun q => decide (0 < q.2)) = true) ↔ ¬ ∀ x, (Term.mk v fn args).occ.count x ≤ (Term.mk v2 f2 a2).occ.count x := by
      rw [hmore, Classical.not_forall]
      exact exists_congr fun x => by omega
    have hle : ((((Term.mk v2 f2 a2).loadW g (-1) ((Term.mk v fn args).loadW g 1 []).2).2.any fun q => decide (q.2 < 0)) = true) ↔ ¬ ∀ x, (Term.mk v2 f2 a2).occ.count x ≤ (Term.mk v fn args).occ.count x := by
      rw [hless, Classical.not_forall]
      exact exists_congr fun x => by omega
    have hmo' := (Bool.eq_iff_iff.2 (hmo.trans (decide_eq_true_iff (p := ¬ ∀ x, (Term.mk v fn args).occ.count x ≤ (Term.mk v2 f2 a2).occ.count x)).symm))
    have hle' := (Bool.eq_iff_iff.2 (hle.trans (decide_eq_true_iff (p := ¬ ∀ x, (Term.mk v2 f2 a2).occ.count x ≤ (Term.mk v fn args).occ.count x)).symm))
    have hra : fn.toList ≠ [] → v = 0 := shapeB_v' ht
    have hrb : f2.toList ≠ [] → v2 = 0 := shapeB_v' hu
    have hl := hl args a2 (fun _ h => h) (fun _ h => h)
    clear hmo hle hmore hless hlk h1 h2 hd w1 w2
    rcases Classical.em (∀ x, (Term.mk v2 f2 a2).occ.count x ≤ (Term.mk v fn args).occ.count x) with hLE | hLE <;> rcases Classical.em (∀ x, (Term.mk v fn args).occ.count x ≤ (Term.mk v2 f2 a2).occ.count x) with hGE | hGE
    all_goals
      simp only [hLE, hGE, not_true_eq_false, not_false_eq_true, decide_true, decide_false] at hmo' hle'
      simp only [kgt, hmo', hle', hLE, hGE, true_and, false_and]
      rcases Int.lt_trichotomy ((Term.mk v fn args).wt g) ((Term.mk v2 f2 a2).wt g) with hw | hw | hw
      · have q1 : ¬ 0 < (Term.mk v fn args).wt g - (Term.mk v2 f2 a2).wt g := by omega
        have q2 : (Term.mk v fn args).wt g - (Term.mk v2 f2 a2).wt g < 0 := by omega
        have q3 : ¬ (Term.mk v2 f2 a2).wt g < (Term.mk v fn args).wt g := by omega
        have q4 : ¬ (Term.mk v fn args).wt g = (Term.mk v2 f2 a2).wt g := by omega
        have q5 : ¬ (Term.mk v2 f2 a2).wt g = (Term.mk v fn args).wt g := by omega
        simp [q1, q2, q3, q4, q5, hw]
      · simp only [hw, Int.sub_self, Int.lt_irrefl, if_false, false_or, true_and]
        by_cases n1 : fn.toList = []
        · simp [n1]
        by_cases n2 : f2.toList = []
        · simp [n1, n2]
        simp only [n1, n2, or_self, if_false, not_false_eq_true, true_and, ne_eq]
        by_cases hf : fn.toList = f2.toList
        · have hf' := hf.symm
          have := bytes_ext hf; subst this
          simp only [not_true, false_and, false_or, true_and, if_false, not_true_eq_false]
          rcases Nat.lt_trichotomy args.length a2.length with hlen | hlen | hlen
          · have b1 : ¬ args.length = a2.length := by omega
            have b2 : ¬ a2.length < args.length := by omega
            have b3 : ¬ a2.length = args.length := by omega
            simp [b1, b2, b3, hlen, sideI]
          · have hne : args ≠ a2 := fun e => he (by rw [e, hra n1, hrb n2])
            have hk := hl hlen hne
            rw [hk]
            have b1 : ¬ args.length < a2.length := by omega
            have b2 : ¬ a2.length < args.length := by omega
            simp only [hlen, Nat.lt_irrefl, false_or, true_and, not_true, if_false, not_true_eq_false]
            by_cases g1 : kgtL g args a2
            · have g2 := kgtL_asymm g1
              simp [g1, g2]
            · by_cases g2 : kgtL g a2 args
              · simp [g1, g2]
              · simp [g1, g2]
          · have b1 : ¬ args.length = a2.length := by omega
            have b2 : ¬ args.length < a2.length := by omega
            have b3 : ¬ a2.length = args.length := by omega
            simp [b1, b2, b3, hlen, sideI]
        · have hf' : ¬ f2.toList = fn.toList := fun e => hf e.symm
          have ht := above_total g hf
          cases hab : g.above f2 fn
          · rw [hab] at ht
            simp [hf, hf', hab, ht, sideI]
          · rw [hab] at ht
            simp [hf, hf', hab, ht, sideI]
      · have q1 : 0 < (Term.mk v fn args).wt g - (Term.mk v2 f2 a2).wt g := by omega
        have q3 : ¬ (Term.mk v fn args).wt g < (Term.mk v2 f2 a2).wt g := by omega
        have q4 : ¬ (Term.mk v fn args).wt g = (Term.mk v2 f2 a2).wt g := by omega
        have q5 : ¬ (Term.mk v2 f2 a2).wt g = (Term.mk v fn args).wt g := by omega
        simp [q1, q3, q4, q5, hw]
end Go.Proofs.Ytfcedichoigbbaa.Am

/-
  The lexicographic path order as mathematics: through a third term, never both ways, behind substitutions, parts, terms without variables. No condition.
-/
namespace Go.Proofs.Ytfcedichoigbbaa.Am
open Go Go.Proofs
set_option linter.unusedSimpArgs false
set_option linter.unusedVariables false

/-- Is a symbol above another one? -/
def SymGt (g : Sg) (f h : ByteArray) (n m : Nat) : Prop := (f.toList ≠ h.toList ∧ g.above f h = true) ∨ (f.toList = h.toList ∧ m < n)
theorem SymGt.trans {g : Sg} {f h k : ByteArray} {n m l : Nat} (a : SymGt g f h n m) (b : SymGt g h k m l) : SymGt g f k n l := by
  rcases a with ⟨a1, a2⟩ | ⟨a1, a2⟩ <;> rcases b with ⟨b1, b2⟩ | ⟨b1, b2⟩
  · have := above_trans g a2 b2
    exact .inl ⟨fun e => (by have e2 := bytes_ext e; subst e2; rw [above_irrefl] at this; cases this), this⟩
  · have := bytes_ext b1; subst this; exact .inl ⟨a1, a2⟩
  · have := bytes_ext a1; subst this; exact .inl ⟨b1, b2⟩
  · exact .inr ⟨a1.trans b1, by omega⟩
theorem SymGt.irrefl {g : Sg} {f : ByteArray} {n : Nat} : ¬ SymGt g f f n n := by
  rintro (⟨h, _⟩ | ⟨_, h⟩)
  · exact h rfl
  · omega
theorem SymGt.total (g : Sg) (f h : ByteArray) (n m : Nat) : SymGt g f h n m ∨ SymGt g h f m n ∨ (f.toList = h.toList ∧ n = m) := by
  by_cases e : f.toList = h.toList
  · rcases Nat.lt_trichotomy n m with c | c | c
    · exact .inr (.inl (.inr ⟨e.symm, c⟩))
    · exact .inr (.inr ⟨e, c⟩)
    · exact .inl (.inr ⟨e, c⟩)
  · have := above_total g e
    cases hb : g.above h f
    · rw [hb] at this; exact .inl (.inl ⟨e, this⟩)
    · exact .inr (.inl (.inl ⟨fun x => e x.symm, hb⟩))

/-- The order. -/
inductive Lpo (g : Sg) : Term → Term → Prop
  | part {v : Int} {f : ByteArray} {az : List Term} {t : Term} (hf : f.toList ≠ []) (h : t ∈ az) : Lpo g (.mk v f az) t
  | under {v : Int} {f : ByteArray} {az : List Term} {t : Term} (a : Term) (hf : f.toList ≠ []) (h : a ∈ az) (k : Lpo g a t) : Lpo g (.mk v f az) t
  | sym {v w : Int} {f h : ByteArray} {az bs : List Term} (hf : f.toList ≠ []) (hh : h.toList ≠ []) (all : ∀ b ∈ bs, Lpo g (.mk v f az) b) (s : SymGt g f h az.length bs.length) : Lpo g (.mk v f az) (.mk w h bs)
  | lex {v w : Int} {f h : ByteArray} {az bs : List Term} (i : Nat) (a b : Term) (hf : f.toList ≠ []) (hh : h.toList ≠ []) (all : ∀ b ∈ bs, Lpo g (.mk v f az) b) (e : f.toList = h.toList) (l : az.length = bs.length)
      (same : ∀ j : Nat, j < i → az[j]? = bs[j]?) (ha : az[i]? = some a) (hb : bs[i]? = some b) (k : Lpo g a b) : Lpo g (.mk v f az) (.mk w h bs)
/-- What the order says, once. -/
theorem Lpo.iff (g : Sg) (v w : Int) (f h : ByteArray) (az bs : List Term) : Lpo g (.mk v f az) (.mk w h bs) ↔ f.toList ≠ [] ∧ ((∃ a ∈ az, a = .mk w h bs ∨ Lpo g a (.mk w h bs)) ∨
    (h.toList ≠ [] ∧ (∀ b ∈ bs, Lpo g (.mk v f az) b) ∧ (SymGt g f h az.length bs.length ∨ (f.toList = h.toList ∧ az.length = bs.length ∧ ∃ (i : Nat) (a b : Term), (∀ j : Nat, j < i → az[j]? = bs[j]?) ∧ az[i]? = some a ∧ bs[i]? = some b ∧ Lpo g a b)))) := by
  constructor
  · intro h
    cases h with
    | part hf h => exact ⟨hf, .inl ⟨_, h, .inl rfl⟩⟩
    | under a hf h k => exact ⟨hf, .inl ⟨a, h, .inr k⟩⟩
    | sym hf hh all s => exact ⟨hf, .inr ⟨hh, all, .inl s⟩⟩
    | lex i a b hf hh all e l same ha hb k => exact ⟨hf, .inr ⟨hh, all, .inr ⟨e, l, i, a, b, same, ha, hb, k⟩⟩⟩
  · rintro ⟨hf, ⟨a, ha, rfl | k⟩ | ⟨hh, all, s | ⟨e, l, i, a, b, same, ha, hb, k⟩⟩⟩
    · exact .part hf ha
    · exact .under a hf ha k
    · exact .sym hf hh all s
    · exact .lex i a b hf hh all e l same ha hb k
theorem Lpo.fn {g : Sg} {v : Int} {f : ByteArray} {az : List Term} {t : Term} (h : Lpo g (.mk v f az) t) : f.toList ≠ [] := by cases h <;> assumption
theorem size_mem {az : List Term} {a : Term} (h : a ∈ az) (v : Int) (f : ByteArray) : a.size < (Term.mk v f az).size := by have := sizeL_mem h; simp only [Term.size]; omega
/-- Through a third term. -/
theorem Lpo.trans' (g : Sg) : ∀ (n : Nat) (s t u : Term), s.size + t.size + u.size ≤ n → Lpo g s t → Lpo g t u → Lpo g s u := by
  intro n
  induction n with
  | zero => intro s t u hn; have := s.size_pos; omega
  | succ n ih =>
    intro s t u hn h k
    have core : ∀ (v w : Int) (f h : ByteArray) (az bs : List Term), (Term.mk v f az).size + (Term.mk w h bs).size + u.size ≤ n + 1 → f.toList ≠ [] → (∀ b ∈ bs, Lpo g (.mk v f az) b) →
        (SymGt g f h az.length bs.length ∨ (f.toList = h.toList ∧ az.length = bs.length ∧ ∃ (i : Nat) (a b : Term), (∀ j : Nat, j < i → az[j]? = bs[j]?) ∧ az[i]? = some a ∧ bs[i]? = some b ∧ Lpo g a b)) →
        Lpo g (.mk v f az) (.mk w h bs) → Lpo g (.mk w h bs) u → Lpo g (.mk v f az) u := by
      intro v w f h az bs hn hf all hc hst hk
      cases hk with
      | part hh hm => exact all _ hm
      | under b hh hm kb =>
        have := size_mem hm w h
        exact ih _ b _ (by omega) (all b hm) kb
      | @sym _ x _ k' _ cs hh hk2 all2 s2 =>
        have all3 : ∀ c ∈ cs, Lpo g (.mk v f az) c := fun c hc2 => by
          have := size_mem hc2 x k'
          exact ih _ _ c (by omega) hst (all2 c hc2)
        rcases hc with hs | ⟨e, l, _⟩
        · exact .sym hf hk2 all3 (hs.trans s2)
        · have := bytes_ext e; subst this
          rw [← l] at s2
          exact .sym hf hk2 all3 s2
      | @lex _ x _ k' _ cs i2 b2 c2 hh hk2 all2 e2 l2 same2 hb2 hc2 k2 =>
        have all3 : ∀ c ∈ cs, Lpo g (.mk v f az) c := fun c hc2 => by
          have := size_mem hc2 x k'
          exact ih _ _ c (by omega) hst (all2 c hc2)
        rcases hc with hs | ⟨e, l, i, a, b, same, ha, hb, kab⟩
        · have := bytes_ext e2; subst this
          rw [l2] at hs
          exact .sym hf hk2 all3 hs
        · have sa := size_mem (List.mem_of_getElem? ha) v f
          have sb := size_mem (List.mem_of_getElem? hb) w h
          have sc := size_mem (List.mem_of_getElem? hc2) x k'
          rcases Nat.lt_trichotomy i i2 with hi | hi | hi
          · exact .lex i a b hf hk2 all3 (e.trans e2) (l.trans l2) (fun j hj => (same j hj).trans (same2 j (by omega))) ha ((same2 i hi).symm.trans hb) kab
          · subst hi
            have hbb : b = b2 := Option.some.inj (hb.symm.trans hb2)
            subst hbb
            have kac := ih a b c2 (by omega) kab k2
            exact .lex i a c2 hf hk2 all3 (e.trans e2) (l.trans l2) (fun j hj => (same j hj).trans (same2 j hj)) ha hc2 kac
          · exact .lex i2 b2 c2 hf hk2 all3 (e.trans e2) (l.trans l2) (fun j hj => (same j (by omega)).trans (same2 j hj)) ((same i2 hi).trans hb2) hc2 k2
    cases h with
    | @part v f az _ hf hm =>
      exact .under t hf hm k
    | @under v f az _ a hf hm ka =>
      have := size_mem hm v f
      exact .under a hf hm (ih a t u (by omega) ka k)
    | @sym v w f h az bs hf hh all s => exact core v w f h az bs hn hf all (.inl s) (.sym hf hh all s) k
    | @lex v w f h az bs i a b hf hh all e l same ha hb kab => exact core v w f h az bs hn hf all (.inr ⟨e, l, i, a, b, same, ha, hb, kab⟩) (.lex i a b hf hh all e l same ha hb kab) k
theorem Lpo.trans {g : Sg} {s t u : Term} (h : Lpo g s t) (k : Lpo g t u) : Lpo g s u := Lpo.trans' g _ s t u (Nat.le_refl _) h k
theorem Lpo.irrefl (g : Sg) (s : Term) : ¬ Lpo g s s := by
  refine Term.ind (p := fun s => ¬ Lpo g s s) (fun v f az ih h => ?_) s
  have hin : ∀ a ∈ az, ¬ Lpo g a (.mk v f az) := fun a ha k => ih a ha (k.trans (.part h.fn ha))
  rw [Lpo.iff] at h
  obtain ⟨hf, ⟨a, ha, e | k⟩ | ⟨_, _, s | ⟨_, _, i, a, b, _, ha, hb, k⟩⟩⟩ := h
  · have := size_mem ha v f
    rw [e] at this; omega
  · exact hin a ha k
  · exact SymGt.irrefl s
  · have : a = b := Option.some.inj (ha.symm.trans hb)
    subst this
    exact ih a (List.mem_of_getElem? ha) k
theorem Lpo.asymm {g : Sg} {s t : Term} (h : Lpo g s t) : ¬ Lpo g t s := fun k => Lpo.irrefl g s (h.trans k)

/-! ### Substitutions, parts, terms without variables -/
theorem putSL_mem (s : List Bd) : ∀ {a : List Term} {x : Term}, x ∈ a → x.putS s ∈ putSL s a
  | t :: r, x, h => by
    rcases List.mem_cons.1 h with rfl | h
    · simp [putSL]
    · simp only [putSL]; exact List.mem_cons.2 (.inr (putSL_mem s h))
theorem putSL_mem' (s : List Bd) : ∀ {a : List Term} {y : Term}, y ∈ putSL s a → ∃ x ∈ a, y = x.putS s
  | t :: r, y, h => by
    simp only [putSL] at h
    rcases List.mem_cons.1 h with rfl | h
    · exact ⟨t, by simp, rfl⟩
    · obtain ⟨x, hx, e⟩ := putSL_mem' s h
      exact ⟨x, by simp [hx], e⟩
theorem putSL_get (s : List Bd) : ∀ (a : List Term) (i : Nat), (putSL s a)[i]? = (a[i]?).map (Term.putS s)
  | [], i => by simp [putSL]
  | t :: r, 0 => by simp [putSL]
  | t :: r, i + 1 => by simp [putSL, putSL_get s r i]
/-- The order holds behind any substitution. -/
theorem Lpo.putS {g : Sg} (s : List Bd) {t u : Term} (h : Lpo g t u) : Lpo g (t.putS s) (u.putS s) := by
  induction h with
  | part hf h =>
    simp only [Term.putS, if_neg hf]
    exact .part hf (putSL_mem s h)
  | under a hf h k ih =>
    simp only [Term.putS, if_neg hf] at ih ⊢
    exact .under _ hf (putSL_mem s h) ih
  | sym hf hh all sg ih =>
    simp only [Term.putS, if_neg hf, if_neg hh] at ih ⊢
    refine .sym hf hh (fun b hb => ?_) (by simpa only [putSL_len] using sg)
    obtain ⟨x, hx, rfl⟩ := putSL_mem' s hb
    exact ih x hx
  | lex i a b hf hh all e l same ha hb k ih1 ih2 =>
    simp only [Term.putS, if_neg hf, if_neg hh] at ih1 ⊢
    refine .lex i (a.putS s) (b.putS s) hf hh (fun c hc => ?_) e (by simpa only [putSL_len] using l) (fun j hj => ?_) (by rw [putSL_get, ha]; rfl) (by rw [putSL_get, hb]; rfl) ih2
    · obtain ⟨x, hx, rfl⟩ := putSL_mem' s hc
      exact ih1 x hx
    · rw [putSL_get, putSL_get, same j hj]
theorem lpo_at (g : Sg) : ∀ (p : List Int) (t x : Term), t.at p = some x → t.shapeB = true → p ≠ [] → Lpo g t x
  | [], _, _, _, _, h => absurd rfl h
  | k :: p, .mk v fn args, x, h, hs, _ => by
    simp only [Term.at] at h
    split at h
    · cases h
    · cases hg : args[k.toNat]? with
      | none => rw [hg] at h; cases h
      | some y =>
        rw [hg] at h
        have hm := List.mem_of_getElem? hg
        have hfn : fn.toList ≠ [] := fun e => by
          have := shape_var hs e; subst this; simp at hg
        simp only [Term.shapeB, Bool.and_eq_true] at hs
        by_cases hp : p = []
        · subst hp
          have : y = x := by cases y; simpa [Term.at] using h
          subst this; exact .part hfn hm
        · exact .under y hfn hm (lpo_at g p y x h (shapeBL_mem' hs.2 y hm) hp)
/-- A term becomes smaller with a part. -/
theorem lpo_putAt (g : Sg) (s : Term) : ∀ (p : List Int) (t x u : Term), t.at p = some x → t.putAt p s = some u → t.shapeB = true → Lpo g x s → Lpo g t u
  | [], t, x, u, h, hu, _, k => by
    have h1 : t = x := by cases t; simpa [Term.at] using h
    have h2 : s = u := by cases t; simpa [Term.putAt] using hu
    subst h1; subst h2; exact k
  | i :: p, .mk v fn args, x, u, h, hu, hs, k => by
    simp only [Term.at] at h
    simp only [Term.putAt] at hu
    split at h
    · cases h
    · rename_i hi
      rw [if_neg hi] at hu
      cases hg : args[i.toNat]? with
      | none => rw [hg] at h; cases h
      | some y =>
        rw [hg] at h hu
        simp only [Option.map_eq_some_iff] at hu
        obtain ⟨w, hw, rfl⟩ := hu
        have hm := List.mem_of_getElem? hg
        have hfn : fn.toList ≠ [] := fun e => by
          have := shape_var hs e; subst this; simp at hg
        have hs2 := hs
        simp only [Term.shapeB, Bool.and_eq_true] at hs2
        have hyw := lpo_putAt g s p y x w h hw (shapeBL_mem' hs2.2 y hm) k
        have hlt : i.toNat < args.length := (List.getElem?_eq_some_iff.1 hg).1
        refine .lex i.toNat y w hfn hfn (fun b hb => ?_) rfl (by simp) (fun j hj => ?_) hg (by rw [List.getElem?_set_self hlt]) hyw
        · rcases List.mem_or_eq_of_mem_set hb with hb | rfl
          · exact .part hfn hb
          · exact .under y hfn hm hyw
        · rw [List.getElem?_set_ne (by omega)]
/-- The first place that parts two rows. -/
theorem first_diff : ∀ (a b : List Term), a.length = b.length → a ≠ b → ∃ (i : Nat) (x y : Term), (∀ j : Nat, j < i → a[j]? = b[j]?) ∧ a[i]? = some x ∧ b[i]? = some y ∧ x ≠ y
  | [], [], _, h => absurd rfl h
  | [], _ :: _, h, _ => by simp at h
  | _ :: _, [], h, _ => by simp at h
  | x :: r, y :: s, h, hn => by
    by_cases e : x = y
    · subst e
      obtain ⟨i, u, w, h1, h2, h3, h4⟩ := first_diff r s (by simpa using h) (fun e => hn (by rw [e]))
      refine ⟨i + 1, u, w, fun j hj => ?_, by simpa using h2, by simpa using h3, h4⟩
      cases j with
      | zero => rfl
      | succ j => simpa using h1 j (by omega)
    · exact ⟨0, x, y, fun j hj => by omega, rfl, rfl, e⟩
/-- Terms without variables are never apart. -/
theorem lpo_total (g : Sg) : ∀ (n : Nat) (t u : Term), t.size + u.size ≤ n → t.shapeB = true → u.shapeB = true → t.occ = [] → u.occ = [] → t = u ∨ Lpo g t u ∨ Lpo g u t := by
  intro n
  induction n with
  | zero => intro t u h; have := t.size_pos; omega
  | succ n ih =>
    intro t u hn ht hu ho hou
    obtain ⟨v, f, az⟩ := t
    obtain ⟨w, h, bz⟩ := u
    have n1 : f.toList ≠ [] := fun e => by simp [Term.occ, e] at ho
    have n2 : h.toList ≠ [] := fun e => by simp [Term.occ, e] at hou
    have hv := shapeB_v' ht n1
    have hw := shapeB_v' hu n2
    have hoA : ∀ {l : List Term}, occL l = [] → ∀ x ∈ l, x.occ = [] := by
      intro l
      induction l with
      | nil => intro _ x hx; simp at hx
      | cons y r ih2 =>
        intro hl x hx
        simp only [occL, List.append_eq_nil_iff] at hl
        rcases List.mem_cons.1 hx with rfl | hx
        · exact hl.1
        · exact ih2 hl.2 x hx
    have o1 : occL az = [] := by simpa [Term.occ, n1] using ho
    have o2 : occL bz = [] := by simpa [Term.occ, n2] using hou
    have s1 := ht
    have s2 := hu
    simp only [Term.shapeB, Bool.and_eq_true] at s1 s2
    by_cases c1 : ∃ a ∈ az, a = .mk w h bz ∨ Lpo g a (.mk w h bz)
    · obtain ⟨a, ha, e | k⟩ := c1
      · subst e; exact .inr (.inl (.part n1 ha))
      · exact .inr (.inl (.under a n1 ha k))
    by_cases c2 : ∃ b ∈ bz, b = .mk v f az ∨ Lpo g b (.mk v f az)
    · obtain ⟨b, hb, e | k⟩ := c2
      · subst e; exact .inr (.inr (.part n2 hb))
      · exact .inr (.inr (.under b n2 hb k))
    have allA : ∀ a ∈ az, Lpo g (.mk w h bz) a := fun a ha => by
      have := size_mem ha v f
      rcases ih a (.mk w h bz) (by omega) (shapeBL_mem' s1.2 a ha) hu (hoA o1 a ha) hou with e | e | e
      · exact absurd ⟨a, ha, .inl e⟩ c1
      · exact absurd ⟨a, ha, .inr e⟩ c1
      · exact e
    have allB : ∀ b ∈ bz, Lpo g (.mk v f az) b := fun b hb => by
      have := size_mem hb w h
      rcases ih b (.mk v f az) (by omega) (shapeBL_mem' s2.2 b hb) ht (hoA o2 b hb) ho with e | e | e
      · exact absurd ⟨b, hb, .inl e⟩ c2
      · exact absurd ⟨b, hb, .inr e⟩ c2
      · exact e
    rcases SymGt.total g f h az.length bz.length with c | c | ⟨e, l⟩
    · exact .inr (.inl (.sym n1 n2 allB c))
    · exact .inr (.inr (.sym n2 n1 allA c))
    · by_cases hab : az = bz
      · exact .inl (by rw [hab, hv, hw, bytes_ext e])
      · obtain ⟨i, x, y, h1, h2, h3, h4⟩ := first_diff az bz l hab
        have sx := size_mem (List.mem_of_getElem? h2) v f
        have sy := size_mem (List.mem_of_getElem? h3) w h
        rcases ih x y (by omega) (shapeBL_mem' s1.2 x (List.mem_of_getElem? h2)) (shapeBL_mem' s2.2 y (List.mem_of_getElem? h3)) (hoA o1 x (List.mem_of_getElem? h2)) (hoA o2 y (List.mem_of_getElem? h3)) with k | k | k
        · exact absurd k h4
        · exact .inr (.inl (.lex i x y n1 n2 allB e l h1 h2 h3 k))
        · exact .inr (.inr (.lex i y x n2 n1 allA e.symm l.symm (fun j hj => (h1 j hj).symm) h3 h2 k))
end Go.Proofs.Ytfcedichoigbbaa.Am

/-
  The table of parts as mathematics: where a term's parts lie. No condition.
-/
namespace Go.Proofs.Ytfcedichoigbbaa.Am
open Go Go.Proofs
set_option linter.unusedSimpArgs false
set_option linter.unusedVariables false

/-- Parts, and the places of their arguments, behind others. -/
abbrev Laid := List Term × List (List Int)
mutual
def Term.lay : Term → Laid → Laid × Int
  | .mk v fn args, s => (((layL args s []).1.1 ++ [.mk v fn args], (layL args s []).1.2 ++ [(layL args s []).2]), ((layL args s []).1.1.length : Int))
def layL : List Term → Laid → List Int → Laid × List Int
  | [], s, own => (s, own)
  | t :: r, s, own => layL r (t.lay s).1 (own ++ [(t.lay s).2])
end
/-- Each part's arguments lie ahead of it. -/
structure LOk (s : Laid) : Prop where
  len : s.1.length = s.2.length
  own : ∀ (i : Nat) v fn args, s.1[i]? = some (.mk v fn args) → ∃ ns, s.2[i]? = some ns ∧ ns.length = args.length ∧ ∀ (j : Nat) n, ns[j]? = some n → ∃ m : Nat, n = m ∧ m < i ∧ s.1[m]? = args[j]?
def Pre (s s' : Laid) : Prop := ∀ (i : Nat) x, s.1[i]? = some x → s'.1[i]? = some x
theorem Pre.trans {a b c : Laid} (h : Pre a b) (k : Pre b c) : Pre a c := fun i x hx => k i x (h i x hx)
def Tells (s : Laid) (own : List Int) (done : List Term) : Prop := own.length = done.length ∧ ∀ (j : Nat) n, own[j]? = some n → ∃ m : Nat, n = m ∧ m < s.1.length ∧ s.1[m]? = done[j]?
theorem layL_lok (a : List Term) (h : ∀ x ∈ a, ∀ s, LOk s → LOk (x.lay s).1 ∧ Pre s (x.lay s).1 ∧ ∃ m : Nat, (x.lay s).2 = m ∧ (x.lay s).1.1[m]? = some x) :
    ∀ s own done, LOk s → Tells s own done → LOk (layL a s own).1 ∧ Pre s (layL a s own).1 ∧ Tells (layL a s own).1 (layL a s own).2 (done ++ a) := by
  induction a with
  | nil => intro s own done hs ht; simp only [layL, List.append_nil]; exact ⟨hs, fun _ _ h => h, ht⟩
  | cons y r ih =>
    intro s own done hs ht
    obtain ⟨h1, h2, m, hm1, hm2⟩ := h y (by simp) s hs
    simp only [layL]
    have ht2 : Tells (y.lay s).1 (own ++ [(y.lay s).2]) (done ++ [y]) := by
      refine ⟨by simp [ht.1], fun j n hj => ?_⟩
      rw [List.getElem?_append] at hj
      split at hj
      · rename_i hjl
        obtain ⟨k, rfl, hk, hk2⟩ := ht.2 j n hj
        have hd : (done ++ [y])[j]? = done[j]? := List.getElem?_append_left (by have := ht.1; omega)
        have hs1 : s.1[k]? = some s.1[k] := List.getElem?_eq_getElem hk
        have h3 := h2 k _ hs1
        refine ⟨k, rfl, (List.getElem?_eq_some_iff.1 h3).1, ?_⟩
        rw [h3, hd, ← hk2, hs1]
      · rename_i hjl
        have : j - own.length = 0 := by
          rcases Nat.eq_zero_or_pos (j - own.length) with e | e
          · exact e
          · rw [List.getElem?_eq_none (by simp; omega)] at hj; cases hj
        have hj2 : j = done.length := by have := ht.1; omega
        rw [this] at hj
        simp at hj
        subst hj
        refine ⟨m, hm1, (List.getElem?_eq_some_iff.1 hm2).1, ?_⟩
        rw [hm2, hj2]; simp
    obtain ⟨k1, k2, k3⟩ := ih (fun x hx => h x (by simp [hx])) _ _ _ h1 ht2
    exact ⟨k1, h2.trans k2, by simpa using k3⟩
theorem lay_lok (t : Term) : ∀ s, LOk s → LOk (t.lay s).1 ∧ Pre s (t.lay s).1 ∧ ∃ m : Nat, (t.lay s).2 = m ∧ (t.lay s).1.1[m]? = some t := by
  refine Term.ind (p := fun t => ∀ s, LOk s → LOk (t.lay s).1 ∧ Pre s (t.lay s).1 ∧ ∃ m : Nat, (t.lay s).2 = m ∧ (t.lay s).1.1[m]? = some t) (fun v fn args ih s hs => ?_) t
  obtain ⟨h1, h2, h3⟩ := layL_lok args ih s [] [] hs ⟨rfl, fun j n h => by simp at h⟩
  simp only [Term.lay]
  simp only [List.nil_append] at h3
  generalize layL args s [] = q at h1 h2 h3
  obtain ⟨⟨l, o⟩, ns⟩ := q
  simp only at h1 h2 h3 ⊢
  have hl : l.length = o.length := h1.len
  have hpre : Pre (l, o) (l ++ [.mk v fn args], o ++ [ns]) := fun i x hx => by
    have := (List.getElem?_eq_some_iff.1 hx).1
    simp only at hx this ⊢
    rw [List.getElem?_append_left this]; exact hx
  refine ⟨⟨by simp [hl], fun i v' fn' args' hi => ?_⟩, h2.trans hpre, l.length, rfl, by simp⟩
  simp only at hi ⊢
  rw [List.getElem?_append] at hi
  split at hi
  · rename_i hil
    obtain ⟨ns', a1, a2, a3⟩ := h1.own i v' fn' args' hi
    simp only at a1 a3
    refine ⟨ns', by rw [List.getElem?_append_left (by omega)]; exact a1, a2, fun j n hj => ?_⟩
    obtain ⟨m, b1, b2, b3⟩ := a3 j n hj
    exact ⟨m, b1, b2, by rw [List.getElem?_append_left (by omega)]; exact b3⟩
  · rename_i hil
    have h0 : i - l.length = 0 := by
      rcases Nat.eq_zero_or_pos (i - l.length) with e | e
      · exact e
      · rw [List.getElem?_eq_none (by simp; omega)] at hi; cases hi
    rw [h0] at hi
    simp only [List.getElem?_cons_zero, Option.some.injEq, Term.mk.injEq] at hi
    obtain ⟨rfl, rfl, rfl⟩ := hi
    have hi2 : i = l.length := by omega
    refine ⟨ns, by rw [hi2, hl]; simp, h3.1, fun j n hj => ?_⟩
    obtain ⟨m, b1, b2, b3⟩ := h3.2 j n hj
    simp only at b2 b3
    exact ⟨m, b1, by omega, by rw [List.getElem?_append_left b2]; exact b3⟩
theorem lok_nil : LOk ([], []) := ⟨rfl, fun i v fn args h => by simp at h⟩
end Go.Proofs.Ytfcedichoigbbaa.Am

/-
  The document's table of parts: what its function does to a pair of rows. No condition.
-/
namespace Go.Proofs.Ytfcedichoigbbaa.Am
open Go Go.Proofs
set_option maxHeartbeats 4000000
set_option linter.unusedSimpArgs false
set_option linter.unusedVariables false

def encO (l : List (List Int)) : List D := l.map fun x => .sl (encI x) x.length false (some (decide (x = [])))
def rowO (l : List (List Int)) : Am.Obj := if l = [] then .vnil else .grow ((encO l).map .d)
def rowOA (o : Oid) (l : List (List Int)) : AV := .osl o 0 l.length 1 l.length
structure LaySt (H : Hp) (o ol oo : Oid) (s : Laid) : Prop where
  o : H o = some (.cells [rowA ol s.1, rowOA oo s.2])
  ol : H ol = some (rowT s.1)
  oo : H oo = some (rowO s.2)
/-- A call that lays a term's parts behind others. -/
def DoesL (f : FuncId) (args : List AV) (o ol oo : Oid) (x y : Laid) (v : AV) : Prop :=
  ∀ H nx, o.1 < nx → ol.1 < nx → oo.1 < nx → LaySt H o ol oo x → ∃ q : Hp × Nat, acall Try.prog plc f args H nx = some (v, q.1, q.2) ∧ nx ≤ q.2 ∧ LaySt q.1 o ol oo y ∧ ∀ p, p.1 < nx → p ≠ o → p ≠ ol → p ≠ oo → q.1 p = H p
theorem DoesL.fn {f : FuncId} {args : List AV} {o ol oo : Oid} {x y : Laid} {v : AV} (h : DoesL f args o ol oo x y v) :
    ∃ (F : Hp → Nat → Hp) (N : Hp → Nat → Nat), ∀ H nx, o.1 < nx → ol.1 < nx → oo.1 < nx → LaySt H o ol oo x → acall Try.prog plc f args H nx = some (v, F H nx, N H nx) ∧ nx ≤ N H nx ∧ LaySt (F H nx) o ol oo y ∧ ∀ p, p.1 < nx → p ≠ o → p ≠ ol → p ≠ oo → F H nx p = H p := by
  have h2 : ∀ z : Hp × Nat, ∃ q : Hp × Nat, o.1 < z.2 → ol.1 < z.2 → oo.1 < z.2 → LaySt z.1 o ol oo x → acall Try.prog plc f args z.1 z.2 = some (v, q.1, q.2) ∧ z.2 ≤ q.2 ∧ LaySt q.1 o ol oo y ∧ ∀ p, p.1 < z.2 → p ≠ o → p ≠ ol → p ≠ oo → q.1 p = z.1 p := fun z => by
    by_cases h1 : o.1 < z.2 ∧ ol.1 < z.2 ∧ oo.1 < z.2 ∧ LaySt z.1 o ol oo x
    · obtain ⟨q, hq⟩ := h z.1 z.2 h1.1 h1.2.1 h1.2.2.1 h1.2.2.2
      exact ⟨q, fun _ _ _ _ => hq⟩
    · exact ⟨default, fun a b c d => absurd ⟨a, b, c, d⟩ h1⟩
  obtain ⟨G, hG⟩ := Classical.skolem.1 h2
  exact ⟨fun H nx => (G (H, nx)).1, fun H nx => (G (H, nx)).2, fun H nx a b c d => hG (H, nx) a b c d⟩
theorem LaySt.upd {H : Hp} {o ol oo : Oid} {s : Laid} (h : LaySt H o ol oo s) {k : Nat} {j : Nat} {x : Am.Obj} (h1 : o.1 < k) (h2 : ol.1 < k) (h3 : oo.1 < k) : LaySt (Am.upd H (k, j) x) o ol oo s :=
  ⟨by rw [upd_old h1]; exact h.o, by rw [upd_old h2]; exact h.ol, by rw [upd_old h3]; exact h.oo⟩
theorem LaySt.upd3 {H : Hp} {o ol oo : Oid} {s : Laid} (h : LaySt H o ol oo s) {nx : Nat} {x y : Am.Obj} (h1 : o.1 < nx) (h2 : ol.1 < nx) (h3 : oo.1 < nx) : LaySt (Am.upd (Am.upd H (nx, 0) x) (nx + 2, 1) y) o ol oo s :=
  (h.upd h1 h2 h3).upd (by omega) (by omega) (by omega)
theorem LaySt.below {H : Hp} {o ol oo : Oid} {s : Laid} (h : LaySt H o ol oo s) {k : Nat} (h1 : o.1 < k) (h2 : ol.1 < k) (h3 : oo.1 < k) : LaySt (Am.below k H) o ol oo s :=
  ⟨by rw [below_lt h1]; exact h.o, by rw [below_lt h2]; exact h.ol, by rw [below_lt h3]; exact h.oo⟩
theorem lay_size : ∀ (t : Term) (s : Laid), (t.lay s).1.1.length = s.1.length + t.size := by
  intro t
  refine Term.ind (p := fun t => ∀ s : Laid, (t.lay s).1.1.length = s.1.length + t.size) (fun v fn args ih s => ?_) t
  have hl : ∀ (a : List Term), (∀ x ∈ a, ∀ s : Laid, (x.lay s).1.1.length = s.1.length + x.size) → ∀ (s : Laid) own, (layL a s own).1.1.length = s.1.length + sizeL a := by
    intro a
    induction a with
    | nil => intro _ s own; simp [layL, sizeL]
    | cons y r ih2 =>
      intro h s own
      simp only [layL, sizeL]
      rw [ih2 (fun z hz => h z (by simp [hz])), h y (by simp)]
      omega
  simp only [Term.lay, List.length_append, List.length_singleton, hl args ih, Term.size]; omega
theorem fresh_ne {o : Oid} {n : Nat} (h : o.1 < n) (k j : Nat) : (n + k, j) ≠ o := fun e => by rw [← e] at h; simp only at h; omega
theorem upd_ne {H : Hp} {o p : Oid} {x : Am.Obj} (h : p ≠ o) : Am.upd H o x p = H p := by simp only [Am.upd]; rw [if_neg h]
theorem len_sizeLw : ∀ (a : List Term), a.length ≤ sizeL a
  | [] => by simp
  | x :: r => by have := x.size_pos; have := len_sizeLw r; simp only [List.length_cons, sizeL]; omega
theorem layL_size (a : List Term) : ∀ (s : Laid) (own : List Int), (layL a s own).1.1.length = s.1.length + sizeL a := by
  induction a with
  | nil => intro s own; simp [layL, sizeL]
  | cons y r ih => intro s own; simp only [layL, sizeL]; rw [ih, lay_size]; omega
theorem layL_ns (a : List Term) : ∀ (s : Laid) (own : List Int), (layL a s own).2.length = own.length + a.length := by
  induction a with
  | nil => intro s own; simp [layL]
  | cons y r ih => intro s own; simp only [layL]; rw [ih]; simp; omega
theorem lay_same (t : Term) : ∀ s : Laid, s.1.length = s.2.length → (t.lay s).1.1.length = (t.lay s).1.2.length := by
  refine Term.ind (p := fun t => ∀ s : Laid, s.1.length = s.2.length → (t.lay s).1.1.length = (t.lay s).1.2.length) (fun v fn args ih s h => ?_) t
  have hl : ∀ (a : List Term), (∀ x ∈ a, ∀ s : Laid, s.1.length = s.2.length → (x.lay s).1.1.length = (x.lay s).1.2.length) → ∀ (s : Laid) own, s.1.length = s.2.length → (layL a s own).1.1.length = (layL a s own).1.2.length := by
    intro a
    induction a with
    | nil => intro _ s own h; simpa [layL] using h
    | cons y r ih2 => intro h s own hs; simp only [layL]; exact ih2 (fun z hz => h z (by simp [hz])) _ _ (h y (by simp) s hs)
  simp only [Term.lay, List.length_append, List.length_singleton, hl args ih s [] h]
theorem layL_same (a : List Term) : ∀ (s : Laid) (own : List Int), s.1.length = s.2.length → (layL a s own).1.1.length = (layL a s own).1.2.length := by
  induction a with
  | nil => intro s own h; simpa [layL] using h
  | cons y r ih => intro s own h; simp only [layL]; exact ih _ _ (lay_same y s h)
def LayEnd (o ol oo : Oid) (nx : Nat) (H : Hp) (v : Int) (fn : ByteArray) (args : List Term) (r : Laid × List Int) (e : Ex) (t : St) : Prop :=
  ∃ H2 nx2, e = .exit 0 ∧ t = ⟨[.ptr o 0 2, .junk, .junk, .ptr (nx, 0) 0 3, .d (.int .i64 0), .osl (nx + 2, 1) 0 r.2.length 1 r.2.length, .d (.int .i64 args.length), .junk, .junk, .junk, .junk, .junk, .junk, .junk, .junk, .junk, .junk, .junk, .junk, .junk, .junk, .junk, .junk, .junk, .junk, .junk, .junk, .junk, .junk, .junk, .junk, .junk, .junk, .junk, .junk, .junk, .junk, .junk, .junk, .junk, .junk, .junk, .junk, .junk, .junk, .junk, .junk, .junk, .junk, .junk, .junk], H2, nx2⟩ ∧ nx + 4 ≤ nx2 ∧ LaySt H2 o ol oo r.1 ∧
    H2 (nx, 0) = some (.cells [.d (.int .i64 v), .d (.str fn), .d (.sl (encL args) args.length false none)]) ∧ H2 (nx + 2, 1) = some (rowI r.2) ∧ ∀ p, p.1 < nx → p ≠ o → p ≠ ol → p ≠ oo → H2 p = H p
theorem lay_loop (o ol oo : Oid) (v : Int) (fn : ByteArray) (args : List Term) (hok : okL args) (hsz : sizeL args ≤ 1048576) (ih : ∀ x ∈ args, ∀ s : Laid, s.1.length = s.2.length → s.1.length + x.size ≤ 1048576 → DoesL 62 [.ptr o 0 2, .d (.agg x.enc)] o ol oo s (x.lay s).1 (.d (.int .i64 (x.lay s).2)))
    (s : Laid) (hsl : s.1.length = s.2.length) (hs0 : s.1.length + sizeL args ≤ 1048576) (H H1 : Hp) (nx : Nat) (h1 : o.1 < nx) (h2 : ol.1 < nx) (h3 : oo.1 < nx) (hs : LaySt H1 o ol oo s) (hb : H1 (nx, 0) = some (.cells [.d (.int .i64 v), .d (.str fn), .d (.sl (encL args) args.length false none)])) (hr : H1 (nx + 2, 1) = some (rowI []))
    (hfr : ∀ p, p.1 < nx → p ≠ o → p ≠ ol → p ≠ oo → H1 p = H p) :
    ∃ e t, aloop Try.prog plc b62_0 ⟨[true, false, false, true, true, true, true, false, false, false, false, false, false, false, false, false, false, false, false, false, false, false, false, false, true, true, true, true, true, true, true, true, true, true, true, true, true, true, true, true, true, true, true, true, true, true, true, true, true, true, true], some (nx + 4)⟩ ⟨[.ptr o 0 2, .junk, .junk, .ptr (nx, 0) 0 3, .d (.int .i64 0), .osl (nx + 2, 1) 0 0 1 0, .d (.int .i64 0), .junk, .junk, .junk, .junk, .junk, .junk, .junk, .junk, .junk, .junk, .junk, .junk, .junk, .junk, .junk, .junk, .junk, .junk, .junk, .junk, .junk, .junk, .junk, .junk, .junk, .junk, .junk, .junk, .junk, .junk, .junk, .junk, .junk, .junk, .junk, .junk, .junk, .junk, .junk, .junk, .junk, .junk, .junk, .junk], H1, nx + 4⟩ = some (e, t) ∧ LayEnd o ol oo nx H v fn args (layL args s []) e t := by
  have hn0 := len_sizeLw args
  have hn : args.length ≤ 9223372036854775807 := by omega
  have key := loop_rule (P := Try.prog) (pol := plc) (c := b62_0) (m := ⟨[true, false, false, true, true, true, true, false, false, false, false, false, false, false, false, false, false, false, false, false, false, false, false, false, true, true, true, true, true, true, true, true, true, true, true, true, true, true, true, true, true, true, true, true, true, true, true, true, true, true, true], some (nx + 4)⟩)
    (b := nx + 4) (tm := fun (x : Nat × Laid × List Int × Hp) => [.ptr o 0 2, .junk, .junk, .ptr (nx, 0) 0 3, .d (.int .i64 0), .osl (nx + 2, 1) 0 x.2.2.1.length 1 x.2.2.1.length, .d (.int .i64 x.1), .junk, .junk, .junk, .junk, .junk, .junk, .junk, .junk, .junk, .junk, .junk, .junk, .junk, .junk, .junk, .junk, .junk, .junk, .junk, .junk, .junk, .junk, .junk, .junk, .junk, .junk, .junk, .junk, .junk, .junk, .junk, .junk, .junk, .junk, .junk, .junk, .junk, .junk, .junk, .junk, .junk, .junk, .junk, .junk]) (Hf := fun x => x.2.2.2)
    (I := fun x => x.1 ≤ args.length ∧ x.2.2.1.length = x.1 ∧ x.2.1.1.length = x.2.1.2.length ∧ x.2.1.1.length + sizeL (args.drop x.1) ≤ 1048576 ∧ LaySt x.2.2.2 o ol oo x.2.1 ∧ x.2.2.2 (nx, 0) = some (.cells [.d (.int .i64 v), .d (.str fn), .d (.sl (encL args) args.length false none)]) ∧ x.2.2.2 (nx + 2, 1) = some (rowI x.2.2.1) ∧ ∀ p, p.1 < nx → p ≠ o → p ≠ ol → p ≠ oo → x.2.2.2 p = H p)
    (μ := fun x => args.length - x.1) (res := fun x => layL (args.drop x.1) x.2.1 x.2.2.1) (R := LayEnd o ol oo nx H v fn args)
    (fun x nx1 hI => by
      obtain ⟨i, st, own, HH⟩ := x
      obtain ⟨hi, hown, hsame, hsz1, hS, hbx, hrow, hF⟩ := hI
      simp only at hi hown hsame hsz1 hS hbx hrow hF ⊢
      rcases Nat.lt_or_ge i args.length with hl | hl
      · obtain ⟨v', fn', args', a⟩ := at_ok hn hl
        have hdr : sizeL (args.drop i) = (Term.mk v' fn' args').size + sizeL (args.drop (i + 1)) := by rw [a.dr]; rfl
        obtain ⟨F, N, hFN⟩ := (ih _ a.mem st hsame (by omega)).fn
        simp [Term.enc] at hFN
        have hb1 : own.length ≤ 68719476735 := by omega
        conv => arg 9; arg 4; unfold b62_0
        have hlo1 : ∀ k, o.1 < nx1 + (nx + k) := fun k => by omega
        have hlo2 : ∀ k, ol.1 < nx1 + (nx + k) := fun k => by omega
        have hlo3 : ∀ k, oo.1 < nx1 + (nx + k) := fun k => by omega
        have hFc := fun H nx a b c d => (hFN H nx a b c d).1
        simp [a.lti, a.sz, a.ltm, a.cells, a.le3, plc_raw, a.w, Nat.add_assoc, hbx, hFc, hlo1, hlo2, hlo3, hS]
        obtain ⟨_, hF2, hF3, hF4⟩ := hFN HH (nx1 + (nx + 20)) (hlo1 20) (hlo2 20) (hlo3 20) hS
        have hne : (nx + 2, 1) ≠ o := fresh_ne h1 _ _
        have hne2 : (nx + 2, 1) ≠ ol := fresh_ne h2 _ _
        have hne3 : (nx + 2, 1) ≠ oo := fresh_ne h3 _ _
        have hnb : (nx, 0) ≠ o := fresh_ne h1 0 _
        have hnb2 : (nx, 0) ≠ ol := fresh_ne h2 0 _
        have hnb3 : (nx, 0) ≠ oo := fresh_ne h3 0 _
        have hrow2 : F HH (nx1 + (nx + 20)) (nx + 2, 1) = some (rowI own) := (hF4 _ _ (by omega) hne hne2 hne3).trans hrow
        have hbx2 : F HH (nx1 + (nx + 20)) (nx, 0) = some (.cells [.d (.int .i64 v), .d (.str fn), .d (.sl (encL args) args.length false none)]) := (hF4 _ _ (by omega) hnb hnb2 hnb3).trans hbx
        have happ := append_rowI (id := nx1 + (nx + 18)) (H := upd (F HH (nx1 + (nx + 20))) (nx1 + (nx + 17), 0) (.cells [.d (.int .i64 ((Term.mk v' fn' args').lay st).2)])) (o := (nx + 2, 1)) (o2 := (nx1 + (nx + 17), 0)) (l := own) (x := ((Term.mk v' fn' args').lay st).2) (by rw [upd_old (o := (nx + 2, 1)) (by simp; omega)]; exact hrow2) (by simp [upd]) hb1
        simp [happ, a.w]
        generalize hH9 : Am.upd (below (nx + 4) (Am.upd (F HH (nx1 + (nx + 20))) (nx1 + (nx + 17), 0) (.cells [.d (.int .i64 ((Term.mk v' fn' args').lay st).2)]))) (nx + 2, 1) (rowI (own ++ [((Term.mk v' fn' args').lay st).2])) = H9
        have h9 : ∀ p : Oid, p.1 < nx + 4 → p ≠ (nx + 2, 1) → H9 p = F HH (nx1 + (nx + 20)) p := fun p hp hq => by rw [← hH9, upd_ne hq, below_lt hp, upd_old (by omega)]
        refine .next (i + 1, ((Term.mk v' fn' args').lay st).1, own ++ [((Term.mk v' fn' args').lay st).2], H9) ?_ (by simp) rfl ⟨hl, by simp; omega, lay_same _ _ hsame, ?_, ?_, ?_, ?_, ?_⟩ (by simp; omega) (by simp only [a.dr, layL])
        · omega
        · simp only [lay_size]; omega
        · exact ⟨(h9 _ (by omega) hne.symm).trans hF3.o, (h9 _ (by omega) hne2.symm).trans hF3.ol, (h9 _ (by omega) hne3.symm).trans hF3.oo⟩
        · exact (h9 _ (by simp) (by simp)).trans hbx2
        · show H9 (nx + 2, 1) = _
          rw [← hH9]; simp [Am.upd]
        · intro x y hp e1 e2 e3
          exact (h9 (x, y) (by simp; omega) (fun e => by cases e; omega)).trans ((hF4 x y (by omega) e1 e2 e3).trans (hF (x, y) hp e1 e2 e3))
      · obtain rfl : i = args.length := Nat.le_antisymm hi hl
        have hr : layL (args.drop args.length) st own = (st, own) := by simp only [List.drop_length, layL]
        simp [b62_0, hbx]
        refine .fin _ _ ?_
        simp only [hr]
        exact ⟨_, _, rfl, rfl, by omega, hS.below (by omega) (by omega) (by omega), (below_lt (by simp)).trans hbx, (below_lt (by simp)).trans hrow, fun p hp e1 e2 e3 => (below_lt (by omega)).trans (hF p hp e1 e2 e3)⟩) (0, s, [], H1) ⟨Nat.zero_le _, rfl, hsl, by simpa using hs0, hs, hb, hr, hfr⟩
  simpa using key
theorem lay_ok (o ol oo : Oid) (d1 : o ≠ ol) (d2 : o ≠ oo) (d3 : ol ≠ oo) (t : Term) : t.ok → ∀ s : Laid, s.1.length = s.2.length → s.1.length + t.size ≤ 1048576 → DoesL 62 [.ptr o 0 2, .d (.agg t.enc)] o ol oo s (t.lay s).1 (.d (.int .i64 (t.lay s).2)) := by
  refine Term.ind (p := fun t => t.ok → ∀ s : Laid, s.1.length = s.2.length → s.1.length + t.size ≤ 1048576 → DoesL 62 [.ptr o 0 2, .d (.agg t.enc)] o ol oo s (t.lay s).1 (.d (.int .i64 (t.lay s).2))) (fun v fn args ih h s hsl hsz => ?_) t
  intro H nx h1 h2 h3 hs
  have hsz2 : s.1.length + sizeL args ≤ 1048576 := by simp only [Term.size] at hsz; omega
  have hne : ∀ k j, (nx + k, j) ≠ o := fun k j => fresh_ne h1 k j
  have hne0 : ∀ j, (nx, j) ≠ o := fun j => fresh_ne h1 0 j
  obtain ⟨e, t, hrun, H2, nx2, rfl, rfl, hnx2, hS2, hb2, hr2, hF2⟩ := lay_loop o ol oo v fn args h.2 (by omega) (fun x hx s hs hz => ih x hx (okL_mem h.2 _ hx) s hs hz) s hsl hsz2 H
    (Am.upd (Am.upd H (nx, 0) (.cells [.d (.int .i64 v), .d (.str fn), .d (.sl (encL args) args.length false none)])) (nx + 2, 1) .vnil) nx h1 h2 h3 (hs.upd3 h1 h2 h3) (by simp [Am.upd]) (by simp [Am.upd, rowI_nil]) (fun p hp _ _ _ => by rw [upd_old (by omega), upd_old (by omega)])
  have ho2 := hS2.o
  have hol2 := hS2.ol
  have hoo2 := hS2.oo
  have hlz := layL_size args s []
  have hls := layL_same args s [] hsl
  have hlr := layL_ns args s []
  simp only [Term.lay]
  generalize layL args s [] = r at *
  obtain ⟨⟨l, own⟩, ns⟩ := r
  simp only at hrun ho2 hol2 hoo2 hlz hls hlr hr2 hS2 ⊢
  have f1 : ∀ k j x H', Am.upd H' (nx2 + k, j) x o = H' o := fun k j x H' => upd_old (by omega) j x H'
  have f2 : ∀ k j x H', Am.upd H' (nx2 + k, j) x ol = H' ol := fun k j x H' => upd_old (by omega) j x H'
  have f3 : ∀ k j x H', Am.upd H' (nx2 + k, j) x oo = H' oo := fun k j x H' => upd_old (by omega) j x H'
  have f4 : ∀ k j x H', Am.upd H' (nx2 + k, j) x (nx + 2, 1) = H' (nx + 2, 1) := fun k j x H' => upd_old (o := (nx + 2, 1)) (by simp; omega) j x H'
  have e1 : ∀ x H', Am.upd H' ol x o = H' o := fun x H' => upd_ne d1
  have e2 : ∀ x H', Am.upd H' oo x o = H' o := fun x H' => upd_ne d2
  have e3 : ∀ x H', Am.upd H' o x ol = H' ol := fun x H' => upd_ne (Ne.symm d1)
  have e4 : ∀ x H', Am.upd H' oo x ol = H' ol := fun x H' => upd_ne d3
  have e5 : ∀ x H', Am.upd H' o x oo = H' oo := fun x H' => upd_ne (Ne.symm d2)
  have e6 : ∀ x H', Am.upd H' ol x oo = H' oo := fun x H' => upd_ne (Ne.symm d3)
  have e7 : ∀ x H', Am.upd H' o x (nx + 2, 1) = H' (nx + 2, 1) := fun x H' => upd_ne (fresh_ne h1 2 1)
  have e8 : ∀ x H', Am.upd H' ol x (nx + 2, 1) = H' (nx + 2, 1) := fun x H' => upd_ne (fresh_ne h2 2 1)
  have e9 : ∀ x H', Am.upd H' oo x (nx + 2, 1) = H' (nx + 2, 1) := fun x H' => upd_ne (fresh_ne h3 2 1)
  have g1 : ∀ k j, ¬ o = (nx2 + k, j) := fun k j => Ne.symm (fresh_ne (by omega) k j)
  have g2 : ∀ k j, ¬ ol = (nx2 + k, j) := fun k j => Ne.symm (fresh_ne (by omega) k j)
  have g3 : ∀ k j, ¬ oo = (nx2 + k, j) := fun k j => Ne.symm (fresh_ne (by omega) k j)
  have hmd := fun H n l => mapD_encI2 H n l
  have htk : ∀ (l : List Int) (f : Int → AV), List.take l.length (List.map f l) = List.map f l := fun l f => List.take_of_length_le (by simp)
  have hw0 : IntKind.i64.wrap 0 = 0 := rfl
  have g4 : ¬ o = (nx + 2, 1) := Ne.symm (fresh_ne h1 2 1)
  have g5 : ¬ ol = (nx + 2, 1) := Ne.symm (fresh_ne h2 2 1)
  have g6 : ¬ oo = (nx + 2, 1) := Ne.symm (fresh_ne h3 2 1)
  suffices hh : ∃ (H' : Hp) (n' : Nat), acall Try.prog plc 62 [.ptr o 0 2, .d (.agg (Term.mk v fn args).enc)] H nx = some (.d (.int .i64 l.length), H', n') ∧ nx ≤ n' ∧ LaySt H' o ol oo (l ++ [.mk v fn args], own ++ [ns]) ∧ ∀ p : Oid, p.1 < nx → p ≠ o → p ≠ ol → p ≠ oo → H' p = H p by
    obtain ⟨a, b, h⟩ := hh
    exact ⟨(a, b), h⟩
  cases l with
  | nil =>
    obtain rfl : own = [] := by simpa using hls.symm
    simp [rowA, rowT, rowOA, rowO, encO] at ho2 hol2 hoo2
    cases ns with
    | nil =>
      simp [rowI] at hr2
      apply Exists.intro
      apply Exists.intro
      refine ⟨acall_body code62 ?_, ?_, ?_, ?_⟩
      · simp [plc_raw, Term.enc, Nat.add_assoc, hrun, ho2, hol2, hoo2, hb2, hr2, appendO, srcCells, srcRaw, growO, kill, f1, f2, f3, f4, e1, e2, e3, e4, e5, e6, e7, e8, e9, g1, g2, g3, g4, g5, g6, d1, d2, d3, d1.symm, d2.symm, d3.symm, hmd, htk, hw0]
        exact ⟨rfl, rfl⟩
      · omega
      · refine ⟨?_, ?_, ?_⟩
        · simp [kill, f1, f2, f3, f4, e1, e2, e3, e4, e5, e6, e7, e8, e9, g1, g2, g3, g4, g5, g6, d1, d2, d3, d1.symm, d2.symm, d3.symm, rowA, rowOA]
        · simp [kill, f1, f2, f3, f4, e1, e2, e3, e4, e5, e6, e7, e8, e9, g1, g2, g3, g4, g5, g6, d1, d2, d3, d1.symm, d2.symm, d3.symm, rowT, encL, Term.enc]
        · simp [kill, f1, f2, f3, f4, e1, e2, e3, e4, e5, e6, e7, e8, e9, g1, g2, g3, g4, g5, g6, d1, d2, d3, d1.symm, d2.symm, d3.symm, rowO, encO, encI]
      · intro p hp q1 q2 q3
        have g9 : ∀ k j, ¬ p = (nx2 + k, j) := fun k j => Ne.symm (fresh_ne (by omega) k j)
        have g8 : ∀ j, ¬ p = (nx + 2, j) := fun j => Ne.symm (fresh_ne hp 2 j)
        simp [kill, upd_ne, q1, q2, q3, g9, g8]
        exact hF2 p hp q1 q2 q3
    | cons n0 nr =>
      simp [rowI, encI] at hr2
      apply Exists.intro
      apply Exists.intro
      refine ⟨acall_body code62 ?_, ?_, ?_, ?_⟩
      · simp [plc_raw, Term.enc, Nat.add_assoc, hrun, ho2, hol2, hoo2, hb2, hr2, appendO, srcCells, srcRaw, growO, kill, f1, f2, f3, f4, e1, e2, e3, e4, e5, e6, e7, e8, e9, g1, g2, g3, g4, g5, g6, d1, d2, d3, d1.symm, d2.symm, d3.symm, hmd, htk, hw0]
        exact ⟨rfl, rfl⟩
      · omega
      · refine ⟨?_, ?_, ?_⟩
        · simp [kill, f1, f2, f3, f4, e1, e2, e3, e4, e5, e6, e7, e8, e9, g1, g2, g3, g4, g5, g6, d1, d2, d3, d1.symm, d2.symm, d3.symm, rowA, rowOA]
        · simp [kill, f1, f2, f3, f4, e1, e2, e3, e4, e5, e6, e7, e8, e9, g1, g2, g3, g4, g5, g6, d1, d2, d3, d1.symm, d2.symm, d3.symm, rowT, encL, Term.enc]
        · simp [kill, f1, f2, f3, f4, e1, e2, e3, e4, e5, e6, e7, e8, e9, g1, g2, g3, g4, g5, g6, d1, d2, d3, d1.symm, d2.symm, d3.symm, rowO, encO, encI]
      · intro p hp q1 q2 q3
        have g9 : ∀ k j, ¬ p = (nx2 + k, j) := fun k j => Ne.symm (fresh_ne (by omega) k j)
        have g8 : ∀ j, ¬ p = (nx + 2, j) := fun j => Ne.symm (fresh_ne hp 2 j)
        simp [kill, upd_ne, q1, q2, q3, g9, g8]
        exact hF2 p hp q1 q2 q3
  | cons y q =>
    have hE : (encL (y :: q)).length = (q.length + 1) * 3 := by simpa using encL_len (y :: q)
    have hE2 : encL (y :: (q ++ [.mk v fn args])) = encL (y :: q) ++ [.int .i64 v, .str fn, .sl (encL args) args.length false none] := by
      rw [show y :: (q ++ [Term.mk v fn args]) = (y :: q) ++ [Term.mk v fn args] from rfl, encL_append]
      simp [encL, Term.enc]
    generalize hEE : encL (y :: q) = E at *
    have hlt : ¬ ((q.length + 1) * 3 + 3 ≤ (q.length + 1) * 3) := by omega
    simp only [List.length_cons] at hlz hls
    have hle : (q.length + 1) * 3 ≤ 68719476736 := by omega
    have htk2 : List.take ((q.length + 1) * 3) (List.map AV.d E) = List.map AV.d E := List.take_of_length_le (by simp [hE])
    have hpos : (0 : Int) ≤ (q.length : Int) + 1 := by omega
    cases own with
    | nil => simp at hls
    | cons w wr =>
    have hlw : ¬ (wr.length + 1 + 1 ≤ wr.length + 1) := by omega
    have htk3 : ∀ (f : List Int → AV), List.take wr.length (List.map f wr) = List.map f wr := fun f => List.take_of_length_le (by simp)
    have hwl : q.length = wr.length := by simpa using hls
    have hle2 : wr.length ≤ 68719476735 := by omega
    have hww : IntKind.i64.wrap ((wr.length : Int) + 2 - 1) = (wr.length : Int) + 1 := by rw [show (wr.length : Int) + 2 - 1 = (wr.length : Int) + 1 by omega]; exact wrap_i64 (by omega) (by omega)
    have hmul : (wr.length + 1) * 3 + 3 = (wr.length + 2) * 3 := by omega
    rw [hwl] at hE hlt hle htk2 hpos
    have hdr : ∀ a b c : AV, List.drop ((wr.length + 1) * 3 + 3) (List.map AV.d E ++ [a, b, c]) = [] := fun a b c => List.drop_of_length_le (by simp [hE])
    simp [rowA, rowT, rowOA, rowO, encO, hEE] at ho2 hol2 hoo2
    cases ns with
    | nil =>
      simp [rowI] at hr2
      apply Exists.intro
      apply Exists.intro
      refine ⟨acall_body code62 ?_, ?_, ?_, ?_⟩
      · simp [plc_raw, Term.enc, Nat.add_assoc, hrun, ho2, hol2, hoo2, hb2, hr2, appendO, srcCells, srcRaw, growO, kill, f1, f2, f3, f4, e1, e2, e3, e4, e5, e6, e7, e8, e9, g1, g2, g3, g4, g5, g6, d1, d2, d3, d1.symm, d2.symm, d3.symm, hmd, htk, hw0, hE, hlt, hle, htk2, hpos, hwl, hlw, hle2, htk3, hdr]
        exact ⟨hww, rfl, rfl⟩
      · omega
      · refine ⟨?_, ?_, ?_⟩
        · simp [kill, f1, f2, f3, f4, e1, e2, e3, e4, e5, e6, e7, e8, e9, g1, g2, g3, g4, g5, g6, d1, d2, d3, d1.symm, d2.symm, d3.symm, rowA, rowOA, hwl, hmul]
        · simp [kill, f1, f2, f3, f4, e1, e2, e3, e4, e5, e6, e7, e8, e9, g1, g2, g3, g4, g5, g6, d1, d2, d3, d1.symm, d2.symm, d3.symm, rowT, hE2, hEE]
        · simp [kill, f1, f2, f3, f4, e1, e2, e3, e4, e5, e6, e7, e8, e9, g1, g2, g3, g4, g5, g6, d1, d2, d3, d1.symm, d2.symm, d3.symm, rowO, encO, encI]
      · intro p hp q1 q2 q3
        have g9 : ∀ k j, ¬ p = (nx2 + k, j) := fun k j => Ne.symm (fresh_ne (by omega) k j)
        have g8 : ∀ j, ¬ p = (nx + 2, j) := fun j => Ne.symm (fresh_ne hp 2 j)
        simp [kill, upd_ne, q1, q2, q3, g9, g8]
        exact hF2 p hp q1 q2 q3
    | cons n0 nr =>
      simp [rowI, encI] at hr2
      apply Exists.intro
      apply Exists.intro
      refine ⟨acall_body code62 ?_, ?_, ?_, ?_⟩
      · simp [plc_raw, Term.enc, Nat.add_assoc, hrun, ho2, hol2, hoo2, hb2, hr2, appendO, srcCells, srcRaw, growO, kill, f1, f2, f3, f4, e1, e2, e3, e4, e5, e6, e7, e8, e9, g1, g2, g3, g4, g5, g6, d1, d2, d3, d1.symm, d2.symm, d3.symm, hmd, htk, hw0, hE, hlt, hle, htk2, hpos, hwl, hlw, hle2, htk3, hdr]
        exact ⟨hww, rfl, rfl⟩
      · omega
      · refine ⟨?_, ?_, ?_⟩
        · simp [kill, f1, f2, f3, f4, e1, e2, e3, e4, e5, e6, e7, e8, e9, g1, g2, g3, g4, g5, g6, d1, d2, d3, d1.symm, d2.symm, d3.symm, rowA, rowOA, hwl, hmul]
        · simp [kill, f1, f2, f3, f4, e1, e2, e3, e4, e5, e6, e7, e8, e9, g1, g2, g3, g4, g5, g6, d1, d2, d3, d1.symm, d2.symm, d3.symm, rowT, hE2, hEE]
        · simp [kill, f1, f2, f3, f4, e1, e2, e3, e4, e5, e6, e7, e8, e9, g1, g2, g3, g4, g5, g6, d1, d2, d3, d1.symm, d2.symm, d3.symm, rowO, encO, encI]
      · intro p hp q1 q2 q3
        have g9 : ∀ k j, ¬ p = (nx2 + k, j) := fun k j => Ne.symm (fresh_ne (by omega) k j)
        have g8 : ∀ j, ¬ p = (nx + 2, j) := fun j => Ne.symm (fresh_ne hp 2 j)
        simp [kill, upd_ne, q1, q2, q3, g9, g8]
        exact hF2 p hp q1 q2 q3
end Go.Proofs.Ytfcedichoigbbaa.Am

/-
  The program's table of parts: a row that grows. No condition.
-/
namespace Go.Proofs.Ytfcedichoigbbaa.Am
open Go Go.Proofs
set_option maxHeartbeats 4000000
set_option maxRecDepth 20000
set_option linter.unusedSimpArgs false
set_option linter.unusedVariables false

def encPz : List (Term × List Int) → List D
  | [] => []
  | (t, ns) :: r => t.enc ++ (.sl (encI ns) ns.length false (some (decide (ns = []))) :: encPz r)
def encPt (s : Laid) : List D := encPz (s.1.zip s.2)
theorem encPz_len : ∀ l : List (Term × List Int), (encPz l).length = l.length * 4
  | [] => rfl
  | (t, ns) :: r => by simp [encPz, Term.enc_len, encPz_len r]; omega
theorem encPz_append : ∀ (a b : List (Term × List Int)), encPz (a ++ b) = encPz a ++ encPz b
  | [], _ => rfl
  | (t, ns) :: r, b => by simp [encPz, encPz_append r b]
theorem encPt_len {s : Laid} (h : s.1.length = s.2.length) : (encPt s).length = s.1.length * 4 := by
  simp [encPt, encPz_len, h]
theorem encPt_snoc {l : List Term} {o : List (List Int)} (h : l.length = o.length) (t : Term) (ns : List Int) : encPt (l ++ [t], o ++ [ns]) = encPt (l, o) ++ (t.enc ++ [.sl (encI ns) ns.length false (some (decide (ns = [])))]) := by
  simp [encPt, List.zip_append h, encPz_append, encPz]
theorem encPz_at : ∀ (l : List (Term × List Int)) (i : Nat) (t : Term) (ns : List Int), l[i]? = some (t, ns) → ((encPz l).drop (i * 4)).take 4 = t.enc ++ [.sl (encI ns) ns.length false (some (decide (ns = [])))]
  | [], i, t, ns, h => by simp at h
  | (u, ms) :: r, 0, t, ns, h => by
    simp at h; obtain ⟨rfl, rfl⟩ := h
    have := u.enc_len
    have h4 : u.enc.take 4 = u.enc := List.take_of_length_le (by omega)
    simp [encPz, List.take_append, this, h4]
  | (u, ms) :: r, i + 1, t, ns, h => by
    have := u.enc_len
    have e := encPz_at r i t ns (by simpa using h)
    have hl : (u.enc ++ [D.sl (encI ms) ms.length false (some (decide (ms = [])))]).length = 4 := by simp [this]
    have hc : encPz ((u, ms) :: r) = (u.enc ++ [D.sl (encI ms) ms.length false (some (decide (ms = [])))]) ++ encPz r := by simp [encPz]
    rw [hc, show (i + 1) * 4 = (u.enc ++ [D.sl (encI ms) ms.length false (some (decide (ms = [])))]).length + i * 4 by rw [hl]; omega, List.drop_append, List.drop_of_length_le (by omega), List.nil_append, show (u.enc ++ [D.sl (encI ms) ms.length false (some (decide (ms = [])))]).length + i * 4 - (u.enc ++ [D.sl (encI ms) ms.length false (some (decide (ms = [])))]).length = i * 4 by omega]
    exact e
/-- The row, and what leads to it. -/
def rowV (oo : Option Oid) (n : Nat) : AV := match oo with | none => .d (.sl [] 0 true (some true)) | some o => .osl o 0 n 4 (n * 4)
def RowP (H : Hp) (oo : Option Oid) (s : Laid) : Prop := match oo with | none => s.1 = [] | some o => s.1 ≠ [] ∧ H o = some (.grow ((encPt s).map .d))
theorem RowP.keep {H H' : Hp} {oo : Option Oid} {s : Laid} (h : RowP H oo s) (k : ∀ o, oo = some o → H' o = H o) : RowP H' oo s := by
  cases oo with
  | none => exact h
  | some o => exact ⟨h.1, (k o rfl).trans h.2⟩
theorem append_part {H : Hp} {id : Nat} {oo : Option Oid} {l : List Term} {own : List (List Int)} {o2 o3 : Oid} {v : Int} {fn : ByteArray} {args : List Term} {ns : List Int} (hl : l.length = own.length) (hn : l.length ≤ 1048576) (hs : RowP H oo (l, own))
    (h2 : H o2 = some (.cells [.d (.int .i64 v), .d (.str fn), .d (.sl (encL args) args.length false none), .osl o3 0 ns.length 1 ns.length])) (h3 : H o3 = some (rowI ns)) (d2 : oo ≠ some o2) (d3 : oo ≠ some o3) :
    ∃ H', appendO Try.prog H id 70 70 (rowV oo l.length) (.osl o2 0 1 4 4) = some (rowV (some (oo.getD (id, 0))) (l.length + 1), H') ∧ RowP H' (some (oo.getD (id, 0))) (l ++ [.mk v fn args], own ++ [ns]) ∧ ∀ p, p ≠ o2 → p ≠ o3 → p ≠ oo.getD (id, 0) → H' p = H p := by
  have hsrc : ∃ is, srcCells Try.prog H 4 70 (.osl o2 0 1 4 4) = some ([.int .i64 v, .str fn, .sl (encL args) args.length false none, .sl (encI ns) ns.length false (some (decide (ns = [])))], 1, is) ∧ ∀ p ∈ is, p = o2 ∨ p = o3 := by
    cases ns with
    | nil => refine ⟨[o2], ?_, by simp⟩; simp [srcCells, srcRaw, h2, h3, rowI, encI]
    | cons x r =>
      have hmd := mapD_encI2 H 4 r
      have htk : List.take r.length (List.map (AV.d ∘ D.int .i64) r) = List.map (AV.d ∘ D.int .i64) r := List.take_of_length_le (by simp)
      refine ⟨[o2, o3], ?_, by simp⟩
      simp [srcCells, srcRaw, h2, h3, rowI, encI, htk, hmd]
  obtain ⟨is, hsrc, his⟩ := hsrc
  have hk : ∀ p, p ≠ o2 → p ≠ o3 → kill H is p = H p := fun p a c => by
    simp only [kill]; rw [if_neg]; exact fun h => by rcases his p h with rfl | rfl <;> contradiction
  cases oo with
  | none =>
    have hl0 : l = [] := hs
    subst hl0
    obtain rfl : own = [] := by simpa using hl.symm
    refine ⟨upd (kill H is) (id, 0) (.grow ((encPt ([.mk v fn args], [ns])).map .d)), ?_, ⟨by simp, by simp⟩, fun p a c d => ?_⟩
    · simp [appendO, hsrc, rowV, encPt, encPz, Term.enc]
    · simp only [Option.getD_none] at d
      rw [upd_ne d, hk p a c]
  | some o =>
    obtain ⟨hne, ho⟩ := hs
    have e2 : o ≠ o2 := fun e => d2 (by rw [e])
    have e3 : o ≠ o3 := fun e => d3 (by rw [e])
    have hni : o ∉ is := fun h => by rcases his o h with rfl | rfl <;> contradiction
    have hE : (encPt (l, own)).length = l.length * 4 := encPt_len hl
    have hle : l.length * 4 ≤ 68719476736 := by omega
    have hnl : ¬ (l.length * 4 + 4 ≤ l.length * 4) := by omega
    have htk : List.take (l.length * 4) (List.map AV.d (encPt (l, own))) = List.map AV.d (encPt (l, own)) := List.take_of_length_le (by simp [hE])
    have hnl2 : ¬ ((l.length + 1) * 4 ≤ l.length * 4) := by omega
    have hm4 : l.length * 4 + 4 = (l.length + 1) * 4 := by omega
    refine ⟨upd (kill H is) o (.grow ((encPt (l ++ [.mk v fn args], own ++ [ns])).map .d)), ?_, ⟨by simp, by simp [upd]⟩, fun p a c d => ?_⟩
    · rw [encPt_snoc hl]
      simp [appendO, hsrc, rowV, ho, hE, hle, hni, growO, hnl, hnl2, htk, Term.enc, hm4]
    · simp only [Option.getD_some] at d
      rw [upd_ne d, hk p a c]
end Go.Proofs.Ytfcedichoigbbaa.Am

/-
  Loops by one rule, the next object's number being part of the state. No condition.
-/
namespace Go.Proofs.Ytfcedichoigbbaa.Am
open Go Go.Proofs
/-- What a round does: the loop goes on from another state, or it ends. -/
inductive RoundN {P : Program} {pol : Pol} {c : ACode} {m : Mask} {σ ρ : Type} (N : σ → Nat) (tm : σ → List AV) (Hf : σ → Hp) (I : σ → Prop) (μ : σ → Nat) (res : σ → ρ) (R : ρ → Ex → St → Prop) (s : σ) : Option (Ex × St) → Prop where
  | next (s' : σ) {tm' : List AV} {H' : Hp} {n : Nat} (hn : n = N s') (htm : tm' = tm s') (hH : H' = Hf s') (hI : I s') (hμ : μ s' < μ s) (hres : res s' = res s) : RoundN N tm Hf I μ res R s (aloop P pol c m ⟨tm', H', n⟩)
  | fin (e : Ex) (t : St) (hR : R (res s) e t) : RoundN N tm Hf I μ res R s (some (e, t))
@[congr] theorem RoundN.congr {P : Program} {pol : Pol} {c : ACode} {m : Mask} {σ ρ : Type} {N : σ → Nat} {tm : σ → List AV} {Hf : σ → Hp} {I : σ → Prop} {μ : σ → Nat} {res : σ → ρ} {R : ρ → Ex → St → Prop} {s : σ} {x y : Option (Ex × St)} (h : x = y) :
    RoundN (P := P) (pol := pol) (c := c) (m := m) N tm Hf I μ res R s x = RoundN (P := P) (pol := pol) (c := c) (m := m) N tm Hf I μ res R s y := by rw [h]
theorem loop_ruleN {P : Program} {pol : Pol} {c : ACode} {m : Mask} {σ ρ : Type} {N : σ → Nat} {tm : σ → List AV} {Hf : σ → Hp} {I : σ → Prop} {μ : σ → Nat} {res : σ → ρ} {R : ρ → Ex → St → Prop}
    (h : ∀ s, I s → RoundN (P := P) (pol := pol) (c := c) (m := m) N tm Hf I μ res R s (loopK (aloop P pol) c m (exec P pol (acall P pol) (aloop P pol) c ⟨tm s, Hf s, N s⟩))) :
    ∀ s, I s → ∃ e t, aloop P pol c m ⟨tm s, Hf s, N s⟩ = some (e, t) ∧ R (res s) e t := by
  have key : ∀ n s, μ s < n → I s → ∃ e t, aloop P pol c m ⟨tm s, Hf s, N s⟩ = some (e, t) ∧ R (res s) e t := by
    intro n
    induction n with
    | zero => intro s h; omega
    | succ n ih =>
      intro s hn hI
      have hr := h s hI
      generalize hx : loopK (aloop P pol) c m (exec P pol (acall P pol) (aloop P pol) c ⟨tm s, Hf s, N s⟩) = x at hr
      cases hr with
      | @next s' tm' H' n' hb htm hH hI' hμ hres =>
        obtain ⟨e, t, h1, h2⟩ := ih s' (by omega) hI'
        exact ⟨e, t, aloop_body (by rw [hx, htm, hH, hb, h1]), hres ▸ h2⟩
      | fin e t hR => exact ⟨e, t, aloop_body hx, hR⟩
  exact fun s hI => key (μ s + 1) s (by omega) hI
end Go.Proofs.Ytfcedichoigbbaa.Am

/-
  The program's table of parts: what its function makes. No condition.
-/
namespace Go.Proofs.Ytfcedichoigbbaa.Am
open Go Go.Proofs
set_option maxHeartbeats 4000000
set_option maxRecDepth 20000
set_option linter.unusedSimpArgs false
set_option linter.unusedVariables false

/-- A call that lays a term's parts behind others. -/
def DoesP (t : Term) (oo : Option Oid) (s : Laid) : Prop :=
  ∀ H nx, (∀ o, oo = some o → o.1 < nx) → RowP H oo s → ∃ q : Hp × Nat × Oid, acall Try.prog plc 55 [.d (.agg t.enc), rowV oo s.1.length] H nx = some (.tup [rowV (some q.2.2) (t.lay s).1.1.length, .d (.int .i64 (t.lay s).2)], q.1, q.2.1) ∧ nx ≤ q.2.1 ∧ RowP q.1 (some q.2.2) (t.lay s).1 ∧ q.2.2.1 < q.2.1 ∧
    (∀ o, oo = some o → q.2.2 = o) ∧ (oo = none → nx ≤ q.2.2.1) ∧ ∀ p, p.1 < nx → oo ≠ some p → q.1 p = H p
theorem rowV_some (o : Oid) (n : Nat) : rowV (some o) n = .osl o 0 n 4 (n * 4) := rfl
/-- How the row stands to the one that came in. -/
structure Fol (oo oo' : Option Oid) (b N : Nat) : Prop where
  sm : ∀ o, oo = some o → oo' = some o
  nn : oo = none → ∀ o, oo' = some o → b ≤ o.1
  lt : ∀ o, oo' = some o → o.1 < N
theorem Fol.ne {oo oo' : Option Oid} {b N : Nat} (h : Fol oo oo' b N) {p : Oid} (hp : p.1 < b) (hq : oo ≠ some p) : oo' ≠ some p := by
  cases oo with
  | none => intro e; have := h.nn rfl p e; omega
  | some o => rw [h.sm o rfl]; exact hq
theorem Fol.mono {oo oo' : Option Oid} {b N M : Nat} (h : Fol oo oo' b N) (hN : N ≤ M) : Fol oo oo' b M := ⟨h.sm, h.nn, fun o ho => Nat.lt_of_lt_of_le (h.lt o ho) hN⟩
abbrev laidT (nx : Nat) (oo : Option Oid) (n : Nat) (args : List Term) (i : Nat) : List AV :=
  [.junk, rowV oo n, .junk, .junk, .osl (nx + 1, 1) 0 0 1 0, .d (.int .i64 0), .ptr (nx + 5, 0) 0 4, .junk, .junk, .junk, .junk, .junk, .junk, .d (.sl (encL args) args.length false none), .d (.int .i64 args.length), .d (.int .i64 i), .junk, .junk, .junk, .junk, .junk, .junk, .junk, .junk, .junk, .junk, .junk, .junk, .junk, .junk, .junk, .junk, .junk, .junk, .junk, .junk, .junk, .junk]
structure LaidI (nx : Nat) (oo : Option Oid) (H : Hp) (v : Int) (fn : ByteArray) (args : List Term) (oo' : Option Oid) (st : Laid) (own : List Int) (HH : Hp) (N : Nat) : Prop where
  row : RowP HH oo' st
  fol : Fol oo oo' (nx + 11) N
  cell : HH (nx + 5, 0) = some (.cells [.d (.int .i64 v), .d (.str fn), .d (.sl (encL args) args.length false none), .osl (nx + 6, 4) 0 own.length 1 own.length])
  own : HH (nx + 6, 4) = some (rowI own)
  le : nx + 11 ≤ N
  old : ∀ p, p.1 < nx → oo ≠ some p → HH p = H p
def LaidEnd (nx : Nat) (oo : Option Oid) (H : Hp) (v : Int) (fn : ByteArray) (args : List Term) (r : Laid × List Int) (e : Ex) (t : St) : Prop :=
  ∃ oo' H2 n2, e = .exit 0 ∧ t = ⟨laidT nx oo' r.1.1.length args args.length, H2, n2⟩ ∧ LaidI nx oo H v fn args oo' r.1 r.2 H2 n2
theorem laid_loop (nx : Nat) (oo : Option Oid) (hoo : ∀ o, oo = some o → o.1 < nx) (H : Hp) (v : Int) (fn : ByteArray) (args : List Term) (hok : okL args) (hsz : sizeL args ≤ 1048576)
    (ih : ∀ x ∈ args, ∀ s oo, s.1.length = s.2.length → s.1.length + x.size ≤ 1048576 → DoesP x oo s) (s : Laid) (hsl : s.1.length = s.2.length) (hs0 : s.1.length + sizeL args ≤ 1048576) (H1 : Hp) (hS : LaidI nx oo H v fn args oo s [] H1 (nx + 11)) :
    ∃ e t, aloop Try.prog plc b55_0 ⟨[false, true, false, false, true, true, true, false, false, false, false, false, false, true, true, true, false, false, false, false, false, false, false, false, false, false, false, false, false, false, false, false, true, true, true, true, true, true], none⟩ ⟨laidT nx oo s.1.length args 0, H1, nx + 11⟩ = some (e, t) ∧ LaidEnd nx oo H v fn args (layL args s []) e t := by
  have hn0 := len_sizeLw args
  have hn : args.length ≤ 9223372036854775807 := by omega
  have key := loop_ruleN (P := Try.prog) (pol := plc) (c := b55_0) (m := ⟨[false, true, false, false, true, true, true, false, false, false, false, false, false, true, true, true, false, false, false, false, false, false, false, false, false, false, false, false, false, false, false, false, true, true, true, true, true, true], none⟩)
    (N := fun (x : Nat × Option Oid × Laid × List Int × Hp × Nat) => x.2.2.2.2.2) (tm := fun x => laidT nx x.2.1 x.2.2.1.1.length args x.1) (Hf := fun x => x.2.2.2.2.1)
    (I := fun x => x.1 ≤ args.length ∧ x.2.2.2.1.length = x.1 ∧ x.2.2.1.1.length = x.2.2.1.2.length ∧ x.2.2.1.1.length + sizeL (args.drop x.1) ≤ 1048576 ∧ LaidI nx oo H v fn args x.2.1 x.2.2.1 x.2.2.2.1 x.2.2.2.2.1 x.2.2.2.2.2)
    (μ := fun x => args.length - x.1) (res := fun x => layL (args.drop x.1) x.2.2.1 x.2.2.2.1) (R := LaidEnd nx oo H v fn args)
    (fun x hI => by
      obtain ⟨i, oo1, st, own, HH, N⟩ := x
      obtain ⟨hi, hown, hsame, hsz1, hL⟩ := hI
      simp only at hi hown hsame hsz1 hL ⊢
      have hle := hL.le
      rcases Nat.lt_or_ge i args.length with hl | hl
      · obtain ⟨v', fn', args', a⟩ := at_ok hn hl
        have hdr : sizeL (args.drop i) = (Term.mk v' fn' args').size + sizeL (args.drop (i + 1)) := by rw [a.dr]; rfl
        have hc := ih _ a.mem st oo1 hsame (by omega)
        simp only [DoesP, Term.enc] at hc
        have hb1 : own.length ≤ 68719476735 := by omega
        obtain ⟨⟨H2, N2, o2⟩, h1, h2, h3, h4, h5, h6, h7⟩ := hc (upd (upd HH (N + 3, 3) .vnil) (N + 3, 0) (.cells [.d (.int .i64 v'), .d (.str fn'), .d (.sl (encL args') args'.length false none)])) (N + 14) (fun o ho => by have := hL.fol.lt o ho; omega)
          (hL.row.keep fun o ho => by have := hL.fol.lt o ho; rw [upd_old (by omega), upd_old (by omega)])
        simp only at h1 h2 h3 h4 h5 h6 h7
        have e5 : H2 (nx + 5, 0) = _ := (h7 (nx + 5, 0) (by simp; omega) (hL.fol.ne (by simp) (fun e => by have := hoo _ e; simp at this; omega))).trans ((upd_old (by simp; omega) _ _ _).trans ((upd_old (by simp; omega) _ _ _).trans hL.cell))
        have e6 : H2 (nx + 6, 4) = _ := (h7 (nx + 6, 4) (by simp; omega) (hL.fol.ne (by simp) (fun e => by have := hoo _ e; simp at this; omega))).trans ((upd_old (by simp; omega) _ _ _).trans ((upd_old (by simp; omega) _ _ _).trans hL.own))
        have happ := append_rowI (id := N2 + 4) (H := upd H2 (N2 + 3, 0) (.cells [.d (.int .i64 ((Term.mk v' fn' args').lay st).2)])) (o := (nx + 6, 4)) (o2 := (N2 + 3, 0)) (l := own) (x := ((Term.mk v' fn' args').lay st).2) (by rw [upd_old (o := (nx + 6, 4)) (by simp; omega)]; exact e6) (by simp [upd]) hb1
        have g1 : ∀ x, upd H2 (N2 + 3, 0) x (nx + 5, 0) = H2 (nx + 5, 0) := fun x => upd_old (by simp; omega) _ _ _
        have hw := a.w
        conv => arg 9; arg 4; unfold b55_0
        simp [a.lti, a.sz, a.ltm, a.cells, a.le3, plc_raw, hw, Nat.add_assoc, h1, rowV_some, g1, e5, happ]
        have hf2 : Fol oo (some o2) (nx + 11) (N2 + 9) := by
          refine ⟨fun o ho => by rw [h5 o (hL.fol.sm o ho)], fun ho o ho2 => ?_, fun o ho => by cases ho; omega⟩
          cases ho2
          cases hq : oo1 with
          | none => have := h6 hq; omega
          | some o' => rw [h5 o' hq]; exact hL.fol.nn ho o' hq
        have h9 : ∀ x y z, ∀ p : Oid, p ≠ (nx + 5, 0) → p ≠ (nx + 6, 4) → p.1 < N2 → upd (upd (upd H2 (N2 + 3, 0) x) (nx + 6, 4) y) (nx + 5, 0) z p = H2 p := fun x y z p a c d => by
          rw [upd_ne a, upd_ne c, upd_old (by omega)]
        have ho5 : o2 ≠ (nx + 5, 0) := fun e => hf2.ne (p := (nx + 5, 0)) (by simp) (fun e => by have := hoo _ e; simp at this; omega) (by rw [e])
        have ho6 : o2 ≠ (nx + 6, 4) := fun e => hf2.ne (p := (nx + 6, 4)) (by simp) (fun e => by have := hoo _ e; simp at this; omega) (by rw [e])
        refine .next (i + 1, some o2, ((Term.mk v' fn' args').lay st).1, own ++ [((Term.mk v' fn' args').lay st).2], _, N2 + 9) rfl (by simp [rowV_some]) rfl ⟨hl, by simp; omega, lay_same _ _ hsame, by simp only [lay_size]; omega, ⟨?_, hf2, ?_, ?_, ?_, ?_⟩⟩ (by simp; omega) (by simp only [a.dr, layL])
        · exact h3.keep fun o ho => by cases ho; exact h9 _ _ _ _ ho5 ho6 h4
        · simp only [List.length_append, List.length_singleton]; exact upd_same _ _ _
        · exact (upd_ne (by simp)).trans (upd_same _ _ _)
        · show nx + 11 ≤ N2 + 9; omega
        · intro p hp hq
          have hp5 : p ≠ (nx + 5, 0) := fun e => by rw [e] at hp; simp at hp; omega
          have hp6 : p ≠ (nx + 6, 4) := fun e => by rw [e] at hp; simp at hp; omega
          refine (h9 _ _ _ _ hp5 hp6 (by omega)).trans ((h7 p (by omega) (hL.fol.ne (by omega) hq)).trans ?_)
          rw [upd_old (by omega), upd_old (by omega)]
          exact hL.old p hp hq
      · obtain rfl : i = args.length := Nat.le_antisymm hi hl
        have hr : layL (args.drop args.length) st own = (st, own) := by simp only [List.drop_length, layL]
        simp [b55_0]
        refine .fin _ _ ?_
        simp only [hr]
        exact ⟨oo1, _, _, rfl, rfl, hL.row, hL.fol.mono (by omega), hL.cell, hL.own, by omega, hL.old⟩) (0, oo, s, [], H1, nx + 11) ⟨Nat.zero_le _, rfl, hsl, by simpa using hs0, hS⟩
  simpa using key
theorem laid_ok (t : Term) : t.ok → ∀ (s : Laid) (oo : Option Oid), s.1.length = s.2.length → s.1.length + t.size ≤ 1048576 → DoesP t oo s := by
  refine Term.ind (p := fun t => t.ok → ∀ (s : Laid) (oo : Option Oid), s.1.length = s.2.length → s.1.length + t.size ≤ 1048576 → DoesP t oo s) (fun v fn args ih h s oo hsl hsz => ?_) t
  intro H nx hoo hrow
  have hsz2 : s.1.length + sizeL args ≤ 1048576 := by simp only [Term.size] at hsz; omega
  obtain ⟨e, t, hrun, oo', H2, n2, rfl, rfl, hL⟩ := laid_loop nx oo hoo H v fn args h.2 (by omega) (fun x hx s oo hs hz => ih x hx (okL_mem h.2 _ hx) s oo hs hz) s hsl hsz2
    (Am.upd (Am.upd (Am.upd (Am.upd (Am.upd (Am.upd (Am.upd H (nx, 0) (.cells [.d (.int .i64 v), .d (.str fn), .d (.sl (encL args) args.length false none)])) (nx + 1, 1) .vnil) (nx + 5, 3) .vnil) (nx + 5, 4) .vnil) (nx + 5, 0) (.cells [.d (.int .i64 0), .d (.str (ByteArray.mk #[])), .osl (nx + 5, 3) 0 0 1 0, .osl (nx + 5, 4) 0 0 1 0])) (nx + 6, 4) .vnil)
      (nx + 5, 0) (.cells [.d (.int .i64 v), .d (.str fn), .d (.sl (encL args) args.length false none), .osl (nx + 6, 4) 0 0 1 0]))
    ⟨hrow.keep fun o ho => by have := hoo o ho; rw [upd_old (by omega), upd_old (by omega), upd_old (by omega), upd_old (by omega), upd_old (by omega), upd_old (by omega), upd_old (by omega)],
      ⟨fun o ho => ho, fun ho o ho2 => (by rw [ho] at ho2; cases ho2), fun o ho => by have := hoo o ho; omega⟩, upd_same _ _ _, (upd_ne (by simp)).trans (upd_same _ _ _), Nat.le_refl _,
      fun p hp hq => by rw [upd_old (by omega), upd_old (by omega), upd_old (by omega), upd_old (by omega), upd_old (by omega), upd_old (by omega), upd_old (by omega)]⟩
  have hlz := layL_size args s []
  have hls := layL_same args s [] hsl
  have hlr := layL_ns args s []
  simp only [Term.lay]
  generalize layL args s [] = r at *
  obtain ⟨⟨l, own⟩, ns⟩ := r
  simp only at hrun hlz hls hlr hL ⊢
  have ho5 : oo' ≠ some (n2 + 2, 0) := fun e => by have := hL.fol.lt _ e; simp at this; omega
  have ho6 : oo' ≠ some (nx + 6, 4) := hL.fol.ne (by simp) fun e => by have := hoo _ e; simp at this; omega
  have hle := hL.le
  obtain ⟨H3, h1, h2, h3⟩ := append_part (id := n2 + 3) (H := Am.upd H2 (n2 + 2, 0) (.cells [.d (.int .i64 v), .d (.str fn), .d (.sl (encL args) args.length false none), .osl (nx + 6, 4) 0 ns.length 1 ns.length])) (o2 := (n2 + 2, 0)) (o3 := (nx + 6, 4)) (oo := oo') (l := l) (own := own) (ns := ns) (v := v) (fn := fn) (args := args) hls (by omega)
    (hL.row.keep fun o ho => by have := hL.fol.lt o ho; rw [upd_old (by omega)]) (upd_same _ _ _) ((upd_old (by simp; omega) _ _ _).trans hL.own) ho5 ho6
  refine ⟨(H3, n2 + 8, oo'.getD (n2 + 3, 0)), acall_body code55 ?_, by simp only; omega, h2, ?_, ?_, ?_, ?_⟩
  · simp [laidT] at hrun
    have hc := hL.cell
    cases oo' with
    | none =>
      have hl0 : l = [] := hL.row
      subst hl0
      simp [rowV] at hrun h1
      simp [plc_raw, Term.enc, Nat.add_assoc, hrun, hc, h1, rowV]
    | some o =>
      simp [rowV] at hrun h1
      simp [plc_raw, Term.enc, Nat.add_assoc, hrun, hc, h1, rowV]
  · cases oo' with
    | none => simp only [Option.getD_none]; omega
    | some o => have := hL.fol.lt o rfl; simp only [Option.getD_some]; omega
  · intro o ho
    rw [hL.fol.sm o ho]; rfl
  · intro ho
    cases oo' with
    | none => simp only [Option.getD_none]; omega
    | some o => have := hL.fol.nn ho o rfl; simp only [Option.getD_some]; omega
  · intro p hp hq
    have hp6 : p ≠ (nx + 6, 4) := fun e => by rw [e] at hp; simp at hp; omega
    refine (h3 p (fun e => by rw [e] at hp; simp at hp; omega) hp6 ?_).trans ((upd_old (by omega) _ _ _).trans (hL.old p hp hq))
    cases hq2 : oo' with
    | none => exact fun e => by rw [e] at hp; simp at hp; omega
    | some o => exact fun e => hL.fol.ne (p := p) (by omega) hq (by rw [hq2, e]; rfl)
end Go.Proofs.Ytfcedichoigbbaa.Am

/-
  A map from pairs of numbers to numbers. No condition.
-/
namespace Go.Proofs.Ytfcedichoigbbaa.Am
open Go Go.Proofs
set_option maxHeartbeats 4000000
set_option linter.unusedSimpArgs false
set_option linter.unusedVariables false

abbrev PM := List ((Int × Int) × Int)
def keyD (a c : Int) : D := .agg [.int .i64 a, .int .i64 c]
def encMp : Nat → PM → List (D × AV × Nat)
  | _, [] => []
  | i, ((a, c), v) :: r => (keyD a c, .d (.int .i64 v), i) :: encMp (i + 1) r
def mkM (M : PM) : Am.Obj := .mp (true, [.int .i64, .int .i64]) (encMp 0 M) M.length
def getM : PM → Int → Int → Int
  | [], _, _ => 0
  | ((a, c), v) :: r, x, y => if x = a ∧ y = c then v else getM r x y
def setM : PM → Int → Int → Int → PM
  | [], x, y, v => [((x, y), v)]
  | ((a, c), w) :: r, x, y, v => if x = a ∧ y = c then ((x, y), v) :: r else ((a, c), w) :: setM r x y v
theorem get_set_same (x y v : Int) : ∀ M : PM, getM (setM M x y v) x y = v
  | [] => by simp [setM, getM]
  | ((a, c), w) :: r => by
    by_cases h : x = a ∧ y = c
    · simp [setM, getM, h]
    · simp only [setM, if_neg h, getM]; exact get_set_same x y v r
theorem get_set_ne {x y x' y' : Int} (v : Int) (h : ¬ (x' = x ∧ y' = y)) : ∀ M : PM, getM (setM M x y v) x' y' = getM M x' y'
  | [] => by simp [setM, getM, h]
  | ((a, c), w) :: r => by
    by_cases h2 : x = a ∧ y = c
    · obtain ⟨rfl, rfl⟩ := h2
      simp [setM, getM, h]
    · simp only [setM, if_neg h2, getM]; rw [get_set_ne v h r]
theorem encMp_len : ∀ (i : Nat) (m : PM), (encMp i m).length = m.length
  | _, [] => rfl
  | i, ((a, c), v) :: r => by simp [encMp, encMp_len]
theorem eqK (x y a c : Int) : eqD (keyD x y) (keyD a c) = decide (x = a ∧ y = c) := by
  simp [keyD, eqD, eqL, eq1, Bool.decide_and]
theorem findM_spec (x y v : Int) : ∀ (M : PM) (i : Nat),
    (∃ j w, findK (keyD x y) (encMp i M) i = some (i + j, .d (.int .i64 w), i + j) ∧ getM M x y = w ∧ (encMp i M).set j (keyD x y, .d (.int .i64 v), i + j) = encMp i (setM M x y v) ∧ (setM M x y v).length = M.length) ∨
    (findK (keyD x y) (encMp i M) i = none ∧ getM M x y = 0 ∧ encMp i M ++ [(keyD x y, .d (.int .i64 v), i + M.length)] = encMp i (setM M x y v) ∧ (setM M x y v).length = M.length + 1)
  | [], i => .inr ⟨rfl, rfl, by simp [encMp, setM], rfl⟩
  | ((a, c), w) :: r, i => by
    by_cases h : x = a ∧ y = c
    · obtain ⟨rfl, rfl⟩ := h
      exact .inl ⟨0, w, by simp [encMp, findK, keyD, eqD, eqL, eq1], by simp [getM], by simp [encMp, setM], by simp [setM]⟩
    · have he : eqD (keyD x y) (keyD a c) = false := by rw [eqK]; simpa using h
      rcases findM_spec x y v r (i + 1) with ⟨j, w', h1, h2, h3, h4⟩ | ⟨h1, h2, h3, h4⟩
      · refine .inl ⟨j + 1, w', ?_, ?_, ?_, ?_⟩
        · simp only [encMp, findK, he, Bool.false_eq_true, if_false, h1]
          simp; omega
        · simp only [getM, if_neg h]; exact h2
        · simp only [encMp, List.set_cons_succ, setM, if_neg h]
          rw [show i + (j + 1) = i + 1 + j by omega, h3]
        · simp [setM, if_neg h, h4]
      · refine .inr ⟨?_, ?_, ?_, ?_⟩
        · simp only [encMp, findK, he, Bool.false_eq_true, if_false, h1]
        · simp only [getM, if_neg h]; exact h2
        · simp only [encMp, List.cons_append, List.length_cons, setM, if_neg h]
          rw [show i + (r.length + 1) = i + 1 + r.length by omega, h3]
        · simp [setM, if_neg h, h4]
theorem lookM {H : Hp} {o : Oid} {M : PM} (h : H o = some (mkM M)) (x y : Int) : lookupO Try.prog H 73 (.map o) (.d (.agg [.int .i64 x, .int .i64 y])) false = some (.d (.int .i64 (getM M x y))) := by
  have h1 : findK (.agg [.int .i64 x, .int .i64 y]) (encMp 0 M) 0 = findK (keyD x y) (encMp 0 M) 0 := rfl
  rcases findM_spec x y 0 M 0 with ⟨j, w, h2, h3, _, _⟩ | ⟨h2, h3, _, _⟩ <;> simp [lookupO, entriesOf, h, mkM, h1, h2, h3, -findK]
theorem updM {H : Hp} {o : Oid} {M : PM} (h : H o = some (mkM M)) (x y v : Int) : mapUpdateO Try.prog H 73 (.map o) (.d (.agg [.int .i64 x, .int .i64 y])) (.d (.int .i64 v)) = some (upd H o (mkM (setM M x y v))) := by
  rcases findM_spec x y v M 0 with ⟨j, w, h2, _, h4, h5⟩ | ⟨h2, _, h4, h5⟩
  · simp only [Nat.zero_add, keyD] at h2 h4
    simp [mapUpdateO, mapO, h, mkM, h2, h5, -findK]
    rw [← h4]
  · simp only [Nat.zero_add, keyD] at h2 h4
    simp [mapUpdateO, mapO, h, mkM, h2, h5, -findK]
    rw [← h4]
end Go.Proofs.Ytfcedichoigbbaa.Am

/-
  A search among numbers by a function that runs on the objects. No condition.
-/
namespace Go.Proofs.Ytfcedichoigbbaa.Am
open Go Go.Proofs
set_option maxHeartbeats 4000000
set_option maxRecDepth 20000
set_option linter.unusedSimpArgs false
set_option linter.unusedVariables false

/-- A call on objects that tells whether a number has a property, and keeps what holds of the objects. -/
def Asks (f : FuncId) (caps : List AV) (b : Nat) (I : Hp → Prop) (n : Int) (p : Bool) : Prop :=
  ∀ H nx, b ≤ nx → I H → ∃ q : Hp × Nat, acall Try.prog plc f (.d (.int .i64 n) :: caps) H nx = some (.d (.bool p), q.1, q.2) ∧ nx ≤ q.2 ∧ I q.1
theorem Asks.fn {f : FuncId} {caps : List AV} {b : Nat} {I : Hp → Prop} {n : Int} {p : Bool} (h : Asks f caps b I n p) :
    ∃ (F : Hp → Nat → Hp) (N : Hp → Nat → Nat), ∀ H nx, b ≤ nx → I H → acall Try.prog plc f (.d (.int .i64 n) :: caps) H nx = some (.d (.bool p), F H nx, N H nx) ∧ nx ≤ N H nx ∧ I (F H nx) := by
  have h2 : ∀ z : Hp × Nat, ∃ q : Hp × Nat, b ≤ z.2 → I z.1 → acall Try.prog plc f (.d (.int .i64 n) :: caps) z.1 z.2 = some (.d (.bool p), q.1, q.2) ∧ z.2 ≤ q.2 ∧ I q.1 := fun z => by
    by_cases h1 : b ≤ z.2 ∧ I z.1
    · obtain ⟨q, hq⟩ := h z.1 z.2 h1.1 h1.2
      exact ⟨q, fun _ _ => hq⟩
    · exact ⟨default, fun a b => absurd ⟨a, b⟩ h1⟩
  obtain ⟨G, hG⟩ := Classical.skolem.1 h2
  exact ⟨fun H nx => (G (H, nx)).1, fun H nx => (G (H, nx)).2, fun H nx a b => hG (H, nx) a b⟩
/-- What holds of the objects hangs on the old ones alone. -/
def Old (b : Nat) (I : Hp → Prop) : Prop := ∀ H H', (∀ p : Oid, p.1 < b → H' p = H p) → I H → I H'
theorem Old.below {b k : Nat} {I : Hp → Prop} (h : Old b I) (hk : b ≤ k) {H : Hp} (hI : I H) : I (below k H) := h H _ (fun p hp => below_lt (by omega)) hI
theorem Old.upd {b k : Nat} {I : Hp → Prop} (h : Old b I) (hk : b ≤ k) {H : Hp} (hI : I H) (j : Nat) (x : Am.Obj) : I (Am.upd H (k, j) x) := h H _ (fun p hp => upd_old (by omega) j x H) hI
abbrev idxT (cs : D) (f : FuncId) (caps : List AV) (n i : Nat) : List AV := [.d cs, .fn f caps, .junk, .junk, .d (.int .i64 0), .junk, .junk, .d (.int .i64 n), .d (.int .i64 i), .junk, .junk, .junk, .junk, .junk, .junk, .junk, .junk, .junk, .junk]
def IdxEnd (cs : D) (f : FuncId) (caps : List AV) (n b : Nat) (I : Hp → Prop) (r : Bool) (e : Ex) (t : St) : Prop :=
  if r then ∃ k : Nat, e = .ret ∧ t.tm[4]? = some (.d (.int .i64 k)) ∧ b ≤ t.nx ∧ I t.hp
  else ∃ H' n', e = .exit 0 ∧ t = ⟨idxT cs f caps n n, H', n'⟩ ∧ b ≤ n' ∧ I H'
theorem idxI_ok (f : FuncId) (hf : f = 57 ∨ f = 59) (caps : List AV) (b : Nat) (I : Hp → Prop) (hI : Old b I) (ns : List Int) (hn : ns.length ≤ 9223372036854775807) (nl : Option Bool) (p : Int → Bool) (h : ∀ n ∈ ns, Asks f caps b I n (p n)) :
    ∀ H nx, b ≤ nx → I H → ∃ (k : Int) (q : Hp × Nat), acall Try.prog plc 74 [.d (.sl (encI ns) ns.length false nl), .fn f caps] H nx = some (.d (.int .i64 k), q.1, q.2) ∧ nx ≤ q.2 ∧ I q.1 ∧ decide (0 ≤ k) = ns.any p := by
  intro H nx hb hH
  have hloop := loop_rule (P := Try.prog) (pol := plc) (c := b74_0) (m := ⟨[true, true, false, false, true, false, false, true, true, false, false, false, false, false, false, false, false, false, false], some (nx + 4)⟩)
    (b := nx + 4) (tm := fun (x : Nat × Hp) => idxT (.sl (encI ns) ns.length false nl) f caps ns.length x.1) (Hf := fun x => x.2)
    (I := fun x => x.1 ≤ ns.length ∧ I x.2) (μ := fun x => ns.length - x.1) (res := fun x => (ns.drop x.1).any p) (R := IdxEnd (.sl (encI ns) ns.length false nl) f caps ns.length nx I)
    (fun x nx1 hx => by
      obtain ⟨i, HH⟩ := x
      obtain ⟨hi, hHH⟩ := hx
      simp only at hi hHH ⊢
      rcases Nat.lt_or_ge i ns.length with hl | hl
      · have hg : ns[i]? = some ns[i] := List.getElem?_eq_getElem hl
        obtain ⟨F, N, hFN⟩ := (h _ (List.mem_of_getElem? hg)).fn
        have hdr : ns.drop i = ns[i] :: ns.drop (i + 1) := List.drop_eq_getElem_cons hl
        generalize hy : ns[i] = y at *
        have hli : (i : Int) < (ns.length : Int) := by omega
        have hw : IntKind.i64.wrap ((i : Int) + 1) = (i : Int) + 1 := wrap_i64 (by omega) (by omega)
        have hel : (encI ns).length = ns.length := by simp [encI]
        have he : ∀ h : i < (encI ns).length, (encI ns)[i]'h = .int .i64 y := fun h => by simp [encI, hy]
        have hbk : ∀ k, b ≤ nx1 + (nx + k) := fun k => by omega
        have hFc := fun H nx a c => (hFN H nx a c).1
        have hle : 1 ≤ ns.length - i := by omega
        have hF2 := hFN HH (nx1 + (nx + 13)) (hbk 13) hHH
        conv => arg 9; arg 4; unfold b74_0
        rcases hf with rfl | rfl
        · cases hp : p y
          · rw [hp] at hFc
            simp [hli, hl, hel, he, hw, plc_raw, Nat.add_assoc, hFc, hbk, hHH, hle]
            refine .next (i + 1, below (nx + 4) (F HH (nx1 + (nx + 13)))) ?_ (by simp) rfl ⟨hl, hI.below (by omega) hF2.2.2⟩ (by simp only; omega) (by simp only [hdr, List.any_cons, hp]; rfl)
            have := hF2.2.1; omega
          · rw [hp] at hFc
            simp [hli, hl, hel, he, hw, plc_raw, Nat.add_assoc, hFc, hbk, hHH, hle]
            refine .fin _ _ ?_
            have := hF2.2.1
            simp only [hdr, List.any_cons, hp, Bool.true_or, IdxEnd, if_true]
            exact ⟨i, trivial, rfl, by omega, hI.below (by omega) hF2.2.2⟩
        · cases hp : p y
          · rw [hp] at hFc
            simp [hli, hl, hel, he, hw, plc_raw, Nat.add_assoc, hFc, hbk, hHH, hle]
            refine .next (i + 1, below (nx + 4) (F HH (nx1 + (nx + 13)))) ?_ (by simp) rfl ⟨hl, hI.below (by omega) hF2.2.2⟩ (by simp only; omega) (by simp only [hdr, List.any_cons, hp]; rfl)
            have := hF2.2.1; omega
          · rw [hp] at hFc
            simp [hli, hl, hel, he, hw, plc_raw, Nat.add_assoc, hFc, hbk, hHH, hle]
            refine .fin _ _ ?_
            have := hF2.2.1
            simp only [hdr, List.any_cons, hp, Bool.true_or, IdxEnd, if_true]
            exact ⟨i, trivial, rfl, by omega, hI.below (by omega) hF2.2.2⟩
      · obtain rfl : i = ns.length := Nat.le_antisymm hi hl
        simp [b74_0]
        refine .fin _ _ ?_
        simp only [List.drop_length, List.any_nil, IdxEnd, Bool.false_eq_true, if_false]
        exact ⟨_, _, trivial, rfl, by omega, hI.below (by omega) hHH⟩) (0, H) ⟨Nat.zero_le _, hH⟩
  obtain ⟨e, t, hrun, hR⟩ := hloop
  simp at hrun hR
  cases hq : ns.any p
  · simp only [hq, IdxEnd, Bool.false_eq_true, if_false] at hR
    obtain ⟨H', n', rfl, rfl, h1, h2⟩ := hR
    refine ⟨-1, (H', n' + 1), acall_body code74 ?_, by simp only; omega, h2, by simp⟩
    simp [idxT] at hrun
    simp [hrun]
  · simp only [hq, IdxEnd, if_true] at hR
    obtain ⟨k, rfl, hv, h1, h2⟩ := hR
    refine ⟨k, (t.hp, t.nx), acall_body code74 ?_, h1, h2, by simp⟩
    simp [idxT] at hrun
    simp [hrun, hv]
theorem hasI_ok (f : FuncId) (hf : f = 57 ∨ f = 59) (caps : List AV) (b : Nat) (I : Hp → Prop) (hI : Old b I) (ns : List Int) (hn : ns.length ≤ 9223372036854775807) (nl : Option Bool) (p : Int → Bool) (h : ∀ n ∈ ns, Asks f caps b I n (p n)) :
    ∀ H nx, b ≤ nx → I H → ∃ q : Hp × Nat, acall Try.prog plc 58 [.d (.sl (encI ns) ns.length false nl), .fn f caps] H nx = some (.d (.bool (ns.any p)), q.1, q.2) ∧ nx ≤ q.2 ∧ I q.1 := by
  intro H nx hb hH
  obtain ⟨k, q, h1, h2, h3, h4⟩ := idxI_ok f hf caps b I hI ns hn nl p h H (nx + 6) (by omega) hH
  refine ⟨q, acall_body code58 ?_, by omega, h3⟩
  rcases hf with rfl | rfl <;> simp [plc_raw, Nat.add_assoc, h1, h4]
end Go.Proofs.Ytfcedichoigbbaa.Am


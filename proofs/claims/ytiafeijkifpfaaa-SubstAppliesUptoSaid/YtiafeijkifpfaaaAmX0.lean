/-
  A term's copy, with what is nil told: what the program's function answers. No condition.
-/
import Derived.Test.YtiafeijkifpfaaaAmTp
import Derived.Test.YtiafeijkifpfaaaAmWk
import Derived.Test.YtiafeijkifpfaaaAmC
namespace Go.Proofs.Ytiafeijkifpfaaa.Am
open Go Go.Proofs
set_option maxHeartbeats 4000000
set_option linter.unusedSimpArgs false
set_option linter.unusedVariables false

def pol0 : Pol := { raw := fun f => f == 87 || f == 65 }
theorem pol0_raw (f : FuncId) : pol0.raw f = (f == 87 || f == 65) := rfl
@[simp] theorem pol0_weak (f : FuncId) : pol0.weak f = false := rfl
noncomputable abbrev C0 := acall Try.prog pol0
theorem clone_nil (H : Hp) (nx : Nat) : acall Try.prog pol0 87 [.d (.sl [] 0 false (some true))] H nx = some (.osl (nx + 3, 1) 0 0 1 0, upd (upd H (nx, 1) .vnil) (nx + 3, 1) .vnil, nx + 4) := by
  refine acall_body code87 ?_
  simp [pol0_raw, Nat.add_assoc]
theorem clone_sl (H : Hp) (nx : Nat) (cs : List D) (n : Nat) (hlen : cs.length = n * 3) (hn : n * 3 ≤ 68719476736) : acall Try.prog pol0 87 [.d (.sl cs n false (some false))] H nx = some (.osl (nx + 3, 0) 0 n 3 (n * 3), upd (upd H (nx, 1) .vnil) (nx + 3, 0) (.grow (cs.map .d)), nx + 7) := by
  refine acall_body code87 ?_
  have hn2 : ¬ 68719476736 < n * 3 := by omega
  cases cs with
  | nil =>
    obtain rfl : n = 0 := by simp at hlen; omega
    simp [pol0_raw, appendO, srcCells, srcRaw, growO, kill, Nat.add_assoc]
  | cons c cs =>
    cases n with
    | zero => simp at hlen
    | succ n =>
      simp at hlen
      simp [pol0_raw, appendO, srcCells, srcRaw, growO, kill, hlen, hn2, reify, Nat.add_assoc]
/-! ### Terms with what is nil told -/
mutual
inductive Fill : Term → List D → Prop
  | mk (v : Int) (fn : ByteArray) (args : List Term) (cs : List D) (b : Bool) : FillL args cs → (args ≠ [] → b = false) → Fill (.mk v fn args) [.int .i64 v, .str fn, .sl cs args.length false (some b)]
inductive FillL : List Term → List D → Prop
  | nil : FillL [] []
  | cons (t : Term) (r : List Term) (c cs : List D) : Fill t c → FillL r cs → FillL (t :: r) (c ++ cs)
end
theorem Fill.len {t : Term} {c : List D} (h : Fill t c) : c.length = 3 := by cases h; rfl
theorem FillL.len : ∀ {ts : List Term} {cs : List D}, FillL ts cs → cs.length = ts.length * 3
  | [], _, h => by cases h; rfl
  | t :: r, _, h => by
    cases h with
    | cons _ _ c cs h1 h2 => have := FillL.len h2; have := h1.len; simp; omega
theorem FillL.at : ∀ {ts : List Term} {cs : List D}, FillL ts cs → ∀ (i : Nat) (t : Term), ts[i]? = some t → ∃ c, Fill t c ∧ (cs.drop (i * 3)).take 3 = c
  | [], _, h, i, t, hi => by simp at hi
  | u :: r, _, h, i, t, hi => by
    cases h with
    | cons _ _ c cs h1 h2 =>
      have hl := h1.len
      cases i with
      | zero => simp at hi; subst hi; exact ⟨c, h1, by simp [List.take_append, hl]⟩
      | succ i =>
        obtain ⟨c', h3, h4⟩ := FillL.at h2 i t (by simpa using hi)
        refine ⟨c', h3, ?_⟩
        rw [show (i + 1) * 3 = c.length + i * 3 by omega, List.drop_append, List.drop_of_length_le (by omega), List.nil_append, show c.length + i * 3 - c.length = i * 3 by omega]
        exact h4
theorem upd_swap {H : Hp} {a b : Oid} {x x' y : Am.Obj} (h : a ≠ b) : upd (upd (upd H a x) b y) a x' = upd (upd H a x') b y := by
  funext p
  simp only [upd]
  by_cases h1 : p = a
  · simp [h1, h]
  · by_cases h2 : p = b
    · subst h2; simp [h1]
    · simp [h1, h2]
theorem wkL_append : ∀ (a b : List D), wkL (a ++ b) = wkL a ++ wkL b
  | [], _ => rfl
  | x :: r, b => by simp [wkL_append r b]
theorem encL_append' : ∀ (a b : List Term), encL (a ++ b) = encL a ++ encL b
  | [], _ => rfl
  | t :: r, b => by simp [encL, encL_append' r b]
abbrev cloneB (v : Int) (fn : ByteArray) (cs : List D) (n : Nat) : Hp :=
  upd (upd (upd (upd (fun _ => none) (0, 0) (.cells [.d (.int .i64 v), .d (.str fn), .d (.sl cs n false (some false))])) (1, 3) .vnil) (1, 0) (.cells [.d (.int .i64 0), .d (.str (ByteArray.mk #[])), .osl (1, 3) 0 0 1 0])) (7, 1) .vnil
abbrev cloneH (v : Int) (fn : ByteArray) (cs : List D) (n : Nat) (row : List D) : Hp := upd (upd (cloneB v fn cs n) (10, 0) (.grow (row.map .d))) (0, 0) (.cells [.d (.int .i64 v), .d (.str fn), .osl (10, 0) 0 n 3 (n * 3)])
def CopyEnd (v : Int) (fn : ByteArray) (args : List Term) (cs : List D) (e : Ex) (t : St) : Prop :=
  ∃ row : List D, row.length = args.length * 3 ∧ wkL row = encL args ∧ AtExit 0 [.junk, .ptr (0, 0) 0 3, .ptr (1, 0) 0 3, .junk, .junk, .junk, .junk, .junk, .junk, .junk, .osl (10, 0) 0 args.length 3 (args.length * 3), .d (.int .i64 args.length), .d (.int .i64 args.length), .junk, .junk, .junk, .junk, .junk, .junk, .junk, .junk, .junk, .junk, .junk, .junk] (cloneH v fn cs args.length row) e t
def Copied (t : Term) (c : List D) : Prop := ∃ v fn args zs nl, t = .mk v fn args ∧ pcl C0 66 [.agg c] = some (.agg [.int .i64 v, .str fn, .sl zs args.length false (some nl)]) ∧ wkL zs = encL args
theorem copy0 (t : Term) : ∀ c, Fill t c → t.size ≤ 1048576 → Copied t c := by
  refine Term.ind (p := fun t => ∀ c, Fill t c → t.size ≤ 1048576 → Copied t c) (fun v fn args ih c hc hsz => ?_) t
  simp only [Term.size] at hsz
  cases hc with
  | mk _ _ _ cs b hf hb =>
  have hlen := hf.len
  have hall : args.length ≤ sizeL args := by
    clear ih hf hb hlen hsz
    induction args with
    | nil => simp
    | cons x r ih => have := x.size_pos; simp only [List.length_cons, sizeL]; omega
  cases b
  · have hloop := loop_rule (P := Try.prog) (pol := pol0) (c := b66_0) (m := ⟨[false, true, true, false, false, false, false, false, false, false, true, true, true, false, false, false, false, false, false, false, false, false, false, false, true], some 18⟩)
      (b := 18) (tm := fun (s : Nat × List D) => [.junk, .ptr (0, 0) 0 3, .ptr (1, 0) 0 3, .junk, .junk, .junk, .junk, .junk, .junk, .junk, .osl (10, 0) 0 args.length 3 (args.length * 3), .d (.int .i64 args.length), .d (.int .i64 s.1), .junk, .junk, .junk, .junk, .junk, .junk, .junk, .junk, .junk, .junk, .junk, .junk]) (Hf := fun s => cloneH v fn cs args.length s.2)
      (I := fun s => s.1 ≤ args.length ∧ s.2.length = args.length * 3 ∧ wkL (s.2.take (s.1 * 3)) = encL (args.take s.1) ∧ s.2.drop (s.1 * 3) = cs.drop (s.1 * 3)) (μ := fun s => args.length - s.1) (res := fun s => ()) (R := fun _ e t => CopyEnd v fn args cs e t)
      (fun s nx hi => by
        obtain ⟨i, row⟩ := s
        obtain ⟨hi, hrl, hwk, hdr⟩ := hi
        simp only at hi hrl hwk hdr ⊢
        rcases Nat.lt_or_ge i args.length with hl | hl
        · have hget : args[i]? = some args[i] := List.getElem?_eq_getElem hl
          obtain ⟨c, hfc, hc⟩ := hf.at i _ hget
          obtain ⟨v', fn', args', zs, znl, ht', hr, hzs⟩ := ih args[i] (List.getElem_mem hl) c hfc (by have := sizeL_mem (List.getElem_mem hl); omega)
          rw [← hdr] at hc
          have htk : args.take (i + 1) = args.take i ++ [.mk v' fn' args'] := by rw [← ht']; exact (List.take_append_getElem hl).symm
          rw [ht'] at hfc
          cases hfc with
          | mk _ _ _ cs' b' hf' hb' =>
          have hli : (i : Int) < (args.length : Int) := by omega
          have h1 : i * 3 < args.length * 3 := by omega
          have h2 : 3 ≤ args.length * 3 - i * 3 := by omega
          have h3 : i * 3 + 3 ≤ args.length * 3 := by omega
          have hw : IntKind.i64.wrap ((i : Int) + 1) = (i : Int) + 1 := wrap_i64 (by omega) (by omega)
          have hca : List.take 3 (List.drop (i * 3) (List.map AV.d row)) = [.d (.int .i64 v'), .d (.str fn'), .d (.sl cs' args'.length false (some b'))] := by
            rw [← List.map_drop, ← List.map_take, hc]; rfl
          conv => arg 9; arg 4; unfold b66_0
          simp [hli, hl, h1, h2, h3, hw, hrl, hca, pol0_raw, hr]
          have e3 : (row.take (i * 3)).length = i * 3 := by rw [List.length_take]; omega
          refine .next (i + 1, row.take (i * 3) ++ ([.int .i64 v', .str fn', .sl zs args'.length false (some znl)] ++ row.drop (i * 3 + 3))) (by omega) (by simp) ?_ ⟨hl, ?_, ?_, ?_⟩ (by simp; omega) rfl
          · rw [upd_swap (by simp)]
            simp [cloneH, cloneB, List.map_take, List.map_drop]
          · simp only [List.length_append, List.length_take, List.length_drop, List.length_cons, List.length_nil]; omega
          · simp only
            rw [show (i + 1) * 3 = (row.take (i * 3)).length + 3 by omega, List.take_length_add_append, wkL_append, hwk, htk, encL_append']
            simp [encL, Term.enc, hzs]
          · simp only
            rw [show (i + 1) * 3 = (row.take (i * 3)).length + 3 by omega, List.drop_length_add_append]
            have := congrArg (List.drop 3) hdr
            rw [List.drop_drop, List.drop_drop] at this
            simp only [List.cons_append, List.nil_append, List.drop_succ_cons, List.drop_zero]
            rw [this, show (row.take (i * 3)).length + 3 = i * 3 + 3 by omega]
        · obtain rfl : i = args.length := Nat.le_antisymm hi hl
          simp [b66_0]
          refine .fin _ _ ⟨row, hrl, ?_, .mk⟩
          rw [List.take_of_length_le (by omega), List.take_length] at hwk
          exact hwk) (0, cs) ⟨Nat.zero_le _, hlen, by simp [encL], by simp⟩
    obtain ⟨e, st, hrun, row, hrl, hrw, rfl, nx, rfl⟩ := hloop
    simp at hrun
    refine ⟨v, fn, args, row, false, rfl, pcl_body code66 ?_, hrw⟩
    have hmd := fun H => mapD_encT H 4 row
    have htk : List.take (args.length * 3) (List.map AV.d row) = List.map AV.d row := List.take_of_length_le (by simp [hrl])
    have hc := fun H nx => clone_sl H nx cs args.length hlen (by omega)
    simp [cloneH, cloneB] at hrun
    simp [pol0_raw, hc, hrun, hmd, htk, hrl]
  · have ha : args = [] := Classical.byContradiction fun h => by cases hb h
    subst ha
    cases hf
    refine ⟨v, fn, [], [], true, rfl, pcl_body code66 ?_, rfl⟩
    have hloop := loop_rule (P := Try.prog) (pol := pol0) (c := b66_0) (m := ⟨[false, true, true, false, false, false, false, false, false, false, true, true, true, false, false, false, false, false, false, false, false, false, false, false, true], some 15⟩)
      (b := 15) (tm := fun (s : Unit) => [.junk, .ptr (0, 0) 0 3, .ptr (1, 0) 0 3, .junk, .junk, .junk, .junk, .junk, .junk, .junk, .osl (10, 1) 0 0 1 0, .d (.int .i64 0), .d (.int .i64 0), .junk, .junk, .junk, .junk, .junk, .junk, .junk, .junk, .junk, .junk, .junk, .junk]) (Hf := fun _ => upd (upd (upd (upd (upd (upd (fun x => none) (0, 0) (.cells [.d (.int .i64 v), .d (.str fn), .d (.sl [] 0 false (some true))])) (1, 3) .vnil) (1, 0) (.cells [.d (.int .i64 0), .d (.str (ByteArray.mk #[])), .osl (1, 3) 0 0 1 0])) (7, 1) .vnil) (10, 1) .vnil) (0, 0) (.cells [.d (.int .i64 v), .d (.str fn), .osl (10, 1) 0 0 1 0]))
      (I := fun _ => True) (μ := fun _ => 0) (res := fun _ => ()) (R := fun _ e t => AtExit 0 [.junk, .ptr (0, 0) 0 3, .ptr (1, 0) 0 3, .junk, .junk, .junk, .junk, .junk, .junk, .junk, .osl (10, 1) 0 0 1 0, .d (.int .i64 0), .d (.int .i64 0), .junk, .junk, .junk, .junk, .junk, .junk, .junk, .junk, .junk, .junk, .junk, .junk] (upd (upd (upd (upd (upd (upd (fun x => none) (0, 0) (.cells [.d (.int .i64 v), .d (.str fn), .d (.sl [] 0 false (some true))])) (1, 3) .vnil) (1, 0) (.cells [.d (.int .i64 0), .d (.str (ByteArray.mk #[])), .osl (1, 3) 0 0 1 0])) (7, 1) .vnil) (10, 1) .vnil) (0, 0) (.cells [.d (.int .i64 v), .d (.str fn), .osl (10, 1) 0 0 1 0])) e t)
      (fun s nx hi => by
        simp [b66_0]
        exact .fin _ _ .mk) () trivial
    obtain ⟨e, st, hrun, rfl, nx, rfl⟩ := hloop
    simp [pol0_raw, clone_nil, hrun]
end Go.Proofs.Ytiafeijkifpfaaa.Am

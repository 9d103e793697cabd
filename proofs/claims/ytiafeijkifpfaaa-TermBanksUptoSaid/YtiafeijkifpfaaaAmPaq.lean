/-
  Joined texts: AmRowB, AmJz, AmBw. No condition.
-/
import Derived.Test.YtiafeijkifpfaaaAmPap
import Derived.WalkKit
import Derived.ProofKit
import Derived.OpenShut
import Derived.ShutString
import Derived.ChangeOld
import Derived.Below
import Derived.JoinedCond
/-
 What the statements' arguments are read as: terms, binds. No condition.
-/
namespace Go.Proofs.Ytiafeijkifpfaaa.Am
open Go Go.Proofs
open Go.ChangeShapes Go.WideShapes Go.ChangeAt Go.RowKit
open Go.ChangeMaps (open_string shut_string)
set_option linter.unusedVariables false
theorem row_own : ownKnob Try.prog.godebug = none := by kernel_rfl
theorem row_laidOut : laidOutB Try.prog = true := by kernel_rfl
theorem encL_flat : ∀ (ts : List Am.Term), encL ts = ts.flatMap Am.Term.enc
 | [] => rfl
 | t :: r => by simp [encL, encL_flat r]
theorem okL_of : ∀ {ts : List Am.Term}, (∀ x ∈ ts, x.ok) → okL ts
 | [], _ => trivial
 | t :: r, h => ⟨h t (by simp), okL_of fun x hx => h x (by simp [hx])⟩
theorem sizeL_sum : ∀ (ts : List Am.Term), sizeL ts = (ts.map Am.Term.size).sum
 | [] => rfl
 | t :: r => by simp [sizeL, sizeL_sum r]
theorem reads_term : ∀ n, ReadsB Try.prog 32 n Am.Term.enc Am.Term.ok Am.Term.size
 | 0 => .zero
 | n + 1 => by
  have hs : ReadsB Try.prog 30 n (fun xs : List Am.Term => [D.sl (xs.flatMap Am.Term.enc) xs.length false none]) (fun xs => xs.length ≤ maxLen ∧ ∀ x ∈ xs, x.ok) (fun xs => (xs.map Am.Term.size).sum + 1) := by
   cases n with
   | zero => exact .zero
   | succ m => exact .slice Try.underlying30 (by rw [show Try.prog.cellsOf 32 = 3 from by kernel_rfl]; decide) ((reads_term (m + 1)).le (by omega))
  exact (ReadsB.struct3 (s0 := 1) (s1 := 1) (s2 := 1) Try.underlying32 (by kernel_rfl) ⟨by kernel_rfl, rfl⟩ ⟨by kernel_rfl, rfl⟩ ⟨by kernel_rfl, rfl⟩ (ReadsB.int Try.underlying3) (ReadsB.str Try.underlying9) hs).map (fun x => .mk x.1 x.2.1 x.2.2)
   (fun x => by simp [Am.Term.enc, encL_flat]) (fun x hx => ⟨by have := hx.2.2.1; simp [maxLen] at this; omega, okL_of hx.2.2.2⟩) (fun x => by simp only [Am.Term.size, sizeL_sum]; omega)
theorem sum_one {α : Type} (l : List α) : (l.map fun _ => 1).sum = l.length := by induction l <;> simp_all <;> omega
def okBz (bs : List Bd) : Prop := okB bs
theorem encB_flat (l : List Bd) : encB l = l.flatMap Bd.enc := rfl
theorem reads_bind (m : Nat) : ReadsB Try.prog 61 m Bd.enc (fun b => b.t.ok) (fun b => b.t.size) := by
 cases m with
 | zero => exact .zero
 | succ k =>
  exact (ReadsB.struct2 (s0 := 1) (s1 := 3) Try.underlying61 (by kernel_rfl) ⟨by kernel_rfl, rfl⟩ ⟨by kernel_rfl, rfl⟩ (ReadsB.int Try.underlying3) (reads_term k)).map (fun x => ⟨x.1, x.2⟩) (fun x => rfl) (fun x hx => hx.2) (fun x => by show x.2.size ≤ 1 + x.2.size + 1; omega)
theorem reads_binds (n : Nat) : ReadsB Try.prog 55 n (fun bs : List Bd => [D.sl (encB bs) bs.length false none]) okB (fun bs => (bs.map fun b => b.t.size).sum) := by
 cases n with
 | zero => exact .zero
 | succ m =>
  exact (ReadsB.slice Try.underlying55 (by rw [show Try.prog.cellsOf 61 = 4 from by kernel_rfl]; decide) (reads_bind m)).map (fun xs => xs) (fun xs => rfl) (fun xs hx => ⟨by have := hx.1; simp [maxLen] at this; omega, hx.2⟩) (fun xs => Nat.le_succ _)
theorem binds_le {bs : List Bd} {n : Nat} (h : (bs.map fun b => b.t.size).sum ≤ n) : ∀ x ∈ bs, x.t.size ≤ n := by
 induction bs with
 | nil => intro x hx; simp at hx
 | cons b r ih =>
  intro x hx
  simp only [List.map_cons, List.sum_cons] at h
  rcases List.mem_cons.1 hx with rfl | hx
  ·omega
  ·have := ih (by omega) x hx; omega
theorem binds_len {bs : List Bd} {n : Nat} (h : (bs.map fun b => b.t.size).sum ≤ n) : bs.length ≤ n := by
 have : bs.length ≤ (bs.map fun b => b.t.size).sum := by
  clear h
  induction bs with
  | nil => simp
  | cons b r ih => have := b.t.size_pos; simp only [List.map_cons, List.sum_cons, List.length_cons]; omega
 omega
theorem reads_terms (n : Nat) : ReadsB Try.prog 30 n (fun xs : List Am.Term => [D.sl (encL xs) xs.length false none]) (fun xs => xs.length ≤ maxLen ∧ ∀ x ∈ xs, x.ok) (fun xs => (xs.map Am.Term.size).sum) := by
 cases n with
 | zero => exact .zero
 | succ m =>
  exact (ReadsB.slice Try.underlying30 (by rw [show Try.prog.cellsOf 32 = 3 from by kernel_rfl]; decide) (reads_term m)).map (fun xs => xs) (fun xs => by simp [encL_flat]) (fun xs hx => hx) (fun xs => Nat.le_succ _)
theorem terms_le {l : List Am.Term} {n : Nat} (h : (l.map Am.Term.size).sum ≤ n) : ∀ x ∈ l, x.size ≤ n := by
 induction l with
 | nil => intro x hx; simp at hx
 | cons b r ih =>
  intro x hx
  simp only [List.map_cons, List.sum_cons] at h
  rcases List.mem_cons.1 hx with rfl | hx
  ·omega
  ·have := ih (by omega) x hx; omega
def Op3.enc (x : Op3) : List D := [.int .i64 x.1] ++ [.int .i64 x.2.1] ++ x.2.2.enc
theorem encP_flat : ∀ l : List Op3, encP l = l.flatMap Op3.enc
 | [] => rfl
 | (k, i, .mk v fn args) :: r => by simp [encP, Op3.enc, Am.Term.enc, Am.Term.v, Am.Term.fn, Am.Term.args, encP_flat r]
theorem reads_op3 (m : Nat) : ReadsB Try.prog 34 m Op3.enc (fun x => x.2.2.ok) (fun x => x.2.2.size) := by
 cases m with
 | zero => exact .zero
 | succ k =>
  exact (ReadsB.struct3 (s0 := 1) (s1 := 1) (s2 := 3) Try.underlying34 (by kernel_rfl) ⟨by kernel_rfl, rfl⟩ ⟨by kernel_rfl, rfl⟩ ⟨by kernel_rfl, rfl⟩ (ReadsB.int Try.underlying3) (ReadsB.int Try.underlying3) (reads_term k)).map (fun x => (x.1, x.2.1, x.2.2)) (fun x => rfl) (fun x hx => hx.2.2) (fun x => by show x.2.2.size ≤ 1 + 1 + x.2.2.size + 1; omega)
theorem reads_ops3 (n : Nat) : ReadsB Try.prog 22 n (fun xs : List Op3 => [D.sl (encP xs) xs.length false none]) (fun xs => xs.length ≤ maxLen ∧ ∀ x ∈ xs, x.2.2.ok) (fun xs => (xs.map fun x => x.2.2.size).sum) := by
 cases n with
 | zero => exact .zero
 | succ m =>
  exact (ReadsB.slice Try.underlying22 (by rw [show Try.prog.cellsOf 34 = 5 from by kernel_rfl]; decide) (reads_op3 m)).map (fun xs => xs) (fun xs => by simp [encP_flat]) (fun xs hx => hx) (fun xs => Nat.le_succ _)
theorem ops_le {l : List Op3} {n : Nat} (h : (l.map fun x => x.2.2.size).sum ≤ n) : ∀ x ∈ l, x.2.2.size ≤ n := by
 induction l with
 | nil => intro x hx; simp at hx
 | cons b r ih =>
  intro x hx
  simp only [List.map_cons, List.sum_cons] at h
  rcases List.mem_cons.1 hx with rfl | hx
  ·omega
  ·have := ih (by omega) x hx; omega
theorem arg_slice {w : World} {a : Option Addr} {l c : Nat} {x : D} (h : CD w [x] (Value.slice a l c).cells.toList) : RepD (· < w.heap.size) w x (.slice a l c) := by
 have := h.rep 0 x rfl
 simpa [Value.cells] using this
theorem arg_agg {w : World} {cs : Array Value} {ds : List D} (h : CD w ds (Value.agg cs).cells.toList) : RepD (· < w.heap.size) w (.agg ds) (.agg cs) := by
 have hl := h.len
 simp only [Value.cells, Array.length_toList] at hl
 refine .agg ds cs hl (fun j hj => ?_) (fun j x hx => ?_)
 ·have := h.one j (by simpa [Value.cells] using hj)
  simpa [Value.cells] using this
 ·have := h.rep j x hx
  simpa [Value.cells] using this
end Go.Proofs.Ytiafeijkifpfaaa.Am

/-
 Both banks do the same behind any calls: the loop. No condition.
-/
namespace Go.Proofs.Ytiafeijkifpfaaa.Am
open Go Go.Proofs
set_option maxHeartbeats 4000000
set_option maxRecDepth 20000
set_option linter.unusedSimpArgs false
set_option linter.unusedVariables false
structure BaS where
 i : Nat
 H : Hp
 N : Nat
 P : Int → Oid
 L : List Nd
 q : Oid
 v : AV
structure BaI (lim : Int) (o m1 m2 oB : Oid) (l : List Op3) (s : BaS) : Prop where
 le : s.i ≤ l.length
 pr : Pair s.H s.N o m1 m2 s.P lim s.L oB s.q s.L s.v
 ok : BkOk s.L s.i
abbrev baT (l : List Op3) (o oB : Oid) (i : Nat) : List AV := [.junk, .d (dP l), .junk, .junk, .d (.bool false), .ptr o 0 3, .junk, .ptr oB 0 2, .d (.int .i64 i), .junk, .junk, .junk, .junk, .junk, .junk, .junk, .junk, .junk, .junk, .junk, .junk, .junk, .junk, .junk, .junk, .junk, .junk, .junk, .junk, .junk, .junk, .junk, .junk, .junk, .junk, .junk, .junk, .junk, .junk, .junk, .junk, .junk, .junk, .junk, .junk, .junk, .junk, .junk, .junk, .junk, .junk, .junk, .junk, .junk, .junk, .junk, .junk, .junk, .junk, .junk, .junk, .junk, .junk, .junk, .junk, .junk, .junk, .junk, .junk, .junk, .junk, .junk, .junk, .junk, .junk, .junk, .junk, .junk, .junk, .junk, .junk, .junk, .junk, .junk, .junk, .junk, .junk, .junk, .junk, .junk, .junk, .junk, .junk, .junk, .junk, .junk, .junk, .junk, .junk, .junk, .junk, .junk, .junk, .junk, .junk, .junk, .junk, .junk, .junk, .junk, .junk, .junk, .junk, .junk, .junk, .junk, .junk, .junk, .junk, .junk, .junk, .junk, .junk, .junk, .junk, .junk, .junk, .junk, .junk, .junk, .junk, .junk, .junk, .junk, .junk, .junk, .junk, .junk, .junk, .junk, .junk, .junk, .junk, .junk, .junk, .junk, .junk, .junk, .junk, .junk, .junk, .junk, .junk, .junk, .junk, .junk, .junk, .junk, .junk, .junk, .junk, .junk, .junk]
def BaR (l : List Op3) (o oB : Oid) (_ : Unit) (e : Ex) (st : St) : Prop :=
 AtRet 4 (.d (.bool true)) e st ∨ (e = .exit 0 ∧ ∃ H n, st = ⟨baT l o oB l.length, H, n⟩)
theorem reifyAll1 (k : Nat) (H : Hp) (x : D) : reifyAll k H [.d x] = some ([x], []) := by simp only [reifyAll, mapD, reifyD]; simp
theorem row_len {H : Hp} {N : Nat} {oB q : Oid} {lim : Int} {L : List Nd} {v : AV} (h : DH H N oB q lim L v) : ∃ a b c, v = .osl q 0 a b c ∧ a = L.length := by
 have hr := h.row
 obtain ⟨a, b, c, rfl⟩ := h.osl
 generalize encN L = cs at hr
 generalize L.length = m at hr
 cases hr with
 | vn _ _ => exact ⟨_, _, _, rfl, rfl⟩
 | row _ _ _ _ _ => exact ⟨_, _, _, rfl, rfl⟩
theorem banks_loop (lim : Int) (o m1 m2 oB : Oid) (l : List Op3) (hl : l.length ≤ 60) (hok : ∀ x ∈ l, x.2.2.ok) (hsz : ∀ x ∈ l, (x.2.2.size : Int) ≤ 4611686018427387904) (s0 : BaS) (h0 : BaI lim o m1 m2 oB l s0) (hi : s0.i = 0) :
  ∃ e st, aloop Try.prog plc b3_0 ⟨[false, true, false, false, true, true, false, true, true, false, false, false, false, false, false, false, false, false, false, false, false, false, false, false, false, false, false, false, false, false, false, false, false, false, false, false, false, false, false, false, false, false, false, false, false, false, false, false, false, false, false, false, false, false, false, false, false, false, false, false, false, false, false, false, false, false, false, false, false, false, false, false, false, false, false, false, false, false, false, false, false, false, false, false, false, false, false, false, false, false, false, false, false, false, false, false, false, false, false, false, false, false, false, false, false, false, false, false, false, false, false, false, false, false, false, false, false, false, false, false, false, false, false, false, false, false, false, false, false, false, false, false, false, false, false, false, false, false, false, false, false, false, false, false, false, false, false, false, false, false, false, false, false, false, false, false, false, false, false, false, false, false, true], none⟩ ⟨baT l o oB 0, s0.H, s0.N⟩ = some (e, st) ∧ BaR l o oB () e st := by
 have key := loop_ruleN (P := Try.prog) (pol := plc) (c := b3_0) (m := ⟨[false, true, false, false, true, true, false, true, true, false, false, false, false, false, false, false, false, false, false, false, false, false, false, false, false, false, false, false, false, false, false, false, false, false, false, false, false, false, false, false, false, false, false, false, false, false, false, false, false, false, false, false, false, false, false, false, false, false, false, false, false, false, false, false, false, false, false, false, false, false, false, false, false, false, false, false, false, false, false, false, false, false, false, false, false, false, false, false, false, false, false, false, false, false, false, false, false, false, false, false, false, false, false, false, false, false, false, false, false, false, false, false, false, false, false, false, false, false, false, false, false, false, false, false, false, false, false, false, false, false, false, false, false, false, false, false, false, false, false, false, false, false, false, false, false, false, false, false, false, false, false, false, false, false, false, false, false, false, false, false, false, false, true], none⟩)
  (N := fun s : BaS => s.N) (tm := fun s => baT l o oB s.i) (Hf := fun s => s.H) (I := BaI lim o m1 m2 oB l) (μ := fun s => l.length - s.i) (res := fun _ => ()) (R := BaR l o oB)
  (fun s hI => by
   rcases Nat.lt_or_ge s.i l.length with hlt | hlt
   ·obtain ⟨k, x, t, a⟩ := p_at (by omega) hlt
    have htok := hok _ a.mem
    have hts := hsz _ a.mem
    simp only at htok hts
    have hsm := small_ok t htok
    obtain ⟨Hz, hHz⟩ : ∃ Hz, Hz = upd (upd s.H (s.N + 8, 5) .vnil) (s.N + 8, 0) (.cells [.d (.int .i64 k), .d (.int .i64 x), .d (.int .i64 t.v), .d (.str t.fn), .d (.sl (encL t.args) t.args.length false none)]) := ⟨_, rfl⟩
    have hz0 : Hz (s.N + 8, 0) = some (.cells [.d (.int .i64 k), .d (.int .i64 x), .d (.int .i64 t.v), .d (.str t.fn), .d (.sl (encL t.args) t.args.length false none)]) := by rw [hHz]; exact upd_same _ _ _
    have hpz : ∀ M, s.N ≤ M → Pair Hz M o m1 m2 s.P lim s.L oB s.q s.L s.v := fun M hM => hI.pr.old (fun p hp => by rw [hHz, upd_old (by omega), upd_old (by omega)]) hM
    by_cases hS : t.sizeW ≤ 300 ∧ t.depthW ≤ 100
    ·have hs300 : t.size ≤ 300 := by have := hS.1; rw [sizeW_eq _ hts] at this; omega
     have hfit : t.rightE = 0 → t.fits := fun he => shape_fits _ ((rightE_iff _ hts).1 he).1
     have hk60 := hI.le
     have hkept := hI.ok.kp
     have hLs := hI.ok.sz
     have hpl := parts_len t
     have hnf : ∀ p : Oid, s.N ≤ p.1 → ¬ Ft o m1 m2 s.P s.L p := fun p hp e => by have := hI.pr.bh.foot_lt e; omega
     have hoB := hI.pr.dh.ltB
     have hqB := hI.pr.dh.ltQ
     by_cases hk1 : k = 1
     ·subst hk1
      obtain ⟨H1, n1, P1, c1, d1⟩ := make_ok (nx := s.N + 27) (hpz (s.N + 27) (by omega)).bh hI.ok.bk hI.ok.lv (Nat.le_refl _) (by omega) (fun n hn => by have := hkept n hn; omega) t htok (by omega) hfit
      have g1 := d1.le
      have p1 := (hpz (s.N + 27) (by omega)).bank (Nat.le_refl _) d1
      have z1 : H1 (s.N + 8, 0) = _ := (d1.fr (s.N + 8, 0) (by simp only; omega) (hnf _ (by simp only; omega))).trans hz0
      obtain ⟨H2, n2, q2, v2, c2, d2⟩ := makeR_ok (nx := n1 + 9) p1.dh (by omega) hI.ok.bk (fun n hn => (hI.ok.ok n hn).ok) (by omega) (fun n hn => by have := hkept n hn; omega) t htok (by omega) (okP t htok) hfit
      have g2 := d2.le
      have p2 := p1.doc (by omega) d2
      obtain ⟨id, er, hmk⟩ : ∃ id er, (makeB lim s.L t).1 = (id, er) := ⟨_, _, rfl⟩
      rw [hmk] at c1 c2
      have hlen := fun nx => len_ok p2.bh (hI.ok.make lim htok hs300 hfit).bk nx
      obtain ⟨z2, z3, z4, hv2, hz2⟩ := row_len p2.dh
      have hroot := p2.dh.root
      rw [hv2] at hroot
      simp only at c1 c2
      have hnext : ∀ n, n2 ≤ n → BaI lim o m1 m2 oB l ⟨s.i + 1, H2, n, P1, (makeB lim s.L t).2, q2, v2⟩ := fun n hn => ⟨hlt, p2.old (fun _ _ => rfl) hn, hI.ok.make lim htok hs300 hfit⟩
      generalize (makeB lim s.L t).2 = L2 at *
      obtain ⟨v, fn, args⟩ := t
      rw [sizeW_eq _ hts, decide_eq_true hS.2, decide_eq_true (by omega)] at hsm
      have adr := a.dr
      simp [Term.enc] at hsm c1 c2
      simp only [Term.v, Term.fn, Term.args] at adr hz0 hHz z1
      simp [b3_0, plc_raw, a.lti, a.len, a.ltm, adr, a.le5, a.w, ← hHz, hz0, hsm, c1, z1, c2, hlen, hroot, hz2, Nat.add_assoc]
      exact .next _ rfl rfl rfl (hnext (n2 + 28) (by omega)) (by simp only; omega) rfl
     ·by_cases hk2 : k = 2
      ·subst hk2
       obtain ⟨H1, n1, c1, d1⟩ := dropB_ok (nx := s.N + 25) (hpz (s.N + 25) (by omega)).bh hI.ok.bk hI.ok.lv (Nat.le_refl _) (by omega) (fun n hn => by have := hkept n hn; omega) x
       have g1 := d1.le
       have p1 := (hpz (s.N + 25) (by omega)).bank (Nat.le_refl _) d1
       have z1 : H1 (s.N + 8, 0) = _ := (d1.fr (s.N + 8, 0) (by simp only; omega) (hnf _ (by simp only; omega))).trans hz0
       obtain ⟨H2, n2, q2, v2, c2, d2⟩ := dropR_ok (nx := n1 + 5) p1.dh (by omega) hI.ok.bk hI.ok.ok (by omega) (fun n hn => by have := hkept n hn; omega) x
       have g2 := d2.le
       have p2 := p1.doc (by omega) d2
       have hlen := fun nx => len_ok p2.bh (hI.ok.drop x).bk nx
       obtain ⟨z2, z3, z4, hv2, hz2⟩ := row_len p2.dh
       have hroot := p2.dh.root
       rw [hv2] at hroot
       have hnext : ∀ n, n2 ≤ n → BaI lim o m1 m2 oB l ⟨s.i + 1, H2, n, s.P, (dropB s.L x).2, q2, v2⟩ := fun n hn => ⟨hlt, p2.old (fun _ _ => rfl) hn, (hI.ok.drop x).mono (Nat.le_succ _)⟩
       have he04 : (dropB s.L x).1 = 0 ∨ (dropB s.L x).1 = 4 := by
        unfold dropB
        split
        ·exact .inr rfl
        ·split
         ·exact .inr rfl
         ·exact .inl rfl
       generalize (dropB s.L x).2 = L2 at *
       generalize (dropB s.L x).1 = er at *
       obtain ⟨v, fn, args⟩ := t
       rw [sizeW_eq _ hts, decide_eq_true hS.2, decide_eq_true (by omega)] at hsm
       have adr := a.dr
       simp [Term.enc] at hsm
       simp only [Term.v, Term.fn, Term.args] at adr hz0 hHz z1
       rcases he04 with rfl | rfl
       ·simp at c2
        simp [b3_0, plc_raw, a.lti, a.len, a.ltm, adr, a.le5, a.w, ← hHz, hz0, hsm, c1, z1, c2, hlen, hroot, hz2, Nat.add_assoc]
        exact .next _ rfl rfl rfl (hnext (n2 + 32) (by omega)) (by simp only; omega) rfl
       ·simp at c2
        simp [b3_0, plc_raw, a.lti, a.len, a.ltm, adr, a.le5, a.w, ← hHz, hz0, hsm, c1, z1, c2, hlen, hroot, hz2, Nat.add_assoc]
        exact .next _ rfl rfl rfl (hnext (n2 + 32) (by omega)) (by simp only; omega) rfl
      ·by_cases hk3 : k = 3
       ·subst hk3
        obtain ⟨w, q4, H1, n1, c1, g1, k1, a1, lq, lq2⟩ := get_ok (nx := s.N + 32) (hpz (s.N + 32) (by omega)).bh hI.ok.bk (Nat.le_refl _) x
        obtain ⟨w1, w2, w3, rfl⟩ : ∃ a b c, w = AV.osl q4 0 a b c := by
         generalize (getB s.L x).1.args = ts at a1
         cases a1 with
         | vn _ _ => exact ⟨_, _, _, rfl⟩
         | row _ _ _ _ _ _ _ => exact ⟨_, _, _, rfl⟩
        have z1 : H1 (s.N + 8, 0) = _ := (k1 (s.N + 8, 0) (by simp only; omega)).trans hz0
        obtain ⟨tx, hgx⟩ : ∃ tx, tx = (getB s.L x).1 := ⟨_, rfl⟩
        obtain ⟨ex, hgy⟩ : ∃ ex, ex = (getB s.L x).2 := ⟨_, rfl⟩
        rw [← hgx, ← hgy] at c1
        rw [← hgx] at a1
        obtain ⟨Hx, hHx⟩ : ∃ Hx, Hx = upd (upd H1 (s.N + 29, 3) .vnil) (s.N + 29, 0) (.cells [.d (.int .i64 tx.v), .d (.str tx.fn), .osl q4 0 w1 w2 w3]) := ⟨_, rfl⟩
        have hkx : ∀ p : Oid, p.1 < s.N + 29 → Hx p = Hz p := fun p hp => by rw [hHx, upd_old (by omega), upd_old (by omega), k1 p (by omega)]
        have zx : Hx (s.N + 8, 0) = _ := (hkx (s.N + 8, 0) (by simp only; omega)).trans hz0
        have hx0 : Hx (s.N + 29, 0) = some (.cells [.d (.int .i64 tx.v), .d (.str tx.fn), .osl q4 0 w1 w2 w3]) := by rw [hHx]; exact upd_same _ _ _
        have ax : ArgsAt Hx (.osl q4 0 w1 w2 w3) q4 tx.args := a1.keep (by rw [hHx, upd_ne fun e => by rw [e] at lq; simp only at lq; omega, upd_ne fun e => by rw [e] at lq; simp only at lq; omega])
        have hpx := (hpz s.N (Nat.le_refl _)).old (H1 := Hx) (M := n1 + 10) (fun p hp => hkx p (by omega)) (by omega)
        have htxo : tx.ok := by
         rw [hgx]
         unfold getB
         cases hby : byId s.L x with
         | none => exact ⟨by simp, trivial⟩
         | some n => exact (hI.ok.ok n (byId_some hby).1).ok
        have hsame := rsame_ok tx htxo tx htxo
        rw [(sameB_eq _ _).2 rfl] at hsame
        cases hby : byId s.L x with
        | none =>
         obtain ⟨q5, H2, n2, c2, g2, k2, hq5, lq5, lq6⟩ := getR_none (nx := n1 + 10) hpx.dh (Nat.le_refl _) (by omega) hby
         obtain ⟨Hy, hHy⟩ : ∃ Hy, Hy = upd (upd H2 (n1 + 7, 3) .vnil) (n1 + 7, 0) (.cells [.d (.int .i64 0), .d (.str { data := #[] }), .osl q5 0 0 1 0]) := ⟨_, rfl⟩
         have hky : ∀ p : Oid, p.1 < n1 + 7 → Hy p = Hx p := fun p hp => by rw [hHy, upd_old (by omega), upd_old (by omega), k2 p (by omega)]
         have zy : Hy (s.N + 8, 0) = _ := (hky (s.N + 8, 0) (by simp only; omega)).trans zx
         have zk : H2 (s.N + 8, 0) = _ := (k2 (s.N + 8, 0) (by simp only; omega)).trans zx
         have hx0y : Hy (s.N + 29, 0) = _ := (hky (s.N + 29, 0) (by simp only; omega)).trans hx0
         have hy0 : Hy (n1 + 7, 0) = some (.cells [.d (.int .i64 0), .d (.str { data := #[] }), .osl q5 0 0 1 0]) := by rw [hHy]; exact upd_same _ _ _
         have ay := ax.keep (hky q4 (by omega))
         have hq5y : Hy q5 = some .vnil := by rw [hHy, upd_ne fun e => by rw [e] at lq5; simp only at lq5; omega, upd_ne fun e => by rw [e] at lq5; simp only at lq5; omega]; exact hq5
         have hpy := (hpz s.N (Nat.le_refl _)).old (H1 := Hy) (M := n2) (fun p hp => (hky p (by omega)).trans (hkx p (by omega))) (by omega)
         obtain ⟨cs, nl, is, hre, hwk, _⟩ := ay.reify 4
         simp only [Nat.reduceAdd] at hre
         unfold getB at hgx hgy
         rw [hby] at hgx hgy
         simp only at hgx hgy
         subst hgx
         subst hgy
         simp only [Term.v, Term.fn, Term.args, List.length_nil, encL] at hre hwk c1 hx0y hx0 hHx
         have hra : reifyAll 6 Hy [.agg [.d (.int .i64 0), .d (.str { data := #[] }), .osl q4 0 w1 w2 w3], .agg [.d (.int .i64 0), .d (.str { data := #[] }), .osl q5 0 0 1 0]] = some ([.agg [.int .i64 0, .str { data := #[] }, .sl cs 0 false nl], .agg [.int .i64 0, .str { data := #[] }, .sl [] 0 false (some true)]], is) := by
          have h1 : reify Hy 6 (.agg [.d (.int .i64 0), .d (.str { data := #[] }), .osl q4 0 w1 w2 w3]) = some (.agg [.int .i64 0, .str { data := #[] }, .sl cs 0 false nl], is) := by
           rw [reify]; simp only [mapD, hre]; simp [reify]
          have h2 : reify Hy 6 (.agg [.d (.int .i64 0), .d (.str { data := #[] }), .osl q5 0 0 1 0]) = some (.agg [.int .i64 0, .str { data := #[] }, .sl [] 0 false (some true)], []) := by
           simp [reify, mapD, hq5y]
          simp only [reifyAll, mapD, h1, h2]; simp
         have hlen := fun nx => len_ok hpy.bh hI.ok.bk nx
         obtain ⟨z2, z3, z4, hv2, hz2⟩ := row_len hpy.dh
         have hroot := hpy.dh.root
         rw [hv2] at hroot
         have hnext : ∀ n, n2 ≤ n → BaI lim o m1 m2 oB l ⟨s.i + 1, Hy, n, s.P, s.L, s.q, s.v⟩ := fun n hn => ⟨hlt, hpy.old (fun _ _ => rfl) hn, hI.ok.mono (Nat.le_succ _)⟩
         simp [Term.enc, encL] at hsame
         obtain ⟨v, fn, args⟩ := t
         rw [sizeW_eq _ hts, decide_eq_true hS.2, decide_eq_true (by omega)] at hsm
         have adr := a.dr
         simp [Term.enc] at hsm
         simp only [Term.v, Term.fn, Term.args] at adr hz0 hHz z1 zx zy zk
         simp [b3_0, plc_raw, a.lti, a.len, a.ltm, adr, a.le5, a.w, ← hHz, hz0, hsm, c1, z1, ← hHx, zx, c2, zk, ← hHy, zy, hx0y, hy0, hra, -reifyAll, reifyAll1, hwk, hsame, hlen, hroot, hz2, Nat.add_assoc]
         exact .next _ rfl rfl rfl (hnext (n2 + 38) (by omega)) (by simp only; omega) rfl
        | some n =>
         obtain ⟨H2, n2, c2, g2, k2⟩ := getR_some (nx := n1 + 10) hpx.dh (Nat.le_refl _) (by omega) hby
         unfold getB at hgx hgy
         rw [hby] at hgx hgy
         simp only at hgx hgy
         rw [← hgx] at c2
         subst hgy
         obtain ⟨Hy, hHy⟩ : ∃ Hy, Hy = upd (upd H2 (n1 + 7, 3) .vnil) (n1 + 7, 0) (.cells [.d (.int .i64 tx.v), .d (.str tx.fn), .d (.sl (encL tx.args) tx.args.length false none)]) := ⟨_, rfl⟩
         have hky : ∀ p : Oid, p.1 < n1 + 7 → Hy p = Hx p := fun p hp => by rw [hHy, upd_old (by omega), upd_old (by omega), k2 p (by omega)]
         have zy : Hy (s.N + 8, 0) = _ := (hky (s.N + 8, 0) (by simp only; omega)).trans zx
         have zk : H2 (s.N + 8, 0) = _ := (k2 (s.N + 8, 0) (by simp only; omega)).trans zx
         have hx0y : Hy (s.N + 29, 0) = _ := (hky (s.N + 29, 0) (by simp only; omega)).trans hx0
         have hy0 : Hy (n1 + 7, 0) = some (.cells [.d (.int .i64 tx.v), .d (.str tx.fn), .d (.sl (encL tx.args) tx.args.length false none)]) := by rw [hHy]; exact upd_same _ _ _
         have ay := ax.keep (hky q4 (by omega))
         have hpy := (hpz s.N (Nat.le_refl _)).old (H1 := Hy) (M := n2) (fun p hp => (hky p (by omega)).trans (hkx p (by omega))) (by omega)
         obtain ⟨cs, nl, is, hre, hwk, _⟩ := ay.reify 4
         simp only [Nat.reduceAdd] at hre
         clear hgx htxo a1 ax ay
         obtain ⟨v3, fn3, args3⟩ := tx
         simp only [Term.v, Term.fn, Term.args] at hre hwk c1 c2 hx0y hx0 hHx hHy hy0
         have hra : reifyAll 6 Hy [.agg [.d (.int .i64 v3), .d (.str fn3), .osl q4 0 w1 w2 w3], .d (.agg [.int .i64 v3, .str fn3, .sl (encL args3) args3.length false none])] = some ([.agg [.int .i64 v3, .str fn3, .sl cs args3.length false nl], .agg [.int .i64 v3, .str fn3, .sl (encL args3) args3.length false none]], is) := by
          have h1 : reify Hy 6 (.agg [.d (.int .i64 v3), .d (.str fn3), .osl q4 0 w1 w2 w3]) = some (.agg [.int .i64 v3, .str fn3, .sl cs args3.length false nl], is) := by
           rw [reify]; simp only [mapD, hre]; simp [reify]
          simp only [reifyAll, mapD, h1]; simp [reify]
         have hlen := fun nx => len_ok hpy.bh hI.ok.bk nx
         obtain ⟨z2, z3, z4, hv2, hz2⟩ := row_len hpy.dh
         have hroot := hpy.dh.root
         rw [hv2] at hroot
         have hnext : ∀ n, n2 ≤ n → BaI lim o m1 m2 oB l ⟨s.i + 1, Hy, n, s.P, s.L, s.q, s.v⟩ := fun n hn => ⟨hlt, hpy.old (fun _ _ => rfl) hn, hI.ok.mono (Nat.le_succ _)⟩
         simp [Term.enc] at hsame
         obtain ⟨v, fn, args⟩ := t
         rw [sizeW_eq _ hts, decide_eq_true hS.2, decide_eq_true (by omega)] at hsm
         have adr := a.dr
         simp [Term.enc] at hsm
         simp only [Term.v, Term.fn, Term.args] at adr hz0 hHz z1 zx zy zk
         simp [b3_0, plc_raw, a.lti, a.len, a.ltm, adr, a.le5, a.w, ← hHz, hz0, hsm, c1, z1, ← hHx, zx, c2, zk, ← hHy, zy, hx0y, hy0, hra, -reifyAll, reifyAll1, hwk, hsame, hlen, hroot, hz2, Nat.add_assoc]
         exact .next _ rfl rfl rfl (hnext (n2 + 38) (by omega)) (by simp only; omega) rfl
       ·have hlen := fun nx => len_ok (hpz s.N (Nat.le_refl _)).bh hI.ok.bk nx
        obtain ⟨z2, z3, z4, hv2, hz2⟩ := row_len (hpz s.N (Nat.le_refl _)).dh
        have hroot := (hpz s.N (Nat.le_refl _)).dh.root
        rw [hv2] at hroot
        have hnext : ∀ n, s.N ≤ n → BaI lim o m1 m2 oB l ⟨s.i + 1, Hz, n, s.P, s.L, s.q, s.v⟩ := fun n hn => ⟨hlt, hpz n hn, hI.ok.mono (Nat.le_succ _)⟩
        obtain ⟨v, fn, args⟩ := t
        rw [sizeW_eq _ hts, decide_eq_true hS.2, decide_eq_true (by omega)] at hsm
        have adr := a.dr
        simp [Term.enc] at hsm
        simp only [Term.v, Term.fn, Term.args] at adr hz0 hHz
        simp [b3_0, plc_raw, a.lti, a.len, a.ltm, adr, a.le5, a.w, ← hHz, hz0, hsm, hk1, hk2, hk3, hlen, hroot, hz2, Nat.add_assoc]
        exact .next _ rfl rfl rfl (hnext (s.N + 42) (by omega)) (by simp only; omega) rfl
    ·have hb : (decide (t.sizeW ≤ 300) && decide (t.depthW ≤ 100)) = false := by
      rw [← Bool.not_eq_true]; simpa using hS
     rw [hb] at hsm
     obtain ⟨v, fn, args⟩ := t
     simp [Term.enc] at hsm
     have adr := a.dr
     simp only [Term.v, Term.fn, Term.args] at adr hz0 hHz
     simp [b3_0, plc_raw, a.lti, a.len, a.ltm, adr, a.le5, a.w, ← hHz, hz0, hsm, alive_ok, Nat.add_assoc]
     exact .fin _ _ (.inl ⟨rfl, rfl⟩)
   ·have hte : s.i = l.length := Nat.le_antisymm hI.le hlt
    simp [b3_0, hte, Nat.add_assoc]
    exact .fin _ _ (.inr ⟨rfl, s.H, s.N + 4, by simp⟩)) s0 h0
 rw [hi] at key
 exact key
end Go.Proofs.Ytiafeijkifpfaaa.Am

/-
 Both banks do the same behind any calls: the whole law. No condition.
-/
namespace Go.Proofs.Ytiafeijkifpfaaa.Am
open Go Go.Proofs
set_option maxHeartbeats 4000000
set_option maxRecDepth 20000
set_option linter.unusedSimpArgs false
set_option linter.unusedVariables false
theorem termBanks_ok (lim : Int) (l : List Op3) (hok : ∀ x ∈ l, x.2.2.ok) (hsz : ∀ x ∈ l, (x.2.2.size : Int) ≤ 4611686018427387904) : pcl Cp 3 [.int .i64 lim, dP l] = some (.bool true) := by
 refine pcl_body code3 ?_
 by_cases hlim : 1 ≤ lim ∧ lim ≤ 1000000
 ·obtain ⟨H0, n0, c0, g0, k0, b0⟩ := new_ok hlim.1 hlim.2 (fun _ => none) 8
  simp only [Nat.reduceAdd] at c0 b0
  obtain ⟨H1, n1, c1, g1, k1, d1⟩ := newR_ok hlim.1 hlim.2 H0 (n0 + 3)
  simp only [Nat.add_assoc, Nat.reduceAdd] at c1 d1
  by_cases h60 : l.length ≤ 60
  ·have hli : ¬ (60 : Int) < (l.length : Int) := by omega
   have l0 := b0.ltO
   have l1 := b0.lt1
   have l2 := b0.lt2
   simp only at l0 l1 l2
   have hb1 := b0.old (H' := H1) (M := n1 + 20) (fun p hp => k1 p (by omega)) (by omega)
   obtain ⟨e, st, hrun, hR⟩ := banks_loop lim (20, 0) (17, 0) (18, 0) (n0 + 12, 0) l h60 hok hsz ⟨0, H1, n1 + 20, fun _ => (0, 0), [], (n0 + 12, 2), .osl (n0 + 12, 2) 0 0 1 0⟩
    ⟨Nat.zero_le _, ⟨hb1, d1.old (fun _ _ => rfl) (show n1 ≤ n1 + 20 by omega), (by rintro (e | e | e | ⟨g, hg, _⟩) <;> simp_all [gr] <;> omega), (by rintro (e | e | e | ⟨g, hg, _⟩) <;> simp_all [gr])⟩, ⟨Bk.nil, (by intro n hn; simp at hn), by simp, by simp, by simp⟩⟩ rfl
   simp [baT] at hrun
   rcases hR with ⟨rfl, hv⟩ | ⟨rfl, H2, n2, rfl⟩
   ·simp [plc_raw, c0, c1, hli, hrun, hv, Nat.add_assoc]
   ·simp [plc_raw, c0, c1, hli, hrun, alive_ok, Nat.add_assoc]
  ·have hli : (60 : Int) < (l.length : Int) := by omega
   simp [plc_raw, c0, c1, hli, alive_ok, Nat.add_assoc]
 ·have hbad : lim < 1 ∨ lim > 1000000 := by omega
  have c0 := new_bad hbad (fun _ => none) 8
  have c1 := newR_bad hbad (fun _ => none) 21
  simp only [Nat.reduceAdd] at c0 c1
  by_cases h60 : l.length ≤ 60
  ·have hli : ¬ (60 : Int) < (l.length : Int) := by omega
   simp [plc_raw, c0, c1, hli, alive_ok, Nat.add_assoc]
  ·have hli : (60 : Int) < (l.length : Int) := by omega
   simp [plc_raw, c0, c1, hli, alive_ok, Nat.add_assoc]
theorem termBanks_row (lim : Int) {A B : Prop} (_ : A) (l : List Op3) (h : B ∧ ∀ x ∈ l, x.2.2.ok) (hs : ∀ x ∈ l, x.2.2.size ≤ 4611686018427387904) : pcl Cp 3 [.int .i64 lim, .sl (encP l) l.length false none] = some (.bool true) :=
 termBanks_ok lim l h.2 fun x hx => by have := hs x hx; omega
end Go.Proofs.Ytiafeijkifpfaaa.Am


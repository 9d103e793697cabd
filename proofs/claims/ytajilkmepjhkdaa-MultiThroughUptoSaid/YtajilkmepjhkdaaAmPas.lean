/-
  Joined texts: AmRow, AmMu, AmUta, AmUla, AmNb, AmNf, AmNe, AmNg, AmNh, AmUtb, AmUtc, AmUtd, AmUte, AmUtf, AmNc, AmNi, AmNj, AmNl, AmUlb, AmUlc, AmUld, AmUle, AmUlf. No condition.
-/
import Derived.Test.YtajilkmepjhkdaaAmPar
import Derived.ChangeArms
import Derived.WalkKit
import Derived.ProofKit
import Derived.OpenShut
import Derived.ShutString
import Derived.ChangeOld
import Derived.Below
import Derived.JoinedCond
/-
 What the statements' arguments are read as: signatures, terms, numbers, texts. No condition.
-/
namespace Go.Proofs.Ytajilkmepjhkdaa.Am
open Go Go.Proofs
open Go.ChangeShapes Go.WideShapes Go.ChangeAt Go.RowKit
open Go.ChangeMaps (open_string shut_string)
set_option linter.unusedVariables false
theorem row_own : ownKnob Try.prog.godebug = none := by kernel_rfl
theorem row_laidOut : laidOutB Try.prog = true := by kernel_rfl
theorem row_orders : Try.prog.follows .mixedOrders = true := by kernel_rfl
theorem row_pol : PolOk Try.prog plc := ⟨fun f g h => (by cases h), hole_ok⟩
theorem encL_flat : ∀ (ts : List Am.Term), encL ts = ts.flatMap Am.Term.enc
 | [] => rfl
 | t :: r => by simp [encL, encL_flat r]
theorem encS_flat (l : List ByteArray) : encS l = l.flatMap fun x => [D.str x] := by induction l <;> simp_all [encS]
theorem encI_flat (l : List Int) : encI l = l.flatMap fun x => [D.int .i64 x] := by induction l <;> simp_all [encI]
theorem okL_of : ∀ {ts : List Am.Term}, (∀ x ∈ ts, x.ok) → okL ts
 | [], _ => trivial
 | t :: r, h => ⟨h t (by simp), okL_of fun x hx => h x (by simp [hx])⟩
theorem sizeL_sum : ∀ (ts : List Am.Term), sizeL ts = (ts.map Am.Term.size).sum
 | [] => rfl
 | t :: r => by simp [sizeL, sizeL_sum r]
theorem reads_term : ∀ n, ReadsB Try.prog 30 n Am.Term.enc Am.Term.ok Am.Term.size
 | 0 => .zero
 | n + 1 => by
  have hs : ReadsB Try.prog 28 n (fun xs : List Am.Term => [D.sl (xs.flatMap Am.Term.enc) xs.length false none]) (fun xs => xs.length ≤ maxLen ∧ ∀ x ∈ xs, x.ok) (fun xs => (xs.map Am.Term.size).sum + 1) := by
   cases n with
   | zero => exact .zero
   | succ m => exact .slice Try.underlying28 (by rw [show Try.prog.cellsOf 30 = 3 from by kernel_rfl]; decide) ((reads_term (m + 1)).le (by omega))
  exact (ReadsB.struct3 (s0 := 1) (s1 := 1) (s2 := 1) Try.underlying30 (by kernel_rfl) ⟨by kernel_rfl, rfl⟩ ⟨by kernel_rfl, rfl⟩ ⟨by kernel_rfl, rfl⟩ (ReadsB.int Try.underlying3) (ReadsB.str Try.underlying9) hs).map (fun x => .mk x.1 x.2.1 x.2.2)
   (fun x => by simp [Am.Term.enc, encL_flat]) (fun x hx => ⟨by have := hx.2.2.1; simp [maxLen] at this; omega, okL_of hx.2.2.2⟩) (fun x => by simp only [Am.Term.size, sizeL_sum]; omega)
theorem sum_one {α : Type} (l : List α) : (l.map fun _ => 1).sum = l.length := by induction l <;> simp_all <;> omega
theorem reads_ints (n : Nat) : ReadsB Try.prog 23 n (fun l : List Int => [D.sl (encI l) l.length false none]) (fun l => l.length ≤ 9223372036854775807 ∧ ∀ x ∈ l, (Lit.int .i64 x).wf = true) (fun l => l.length) := by
 cases n with
 | zero => exact .zero
 | succ m =>
  exact (ReadsB.slice Try.underlying23 (by rw [show Try.prog.cellsOf 3 = 1 from by kernel_rfl]; decide) (ReadsB.int Try.underlying3)).map (fun l => l) (fun l => by rw [encI_flat]) (fun l hl => ⟨by have := hl.1; simp [maxLen] at this; omega, hl.2⟩) (fun l => by show l.length ≤ (l.map fun _ => 1).sum + 1; rw [sum_one]; omega)
theorem reads_strs (n : Nat) : ReadsB Try.prog 22 n (fun l : List ByteArray => [D.sl (encS l) l.length false none]) (fun l => l.length ≤ 9223372036854775807) (fun l => l.length) := by
 cases n with
 | zero => exact .zero
 | succ m =>
  exact (ReadsB.slice Try.underlying22 (by rw [show Try.prog.cellsOf 9 = 1 from by kernel_rfl]; decide) (ReadsB.str Try.underlying9)).map (fun l => l) (fun l => by rw [encS_flat]) (fun l hl => by have := hl.1; simp [maxLen] at this; omega) (fun l => by show l.length ≤ (l.map fun _ => 1).sum + 1; rw [sum_one]; omega)
theorem reads_sign (n : Nat) : ReadsB Try.prog 25 n Sg.enc Sg.ok (fun _ => 0) := by
 cases n with
 | zero => exact .zero
 | succ m =>
  exact (ReadsB.struct2 (s0 := 1) (s1 := 1) Try.underlying25 (by kernel_rfl) ⟨by kernel_rfl, rfl⟩ ⟨by kernel_rfl, rfl⟩ (reads_strs m) (reads_ints m)).map (fun x => ⟨x.1, x.2⟩) (fun x => rfl) (fun x hx => ⟨hx.1, hx.2.1⟩) (fun x => by simp)
section
variable {P : Program} {t : TypeId} {n : Nat} {α : Type}
theorem ReadsB.sliceN {e0 : TypeId} {enc : α → List D} {wf : α → Prop} {sz : α → Nat} (ht : P.underlying t = some (.slice e0)) (hsz : 0 < P.cellsOf e0) (h : ReadsB P e0 n enc wf sz) :
  ReadsB P t (n + 1) (fun xs : List α × Bool => [D.sl (xs.1.flatMap enc) xs.1.length false (some xs.2)]) (fun xs => xs.1.length ≤ maxLen ∧ (∀ x ∈ xs.1, wf x) ∧ (xs.2 = true → xs.1 = [])) (fun xs => (xs.1.map sz).sum + 1) := by
 intro H e w base sp held fuel hf cs d hd
 rcases DataW.trod_slice ht hd with ⟨rfl, rfl⟩ | ⟨a, len, cap, elems, rest, m, rfl, rfl, rfl, hba, hlc, hcm, hel, hat, _⟩
 ·exact ⟨([], true), .one1 (.sl [] 0 0 false (some true) none (fun _ => undef) (Nat.le_refl _) (fun _ => rfl) (fun j hj => by simp at hj) (fun j x hx => by simp at hx) (fun hne => absurd rfl hne) (fun b hb => by cases hb; rfl)) rfl, by simp [maxLen], bulk_pos _⟩
 ·have hone : ∀ i, i < len → ∃ x, (wf x ∧ ∀ y, elems[i]? = some y → sz x ≤ Rows.uptoBulk y.1) ∧ (enc x).length = P.cellsOf e0 ∧ ∀ k d, (enc x)[k]? = some d → ∃ v, w.cell? (a.add (i * P.cellsOf e0 + k)) = some v ∧ v.oneCell' = true ∧ RepD (· < w.heap.size) w d v := by
   intro i hi
   obtain ⟨y, hy⟩ : ∃ y, elems[i]? = some y := ⟨elems[i]'(by omega), by simp [hel, hi]⟩
   have hb := hat i hi
   rw [hy, Option.bind_eq_some_iff] at hb
   obtain ⟨cs', hc, htr⟩ := hb
   obtain ⟨x, hx, hwf, hbk⟩ := h H e w base sp held m (by omega) cs' y htr
   have hcell : cs'.length = P.cellsOf e0 ∧ ∀ k, k < P.cellsOf e0 → w.cell? ((a.add (i * P.cellsOf e0)).add k) = cs'[k]? := by
    unfold World.cells? at hc
    split at hc
    ·exact ⟨by simpa using mapM_some_length hc, fun k hk => mapM_some_get hc k k (by simp [hk])⟩
    ·cases hc
   refine ⟨x, ⟨hwf, fun y' hy' => by rw [hy] at hy'; cases hy'; exact hbk⟩, by rw [← hx.len]; exact hcell.1, fun k d hd => ?_⟩
   have hk : k < cs'.length := by rw [hx.len]; exact (List.getElem?_eq_some_iff.1 hd).1
   have hv : cs'[k]? = some (cs'.getD k undef) := by rw [List.getD_eq_getElem?_getD, List.getElem?_eq_getElem hk]; rfl
   refine ⟨cs'.getD k undef, ?_, hx.one k hk, hx.rep k d hd⟩
   rw [← add_add, hcell.2 k (by omega), hv]
  obtain ⟨xs, hxl, hx⟩ := choose_list len hone
  have hxsz : ∀ x ∈ xs, (enc x).length = P.cellsOf e0 := fun x hm => by
   obtain ⟨i, hi⟩ := List.mem_iff_getElem?.1 hm
   exact (hx i x hi).2.1
  have hget : ∀ j d, (xs.flatMap enc)[j]? = some d → ∃ v, w.cell? (a.add j) = some v ∧ v.oneCell' = true ∧ RepD (· < w.heap.size) w d v := fun j d hj => by
   obtain ⟨i, k, x, rfl, hk, hxi, hd⟩ := flatMap_at xs hxsz j d hj
   exact (hx i x hxi).2.2 k d hd
  have hgd : ∀ j, j < (xs.flatMap enc).length → ∃ v, w.cell? (a.add j) = some v ∧ v.oneCell' = true := fun j hj => by
   obtain ⟨v, h1, h2, _⟩ := hget j _ (List.getElem?_eq_getElem hj)
   exact ⟨v, h1, h2⟩
  refine ⟨(xs, false), .one1 ?_ rfl, ⟨by simp only; omega, (fun x hm => by
   obtain ⟨i, hi⟩ := List.mem_iff_getElem?.1 hm
   exact (hx i x hi).1.1), fun h => by cases h⟩, ?_⟩
  ·simp only
   rw [← hxl] at hlc ⊢
   refine .sl _ _ cap false (some false) (some a) (fun j => (w.cell? (a.add j)).getD undef) hlc (fun h => by cases h) (fun j hj => ?_) (fun j d hj => ?_) (fun hne => ?_) (fun b hb => by cases hb; rfl)
   ·obtain ⟨v, h1, h2⟩ := hgd j hj
    rw [h1]; exact h2
   ·obtain ⟨v, h1, _, h3⟩ := hget j d hj
    rw [h1]; exact h3
   ·refine ⟨a, rfl, ?_, fun j hj => ?_⟩
    ·obtain ⟨v, h1, _⟩ := hgd 0 (by cases hq : xs.flatMap enc with | nil => exact absurd hq hne | cons => simp)
     have := lt_of_cell h1
     rwa [add_block] at this
    ·obtain ⟨v, h1, _⟩ := hgd j hj
     rw [h1]; rfl
  ·have := sum_le (sz := sz) xs (elems.map (·.1)) (by simp; omega) (fun i x d h1 h2 => by
    simp only [List.getElem?_map, Option.map_eq_some_iff] at h2
    obtain ⟨y, hy, rfl⟩ := h2
    exact (hx i x h1).1.2 y hy)
   simp only [Rows.uptoBulk]; omega
end
theorem ReadsB.bool {P : Program} {t : TypeId} {n : Nat} (ht : P.underlying t = some .bool) : ReadsB P t n (fun x : Bool => [D.bool x]) (fun _ => True) (fun _ => 1) := by
 intro H e w base sp held fuel hf cs d h
 obtain ⟨b, rfl, _⟩ := DataW.trod_bool ht h
 exact ⟨b, .one1 (.bool _) rfl, trivial, bulk_pos _⟩
theorem reads_order (n : Nat) : ReadsB Try.prog 27 n Od.enc (fun o => o.g.ok) (fun _ => 0) := by
 cases n with
 | zero => exact .zero
 | succ m =>
  exact (ReadsB.struct2 (s0 := 1) (s1 := 2) Try.underlying27 (by kernel_rfl) ⟨by kernel_rfl, rfl⟩ ⟨by kernel_rfl, rfl⟩ (ReadsB.bool Try.underlying4) (reads_sign m)).map (fun x => ⟨x.1, x.2⟩) (fun x => rfl) (fun x hx => hx.2) (fun x => by simp)
theorem reads_lit (m : Nat) : ReadsB Try.prog 32 m Lt.enc Lt.ok (fun x => x.l.size + x.r.size) := by
 cases m with
 | zero => exact .zero
 | succ k =>
  exact (ReadsB.struct3 (s0 := 1) (s1 := 3) (s2 := 3) Try.underlying32 (by kernel_rfl) ⟨by kernel_rfl, rfl⟩ ⟨by kernel_rfl, rfl⟩ ⟨by kernel_rfl, rfl⟩ (ReadsB.bool Try.underlying4) (reads_term k) (reads_term k)).map (fun x => ⟨x.1, x.2.1, x.2.2⟩)
   (fun x => by simp [Lt.enc]) (fun x hx => ⟨hx.2.1, hx.2.2⟩) (fun x => by simp only []; omega)
theorem encC_flat (l : List Lt) : encC l = l.flatMap Lt.enc := by induction l <;> simp_all [encC]
theorem reads_clause (n : Nat) : ReadsB Try.prog 35 n (fun c : List Lt => [D.sl (encC c) c.length false none]) okC (fun c => (c.map fun x => x.l.size + x.r.size).sum + 1) := by
 cases n with
 | zero => exact .zero
 | succ m =>
  exact (ReadsB.slice Try.underlying35 (by rw [show Try.prog.cellsOf 32 = 7 from by kernel_rfl]; decide) (reads_lit m)).map (fun xs => xs) (fun xs => by rw [encC_flat]) (fun xs hx => ⟨by have := hx.1; simp [maxLen] at this; omega, hx.2⟩) (fun xs => Nat.le_refl _)
theorem clause_len {c : List Lt} {n : Nat} (h : (c.map fun x => x.l.size + x.r.size).sum ≤ n) : c.length ≤ n := by
 have : c.length ≤ (c.map fun x => x.l.size + x.r.size).sum := by
  clear h
  induction c with
  | nil => simp
  | cons b r ih =>
   have h1 : 1 ≤ b.l.size := by obtain ⟨_, ⟨_, _, _⟩, _⟩ := b; simp [Am.Term.size]
   simp only [List.map_cons, List.sum_cons, List.length_cons]; omega
 omega
theorem clause_le {c : List Lt} {n : Nat} (h : (c.map fun x => x.l.size + x.r.size).sum ≤ n) : ∀ x ∈ c, x.l.size ≤ n ∧ x.r.size ≤ n := by
 induction c with
 | nil => intro x hx; simp at hx
 | cons b r ih =>
  intro x hx
  simp only [List.map_cons, List.sum_cons] at h
  rcases List.mem_cons.1 hx with rfl | hx
  ·omega
  ·have := ih (by omega) x hx; omega
theorem reads_clausen (n : Nat) : ReadsB Try.prog 35 n (fun c : List Lt × Bool => [D.sl (encC c.1) c.1.length false (some c.2)]) (fun c => okC c.1 ∧ (c.2 = true → c.1 = [])) (fun c => (c.1.map fun x => x.l.size + x.r.size).sum + 1) := by
 cases n with
 | zero => exact .zero
 | succ m =>
  exact (ReadsB.sliceN Try.underlying35 (by rw [show Try.prog.cellsOf 32 = 7 from by kernel_rfl]; decide) (reads_lit m)).map (fun xs => xs) (fun xs => by rw [encC_flat]) (fun xs hx => ⟨⟨by have := hx.1; simp [maxLen] at this; omega, hx.2.1⟩, hx.2.2⟩) (fun xs => Nat.le_refl _)
theorem arg_slice {w : World} {a : Option Addr} {l c : Nat} {x : D} (h : CD w [x] (Value.slice a l c).cells.toList) : RepD (· < w.heap.size) w x (.slice a l c) := by
 have := h.rep 0 x rfl
 simpa [Value.cells] using this
theorem arg_agg {w : World} {cs : Array Value} {ds : List D} (h : CD w ds (Value.agg cs).cells.toList) : RepD (· < w.heap.size) w (.agg ds) (.agg cs) := by
 have hl := h.len
 simp only [Value.cells, Array.length_toList] at hl
 refine .agg ds cs hl (fun j hj => ?_) (fun j x hx => ?_)
 ·have := h.one j (by simpa [Value.cells] using hj)
  simpa [Value.cells] using this
 ·have := h.rep j x hx
  simpa [Value.cells] using this
end Go.Proofs.Ytajilkmepjhkdaa.Am

/-
 Multisets with marks: what is left of a list, as the document takes it away. No condition.
-/
namespace Go.Proofs.Ytajilkmepjhkdaa.Am
open Go Go.Proofs
set_option linter.unusedSimpArgs false
set_option linter.unusedVariables false
section
variable {α : Type} (same : α → α → Bool)
def unused : List α → List Bool → List α
 | y :: m, u :: us => if u then unused m us else y :: unused m us
 | _, _ => []
def stepU (x : α) : List α → List Bool → Option (List Bool)
 | y :: m, u :: us => if u = false ∧ same x y = true then some (true :: us) else (stepU x m us).map (u :: ·)
 | _, _ => none
def restU : List α → List α → List Bool → List α
 | [], _, _ => []
 | x :: r, m, us => match stepU same x m us with
  | none => x :: restU r m us
  | some us' => restU r m us'
variable {same}
theorem stepU_len {x : α} : ∀ {m : List α} {us us' : List Bool}, stepU same x m us = some us' → us'.length = us.length
 | [], _, _, h => by simp [stepU] at h
 | _ :: _, [], _, h => by simp [stepU] at h
 | y :: m, u :: us, us', h => by
  simp only [stepU] at h
  split at h
  ·cases h; rfl
  ·obtain ⟨w, hw, rfl⟩ := Option.map_eq_some_iff.1 h
   simp [stepU_len hw]
theorem stepU_none {x : α} : ∀ {m : List α} {us : List Bool}, us.length = m.length → stepU same x m us = none → (unused m us).findIdx? (same x) = none
 | [], us, _, _ => by cases us <;> rfl
 | y :: m, [], h, _ => by simp at h
 | y :: m, u :: us, hl, h => by
  simp only [stepU] at h
  split at h
  ·cases h
  ·rename_i hn
   have ih := stepU_none (by simpa using hl) (by simpa using h)
   cases u
   ·simp only [unused, Bool.false_eq_true, if_false, List.findIdx?_cons, ih]
    cases hs : same x y
    ·rfl
    ·exact absurd ⟨rfl, hs⟩ hn
   ·simpa [unused] using ih
theorem stepU_some {x : α} : ∀ {m : List α} {us us' : List Bool}, us.length = m.length → stepU same x m us = some us' → ∃ i, (unused m us).findIdx? (same x) = some i ∧ unused m us' = (unused m us).eraseIdx i
 | [], us, us', _, h => by simp [stepU] at h
 | y :: m, [], us', h, _ => by simp at h
 | y :: m, u :: us, us', hl, h => by
  simp only [stepU] at h
  split at h
  ·rename_i hy
   cases h
   refine ⟨0, ?_, ?_⟩
   ·simp [unused, hy.1, List.findIdx?_cons, hy.2]
   ·simp [unused, hy.1]
  ·rename_i hn
   obtain ⟨w, hw, rfl⟩ := Option.map_eq_some_iff.1 h
   obtain ⟨i, h1, h2⟩ := stepU_some (by simpa using hl) hw
   cases u
   ·refine ⟨i + 1, ?_, ?_⟩
    ·simp only [unused, Bool.false_eq_true, if_false, List.findIdx?_cons, h1]
     cases hs : same x y
     ·rfl
     ·exact absurd ⟨rfl, hs⟩ hn
    ·simp [unused, h2]
   ·exact ⟨i, by simpa [unused] using h1, by simpa [unused] using h2⟩
theorem restU_eq : ∀ (l m : List α) (us : List Bool), us.length = m.length → restU same l m us = restF same l (unused m us)
 | [], _, _, _ => rfl
 | x :: r, m, us, hl => by
  simp only [restU, restF]
  cases h : stepU same x m us with
  | none => rw [stepU_none hl h]; simp only [restU_eq r m us hl]
  | some us' =>
   obtain ⟨i, h1, h2⟩ := stepU_some hl h
   rw [h1]
   simp only [restU_eq r m us' (by rw [stepU_len h, hl]), h2]
theorem unused_all : ∀ (m : List α), unused m (List.replicate m.length false) = m
 | [] => rfl
 | y :: m => by simp [unused, List.replicate_succ, unused_all m]
theorem rest_replicate (l m : List α) : restU same l m (List.replicate m.length false) = restF same l m := by
 rw [restU_eq _ _ _ (by simp), unused_all]
end
theorem rest_len {α : Type} {same : α → α → Bool} : ∀ (l m : List α), (restF same l m).length ≤ l.length
 | [], _ => by simp [restF]
 | x :: r, m => by
  simp only [restF]
  cases m.findIdx? (same x) with
  | none => have := rest_len (same := same) r m; simp; exact this
  | some i => have := rest_len (same := same) r (m.eraseIdx i); simp; omega
theorem isNil_sl (xs : List D) (n : Nat) (nl : Option Bool) : isNil (.d (.sl xs n false nl)) = false := by unfold isNil; split <;> simp_all
theorem isNil_nilfn : isNil (.d .nilfn) = false := rfl
theorem isNil_int (k : IntKind) (n : Int) : isNil (.d (.int k n)) = false := rfl
theorem isNil_bool (b : Bool) : isNil (.d (.bool b)) = false := rfl
theorem isNil_str (b : ByteArray) : isNil (.d (.str b)) = false := rfl
theorem isNil_agg (l : List D) : isNil (.d (.agg l)) = false := rfl
theorem isNil_dptr (l : List D) : isNil (.d (.dptr l)) = false := rfl
theorem isNil_fn (f : FuncId) (l : List D) : isNil (.d (.fn f l)) = false := rfl
theorem isNil_fna (f : FuncId) (l : List AV) : isNil (.fn f l) = false := rfl
theorem isNil_osl (o : Oid) (a b c d : Nat) : isNil (.osl o a b c d) = false := rfl
theorem isNil_ptr (o : Oid) (a b : Nat) : isNil (.ptr o a b) = false := rfl
theorem isNil_agga (l : List AV) : isNil (.agg l) = false := rfl
theorem allD_mapD : ∀ l : List D, allD (l.map .d) = some l
 | [] => rfl
 | x :: r => by simp [allD, allD_mapD r]
theorem uold {o : Oid} {i : Nat} (h : o.1 < i) (j : Nat) (x : Am.Obj) (H : Hp) : upd H (i, j) x o = H o := by
 simp only [upd]; rw [if_neg]; intro e; rw [e] at h; simp at h
theorem une {H : Hp} {o p : Oid} {x : Am.Obj} (h : p ≠ o) : Am.upd H o x p = H p := by simp only [Am.upd]; rw [if_neg h]
theorem blt {k : Nat} {H : Hp} {p : Oid} (h : p.1 < k) : below k H p = H p := by simp only [below]; rw [if_pos h]
end Go.Proofs.Ytajilkmepjhkdaa.Am

/-
 Rows of things asked one by one, by a function with what it captured. No condition.
-/
namespace Go.Proofs.Ytajilkmepjhkdaa.Am
open Go Go.Proofs
set_option maxHeartbeats 4000000
set_option maxRecDepth 20000
set_option linter.unusedSimpArgs false
set_option linter.unusedVariables false
theorem idxT_loop (g : FuncId) (caps : List D) (fl : Bool) (nl : Option Bool) (p : Term → Bool) (ts : List Term) (hn : ts.length ≤ 9223372036854775807) (hg : plc.raw g = false ∧ plc.weak g = false ∧ g < 1000000000) (hrec : ∀ x ∈ ts, pcl Cp g (.agg x.enc :: caps) = some (.bool (p x))) :
  ∃ e t, aloop Try.prog plc b92_0 ⟨[true, true, false, false, true, false, false, true, true, false, false, false, false, false, false, false, false, false, false], some 4⟩ ⟨[.d (.sl (encL ts) ts.length fl nl), .d (.fn g caps), .junk, .junk, .d (.int .i64 0), .junk, .junk, .d (.int .i64 ts.length), .d (.int .i64 0), .junk, .junk, .junk, .junk, .junk, .junk, .junk, .junk, .junk, .junk], fun _ => none, 4⟩ = some (e, t) ∧
   (match fromI p ts 0 with | some k => AtRet 4 (.d (.int .i64 k)) e t | none => AtExit 0 [.d (.sl (encL ts) ts.length fl nl), .d (.fn g caps), .junk, .junk, .d (.int .i64 0), .junk, .junk, .d (.int .i64 ts.length), .d (.int .i64 ts.length), .junk, .junk, .junk, .junk, .junk, .junk, .junk, .junk, .junk, .junk] (fun _ => none) e t) := by
 refine loop_rule (b := 4) (tm := fun (i : Nat) => [.d (.sl (encL ts) ts.length fl nl), .d (.fn g caps), .junk, .junk, .d (.int .i64 0), .junk, .junk, .d (.int .i64 ts.length), .d (.int .i64 i), .junk, .junk, .junk, .junk, .junk, .junk, .junk, .junk, .junk, .junk]) (Hf := fun _ => fun _ => none)
  (I := fun i => i ≤ ts.length) (μ := fun i => ts.length - i) (res := fun i => fromI p ts i) (R := fun o e t => match o with | some k => AtRet 4 (.d (.int .i64 k)) e t | none => AtExit 0 [.d (.sl (encL ts) ts.length fl nl), .d (.fn g caps), .junk, .junk, .d (.int .i64 0), .junk, .junk, .d (.int .i64 ts.length), .d (.int .i64 ts.length), .junk, .junk, .junk, .junk, .junk, .junk, .junk, .junk, .junk, .junk] (fun _ => none) e t)
  (fun i nx hi => ?_) 0 (Nat.zero_le _)
 rcases Nat.lt_or_ge i ts.length with hl | hl
 ·obtain ⟨v, fn, args, a⟩ := at_ok hn hl
  have hcall := hrec _ a.mem
  have hget : ts[i] = .mk v fn args := a.get
  simp [Term.enc] at hcall
  conv => arg 9; arg 4; unfold b92_0
  cases hp : p (.mk v fn args) <;> rw [hp] at hcall <;> simp [a.lti, a.sz, a.ltm, a.cells, a.le3, hg.1, hg.2.1, hg.2.2, -plc_weak, hcall, a.w, mapD_encT]
  ·exact .next (i + 1) (by omega) rfl rfl hl (by omega) (by rw [fromI_step hl, hget, hp]; rfl)
  ·exact .fin _ _ (by rw [fromI_step hl, hget, hp]; exact ⟨rfl, rfl⟩)
 ·obtain rfl : i = ts.length := Nat.le_antisymm hi hl
  simp [b92_0]
  exact .fin _ _ (by rw [fromI_end]; exact .mk)
theorem idxT_ok {g : FuncId} {caps : List D} {fl : Bool} {nl : Option Bool} {p : Term → Bool} {ts : List Term} (hn : ts.length ≤ 9223372036854775807) (hg : plc.raw g = false ∧ plc.weak g = false ∧ g < 1000000000) (hrec : ∀ x ∈ ts, pcl Cp g (.agg x.enc :: caps) = some (.bool (p x))) :
  pcl Cp 92 [.sl (encL ts) ts.length fl nl, .fn g caps] = some (.int .i64 (match ts.findIdx? p with | some k => k | none => -1)) := by
 obtain ⟨e, t, h1, h2⟩ := idxT_loop g caps fl nl p ts hn hg hrec
 refine pcl_body code92 ?_
 simp [fromI_zero] at h1 h2
 simp [h1]
 revert h2
 cases ts.findIdx? p with
 | some k => rintro ⟨rfl, h⟩; simp [h]
 | none => rintro ⟨rfl, nx, rfl⟩; simp
theorem conT_ok {g : FuncId} {caps : List D} {fl : Bool} {nl : Option Bool} {p : Term → Bool} {ts : List Term} (hn : ts.length ≤ 9223372036854775807) (hg : plc.raw g = false ∧ plc.weak g = false ∧ g < 1000000000) (hrec : ∀ x ∈ ts, pcl Cp g (.agg x.enc :: caps) = some (.bool (p x))) :
  pcl Cp 58 [.sl (encL ts) ts.length fl nl, .fn g caps] = some (.bool (ts.any p)) := by
 refine pcl_body code58 ?_
 have h := idxT_ok (fl := fl) (nl := nl) hn hg hrec
 rw [any_findIdx]
 cases hq : ts.findIdx? p <;> rw [hq] at h <;> simp [plc_raw, h]
end Go.Proofs.Ytajilkmepjhkdaa.Am

/-
 Rows of things asked one by one, by a function with what it captured. No condition.
-/
namespace Go.Proofs.Ytajilkmepjhkdaa.Am
open Go Go.Proofs
set_option maxHeartbeats 4000000
set_option maxRecDepth 20000
set_option linter.unusedSimpArgs false
set_option linter.unusedVariables false
theorem idxL_loop (g : FuncId) (caps : List D) (fl : Bool) (nl : Option Bool) (p : Lt → Bool) (ts : List Lt) (hn : ts.length ≤ 9223372036854775807) (hg : plc.raw g = false ∧ plc.weak g = false ∧ g < 1000000000) (hrec : ∀ x ∈ ts, pcl Cp g (.agg x.enc :: caps) = some (.bool (p x))) :
  ∃ e t, aloop Try.prog plc b99_0 ⟨[true, true, false, false, true, false, false, true, true, false, false, false, false, false, false, false, false, false, false], some 4⟩ ⟨[.d (.sl (encC ts) ts.length fl nl), .d (.fn g caps), .junk, .junk, .d (.int .i64 0), .junk, .junk, .d (.int .i64 ts.length), .d (.int .i64 0), .junk, .junk, .junk, .junk, .junk, .junk, .junk, .junk, .junk, .junk], fun _ => none, 4⟩ = some (e, t) ∧
   (match fromI p ts 0 with | some k => AtRet 4 (.d (.int .i64 k)) e t | none => AtExit 0 [.d (.sl (encC ts) ts.length fl nl), .d (.fn g caps), .junk, .junk, .d (.int .i64 0), .junk, .junk, .d (.int .i64 ts.length), .d (.int .i64 ts.length), .junk, .junk, .junk, .junk, .junk, .junk, .junk, .junk, .junk, .junk] (fun _ => none) e t) := by
 refine loop_rule (b := 4) (tm := fun (i : Nat) => [.d (.sl (encC ts) ts.length fl nl), .d (.fn g caps), .junk, .junk, .d (.int .i64 0), .junk, .junk, .d (.int .i64 ts.length), .d (.int .i64 i), .junk, .junk, .junk, .junk, .junk, .junk, .junk, .junk, .junk, .junk]) (Hf := fun _ => fun _ => none)
  (I := fun i => i ≤ ts.length) (μ := fun i => ts.length - i) (res := fun i => fromI p ts i) (R := fun o e t => match o with | some k => AtRet 4 (.d (.int .i64 k)) e t | none => AtExit 0 [.d (.sl (encC ts) ts.length fl nl), .d (.fn g caps), .junk, .junk, .d (.int .i64 0), .junk, .junk, .d (.int .i64 ts.length), .d (.int .i64 ts.length), .junk, .junk, .junk, .junk, .junk, .junk, .junk, .junk, .junk, .junk] (fun _ => none) e t)
  (fun i nx hi => ?_) 0 (Nat.zero_le _)
 rcases Nat.lt_or_ge i ts.length with hl | hl
 ·obtain ⟨n, v, fn, args, v2, fn2, args2, a⟩ := atC_ok hn hl
  have hcall := hrec _ a.mem
  have hget : ts[i] = .mk n (.mk v fn args) (.mk v2 fn2 args2) := a.get
  simp [Lt.enc, Term.enc] at hcall
  conv => arg 9; arg 4; unfold b99_0
  cases hp : p (.mk n (.mk v fn args) (.mk v2 fn2 args2)) <;> rw [hp] at hcall <;> simp [a.lti, a.sz, a.ltm, a.cells, a.le7, hg.1, hg.2.1, hg.2.2, -plc_weak, hcall, a.w, mapD_encT]
  ·exact .next (i + 1) (by omega) rfl rfl hl (by omega) (by rw [fromI_step hl, hget, hp]; rfl)
  ·exact .fin _ _ (by rw [fromI_step hl, hget, hp]; exact ⟨rfl, rfl⟩)
 ·obtain rfl : i = ts.length := Nat.le_antisymm hi hl
  simp [b99_0]
  exact .fin _ _ (by rw [fromI_end]; exact .mk)
theorem idxL_ok {g : FuncId} {caps : List D} {fl : Bool} {nl : Option Bool} {p : Lt → Bool} {ts : List Lt} (hn : ts.length ≤ 9223372036854775807) (hg : plc.raw g = false ∧ plc.weak g = false ∧ g < 1000000000) (hrec : ∀ x ∈ ts, pcl Cp g (.agg x.enc :: caps) = some (.bool (p x))) :
  pcl Cp 99 [.sl (encC ts) ts.length fl nl, .fn g caps] = some (.int .i64 (match ts.findIdx? p with | some k => k | none => -1)) := by
 obtain ⟨e, t, h1, h2⟩ := idxL_loop g caps fl nl p ts hn hg hrec
 refine pcl_body code99 ?_
 simp [fromI_zero] at h1 h2
 simp [h1]
 revert h2
 cases ts.findIdx? p with
 | some k => rintro ⟨rfl, h⟩; simp [h]
 | none => rintro ⟨rfl, nx, rfl⟩; simp
theorem conL_ok {g : FuncId} {caps : List D} {fl : Bool} {nl : Option Bool} {p : Lt → Bool} {ts : List Lt} (hn : ts.length ≤ 9223372036854775807) (hg : plc.raw g = false ∧ plc.weak g = false ∧ g < 1000000000) (hrec : ∀ x ∈ ts, pcl Cp g (.agg x.enc :: caps) = some (.bool (p x))) :
  pcl Cp 67 [.sl (encC ts) ts.length fl nl, .fn g caps] = some (.bool (ts.any p)) := by
 refine pcl_body code67 ?_
 have h := idxL_ok (fl := fl) (nl := nl) hn hg hrec
 rw [any_findIdx]
 cases hq : ts.findIdx? p <;> rw [hq] at h <;> simp [plc_raw, h]
end Go.Proofs.Ytajilkmepjhkdaa.Am

/-
 Literals: when two are the same, their sides, both programs'. No condition.
-/
namespace Go.Proofs.Ytajilkmepjhkdaa.Am
open Go Go.Proofs
set_option maxHeartbeats 4000000
set_option maxRecDepth 20000
set_option linter.unusedSimpArgs false
set_option linter.unusedVariables false
theorem lSame_ok (x y : Lt) (hx : x.ok) (hy : y.ok) : pcl Cp 41 [.agg x.enc, .agg y.enc] = some (.bool (x.same y)) := by
 have h1 := same_ok x.l hx.1 y.l hy.1
 have h2 := same_ok x.r hx.2 y.r hy.2
 have h3 := same_ok x.l hx.1 y.r hy.2
 have h4 := same_ok x.r hx.2 y.l hy.1
 refine pcl_body code41 ?_
 unfold Lt.same
 obtain ⟨n, ⟨v, fn, args⟩, ⟨v2, fn2, args2⟩⟩ := x
 obtain ⟨m, ⟨w, fm, brgs⟩, ⟨w2, fm2, brgs2⟩⟩ := y
 simp only at h1 h2 h3 h4 ⊢
 generalize (Term.mk v fn args).sameB (.mk w fm brgs) = b1 at *
 generalize (Term.mk v2 fn2 args2).sameB (.mk w2 fm2 brgs2) = b2 at *
 generalize (Term.mk v fn args).sameB (.mk w2 fm2 brgs2) = b3 at *
 generalize (Term.mk v2 fn2 args2).sameB (.mk w fm brgs) = b4 at *
 simp [Term.enc] at h1 h2 h3 h4
 by_cases hnm : n = m
 ·subst hnm
  cases b1
  ·cases b3 <;> simp [Lt.enc, Term.enc, plc_raw, h1, h3, h4]
  ·cases b2
   ·cases b3 <;> simp [Lt.enc, Term.enc, plc_raw, h1, h2, h3, h4]
   ·simp [Lt.enc, Term.enc, plc_raw, h1, h2]
 ·simp [Lt.enc, Term.enc, plc_raw, hnm]
theorem rlSame_ok (x y : Lt) (hx : x.ok) (hy : y.ok) : pcl Cp 42 [.agg x.enc, .agg y.enc] = some (.bool (x.same y)) := by
 have h1 := rsame_ok x.l hx.1 y.l hy.1
 have h2 := rsame_ok x.r hx.2 y.r hy.2
 have h3 := rsame_ok x.l hx.1 y.r hy.2
 have h4 := rsame_ok x.r hx.2 y.l hy.1
 refine pcl_body code42 ?_
 unfold Lt.same
 obtain ⟨n, ⟨v, fn, args⟩, ⟨v2, fn2, args2⟩⟩ := x
 obtain ⟨m, ⟨w, fm, brgs⟩, ⟨w2, fm2, brgs2⟩⟩ := y
 simp only at h1 h2 h3 h4 ⊢
 generalize (Term.mk v fn args).sameB (.mk w fm brgs) = b1 at *
 generalize (Term.mk v2 fn2 args2).sameB (.mk w2 fm2 brgs2) = b2 at *
 generalize (Term.mk v fn args).sameB (.mk w2 fm2 brgs2) = b3 at *
 generalize (Term.mk v2 fn2 args2).sameB (.mk w fm brgs) = b4 at *
 simp [Term.enc] at h1 h2 h3 h4
 by_cases hnm : n = m
 ·subst hnm
  cases b1
  ·cases b3 <;> simp [Lt.enc, Term.enc, plc_raw, h1, h3, h4]
  ·cases b2
   ·cases b3 <;> simp [Lt.enc, Term.enc, plc_raw, h1, h2, h3, h4]
   ·simp [Lt.enc, Term.enc, plc_raw, h1, h2]
 ·simp [Lt.enc, Term.enc, plc_raw, hnm]
def Lt.sidesP (x : Lt) : List Term := if x.neg then [x.l, x.r, x.l, x.r] else [x.l, x.r]
theorem sides_ok (x : Lt) : pcl Cp 30 [.agg x.enc] = some (.sl (encL x.sidesP) x.sidesP.length false (some false)) := by
 refine pcl_body code30 ?_
 obtain ⟨n, ⟨v, fn, args⟩, ⟨v2, fn2, args2⟩⟩ := x
 cases n <;> simp [Lt.enc, Term.enc, Lt.sidesP, encL, appendO, growO, srcCells, srcRaw]
theorem rsides_ok (x : Lt) : pcl Cp 34 [.agg x.enc] = some (.sl (encL x.sides) x.sides.length false (some false)) := by
 refine pcl_body code34 ?_
 obtain ⟨n, ⟨v, fn, args⟩, ⟨v2, fn2, args2⟩⟩ := x
 cases n <;> simp [Lt.enc, Term.enc, Lt.sides, encL]
def Lt.rightB (x : Lt) : Bool := decide (x.l.rightE = 0) && decide (x.r.rightE = 0)
theorem Lt.rightB_iff (x : Lt) : x.rightB = true ↔ x.right := by simp [Lt.rightB, Lt.right]
theorem each_ok (x : Lt) (hx : x.ok) : pcl Cp 32 [.agg x.enc] = some (.bool x.rightB) := by
 have h1 := rright_ok x.l hx.1
 have h2 := rright_ok x.r hx.2
 refine pcl_body code32 ?_
 unfold Lt.rightB
 obtain ⟨n, ⟨v, fn, args⟩, ⟨v2, fn2, args2⟩⟩ := x
 simp only at h1 h2 ⊢
 generalize (Term.mk v fn args).rightE = z1 at *
 generalize (Term.mk v2 fn2 args2).rightE = z2 at *
 simp [Term.enc] at h1 h2
 by_cases e1 : z1 = 0
 ·by_cases e2 : z2 = 0 <;> simp [Lt.enc, Term.enc, plc_raw, h1, h2, e1, e2]
 ·simp [Lt.enc, Term.enc, plc_raw, h1, h2, e1]
end Go.Proofs.Ytajilkmepjhkdaa.Am

/-
 A loop over a clause's terms, by a function. No condition.
-/
namespace Go.Proofs.Ytajilkmepjhkdaa.Am
open Go Go.Proofs
set_option maxHeartbeats 4000000
set_option maxRecDepth 20000
set_option linter.unusedSimpArgs false
set_option linter.unusedVariables false
theorem numF_y : numF 1000000000 = 1000000000 := rfl
theorem joinF_y (as1 cap : List AV) : joinF 1000000000 as1 cap = as1 ++ cap := rfl
theorem yield_on {t : AV} {p : Tmp} {o : Oid} {H : Hp} {nx : Nat} {ac body : ACode} {tm : List AV} (h : H o = some (.rc [p] ac body tm .ready)) (hn : noR ac = true ∧ noR body = true) {s1 s2 : St}
  (h1 : exec Try.prog plc (acall Try.prog plc) (aloop Try.prog plc) ac ⟨tm.set p t, H, nx⟩ = some (.normal, s1)) (h2 : s1.hp o = some (.rc [p] ac body tm .ready))
  (h3 : exec Try.prog plc (acall Try.prog plc) (aloop Try.prog plc) body ⟨s1.tm, upd s1.hp o (.rc [p] ac body tm .busy), s1.nx⟩ = some (.normal, s2)) (h4 : s2.hp o = some (.rc [p] ac body tm .busy)) :
  acall Try.prog plc yieldF [t, .yld o] H nx = some (.d (.bool true), upd s2.hp o (.rc [p] ac body tm .ready), s2.nx) := by
 refine acall_of _ _ ?_
 simp only [callF, if_pos, roundF, List.getLast?_cons_cons, List.getLast?_singleton, h, hn, setPs, h1, h2, h3, h4, Option.bind_some]
 rfl
theorem yield_off {t : AV} {p : Tmp} {o : Oid} {H : Hp} {nx : Nat} {ac body : ACode} {tm : List AV} (h : H o = some (.rc [p] ac body tm .ready)) (hn : noR ac = true ∧ noR body = true) {s1 s2 : St}
  (h1 : exec Try.prog plc (acall Try.prog plc) (aloop Try.prog plc) ac ⟨tm.set p t, H, nx⟩ = some (.normal, s1)) (h2 : s1.hp o = some (.rc [p] ac body tm .ready))
  (h3 : exec Try.prog plc (acall Try.prog plc) (aloop Try.prog plc) body ⟨s1.tm, upd s1.hp o (.rc [p] ac body tm .busy), s1.nx⟩ = some (.ret, s2)) (h4 : s2.hp o = some (.rc [p] ac body tm .busy)) :
  acall Try.prog plc yieldF [t, .yld o] H nx = some (.d (.bool false), upd s2.hp o (.rc [p] ac body tm (.left .ret)), s2.nx) := by
 refine acall_of _ _ ?_
 simp only [callF, if_pos, roundF, List.getLast?_cons_cons, List.getLast?_singleton, h, hn, setPs, h1, h2, h3, h4, Option.bind_some]
 rfl
theorem yield_onE {t : AV} {p : Tmp} {o : Oid} {H : Hp} {nx : Nat} {ac body : ACode} {tm : List AV} (h : H o = some (.rc [p] ac body tm .ready)) (hn : noR ac = true ∧ noR body = true) {s1 : St} (Q : St → Prop)
  (h1 : exec Try.prog plc (acall Try.prog plc) (aloop Try.prog plc) ac ⟨tm.set p t, H, nx⟩ = some (.normal, s1)) (h2 : s1.hp o = some (.rc [p] ac body tm .ready))
  (h3 : ∃ s2, exec Try.prog plc (acall Try.prog plc) (aloop Try.prog plc) body ⟨s1.tm, upd s1.hp o (.rc [p] ac body tm .busy), s1.nx⟩ = some (.normal, s2) ∧ s2.hp o = some (.rc [p] ac body tm .busy) ∧ Q s2) :
  ∃ s2 : St, acall Try.prog plc yieldF [t, .yld o] H nx = some (.d (.bool true), upd s2.hp o (.rc [p] ac body tm .ready), s2.nx) ∧ Q s2 := by
 obtain ⟨s2, h3, h4, hq⟩ := h3
 exact ⟨s2, yield_on h hn h1 h2 h3 h4, hq⟩
theorem yield_offE {t : AV} {p : Tmp} {o : Oid} {H : Hp} {nx : Nat} {ac body : ACode} {tm : List AV} (h : H o = some (.rc [p] ac body tm .ready)) (hn : noR ac = true ∧ noR body = true) {s1 : St} (Q : St → Prop)
  (h1 : exec Try.prog plc (acall Try.prog plc) (aloop Try.prog plc) ac ⟨tm.set p t, H, nx⟩ = some (.normal, s1)) (h2 : s1.hp o = some (.rc [p] ac body tm .ready))
  (h3 : ∃ s2, exec Try.prog plc (acall Try.prog plc) (aloop Try.prog plc) body ⟨s1.tm, upd s1.hp o (.rc [p] ac body tm .busy), s1.nx⟩ = some (.ret, s2) ∧ s2.hp o = some (.rc [p] ac body tm .busy) ∧ Q s2) :
  ∃ s2 : St, acall Try.prog plc yieldF [t, .yld o] H nx = some (.d (.bool false), upd s2.hp o (.rc [p] ac body tm (.left .ret)), s2.nx) ∧ Q s2 := by
 obtain ⟨s2, h3, h4, hq⟩ := h3
 exact ⟨s2, yield_off h hn h1 h2 h3 h4, hq⟩
def sideL (c : List Lt) : List Term := c.flatMap fun x => [x.l, x.r]
def runT {S : Type} (go : S → Term → Bool) (nxt : S → Term → S) : S → List Term → S × Bool
 | s, [] => (s, true)
 | s, t :: r => if go s t then runT go nxt (nxt s t) r else (nxt s t, false)
structure Yields {S : Type} (o : Oid) (go : S → Term → Bool) (nxt : S → Term → S) (inv fin : S → Hp → Prop) : Prop where
 step : ∀ s H nx (t : Term), inv s H → o.1 < nx → t.ok → ∃ H' nx', acall Try.prog plc yieldF [.d (.agg t.enc), .yld o] H nx = some (.d (.bool (go s t)), H', nx') ∧ nx ≤ nx' ∧ (∀ p : Oid, o.1 < p.1 → p.1 < nx → H' p = H p) ∧ (if go s t then inv (nxt s t) H' else fin (nxt s t) H')
 invk : ∀ s H H', inv s H → (∀ p : Oid, p.1 ≤ o.1 → H' p = H p) → inv s H'
 fink : ∀ s H H', fin s H → (∀ p : Oid, p.1 ≤ o.1 → H' p = H p) → fin s H'
structure SdS (S : Type) where
 s : S
 i : Nat
 H : Hp
abbrev sdT (o : Oid) (c : List Lt) (fl : Bool) (nl : Option Bool) (i : Nat) : List AV := [.yld o, .junk, .junk, .junk, .junk, .d (.sl (encC c) c.length fl nl), .d (.int .i64 c.length), .d (.int .i64 i), .junk, .junk, .junk, .junk, .junk, .junk, .junk, .junk, .junk, .junk, .junk, .junk, .junk, .junk, .junk, .junk]
def SdE {S : Type} (N : Nat) (o : Oid) (c : List Lt) (fl : Bool) (nl : Option Bool) (inv fin : S → Hp → Prop) (r : S × Bool) (e : Ex) (st : St) : Prop :=
 N ≤ st.nx ∧ st.tm.length = 24 ∧ (if r.2 then e = .exit 0 ∧ inv r.1 st.hp else e = .ret ∧ fin r.1 st.hp)
theorem sides_loop {S : Type} {o : Oid} {go : S → Term → Bool} {nxt : S → Term → S} {inv fin : S → Hp → Prop} (hy : Yields o go nxt inv fin) {c : List Lt} (hc : okC c) (fl : Bool) (nl : Option Bool) {N : Nat} (hN : o.1 < N) (s0 : S) {H0 : Hp} (h0 : inv s0 H0) :
  ∃ e st, aloop Try.prog plc b107_0 ⟨[true, false, false, false, false, true, true, true, false, false, false, false, false, false, false, false, false, false, false, false, false, false, false, false], some N⟩ ⟨sdT o c fl nl 0, H0, N⟩ = some (e, st) ∧ SdE N o c fl nl inv fin (runT go nxt s0 (sideL c)) e st := by
 have h := loop_rule (P := Try.prog) (pol := plc) (c := b107_0) (m := ⟨[true, false, false, false, false, true, true, true, false, false, false, false, false, false, false, false, false, false, false, false, false, false, false, false], some N⟩)
  (b := N) (tm := fun (s : SdS S) => sdT o c fl nl s.i) (Hf := fun s => s.H)
  (I := fun s => s.i ≤ c.length ∧ inv s.s s.H) (μ := fun s => c.length - s.i) (res := fun s => runT go nxt s.s (sideL (c.drop s.i))) (R := SdE N o c fl nl inv fin)
  (fun s nx1 hI => by
   obtain ⟨hi, hinv⟩ := hI
   rcases Nat.lt_or_ge s.i c.length with hl | hl
   ·obtain ⟨n, v, fn, args, v2, fn2, args2, a⟩ := atC_ok hc.1 hl
    have hx := hc.2 _ a.mem
    have hd : sideL (c.drop s.i) = .mk v fn args :: .mk v2 fn2 args2 :: sideL (c.drop (s.i + 1)) := by rw [a.dr]; rfl
    obtain ⟨Hb, hHb⟩ : ∃ Hb : Hp, Hb = upd (upd (upd s.H (nx1 + (N + 3), 4) .vnil) (nx1 + (N + 3), 7) .vnil) (nx1 + (N + 3), 0) (.cells [.d (.bool n), .d (.int .i64 v), .d (.str fn), .d (.sl (encL args) args.length false none), .d (.int .i64 v2), .d (.str fn2), .d (.sl (encL args2) args2.length false none)]) := ⟨_, rfl⟩
    have hbs : Hb (nx1 + (N + 3), 0) = some (.cells [.d (.bool n), .d (.int .i64 v), .d (.str fn), .d (.sl (encL args) args.length false none), .d (.int .i64 v2), .d (.str fn2), .d (.sl (encL args2) args2.length false none)]) := by rw [hHb]; exact upd_same _ _ _
    have hbk : ∀ p : Oid, p.1 < N → Hb p = s.H p := fun p hp => by rw [hHb]; simp only [uold (show p.1 < nx1 + (N + 3) by omega)]
    have hib : inv s.s Hb := hy.invk _ _ _ hinv fun p hp => hbk p (by omega)
    obtain ⟨H1, m1, hy1, hm1, hk1, hr1⟩ := hy.step s.s Hb (nx1 + (N + 17)) (.mk v fn args) hib (by omega) hx.1
    have hb1 : H1 (nx1 + (N + 3), 0) = some (.cells [.d (.bool n), .d (.int .i64 v), .d (.str fn), .d (.sl (encL args) args.length false none), .d (.int .i64 v2), .d (.str fn2), .d (.sl (encL args2) args2.length false none)]) := by rw [hk1 _ (by simp only; omega) (by simp only; omega)]; exact hbs
    simp [Term.enc] at hy1
    cases hg1 : go s.s (.mk v fn args) with
    | false =>
     rw [hg1] at hy1 hr1
     simp only [Bool.false_eq_true, if_false] at hr1
     conv => arg 9; arg 4; unfold b107_0
     simp [a.lti, a.sz, a.ltm, a.cells, a.le7, a.w, plc_raw, Nat.add_assoc, ← hHb, hbs, numF_y, joinF_y, hy1]
     refine .fin _ _ ⟨by simp only; omega, by simp, ?_⟩
     simp only [hd, runT, hg1, Bool.false_eq_true, if_false]
     exact ⟨trivial, hy.fink _ _ _ hr1 fun p hp => blt (by omega)⟩
    | true =>
     rw [hg1] at hy1 hr1
     simp only [if_true] at hr1
     obtain ⟨H2, m2, hy2, hm2, hk2, hr2⟩ := hy.step (nxt s.s (.mk v fn args)) H1 m1 (.mk v2 fn2 args2) hr1 (by omega) hx.2
     simp [Term.enc] at hy2
     cases hg2 : go (nxt s.s (.mk v fn args)) (.mk v2 fn2 args2) with
     | false =>
      rw [hg2] at hy2 hr2
      simp only [Bool.false_eq_true, if_false] at hr2
      conv => arg 9; arg 4; unfold b107_0
      simp [a.lti, a.sz, a.ltm, a.cells, a.le7, a.w, plc_raw, Nat.add_assoc, ← hHb, hbs, numF_y, joinF_y, hy1, hb1, hy2]
      refine .fin _ _ ⟨by simp only; omega, by simp, ?_⟩
      simp only [hd, runT, hg1, hg2, if_true, Bool.false_eq_true, if_false]
      exact ⟨trivial, hy.fink _ _ _ hr2 fun p hp => blt (by omega)⟩
     | true =>
      rw [hg2] at hy2 hr2
      simp only [if_true] at hr2
      conv => arg 9; arg 4; unfold b107_0
      simp [a.lti, a.sz, a.ltm, a.cells, a.le7, a.w, plc_raw, Nat.add_assoc, ← hHb, hbs, numF_y, joinF_y, hy1, hb1, hy2]
      exact .next (SdS.mk (nxt (nxt s.s (.mk v fn args)) (.mk v2 fn2 args2)) (s.i + 1) (below N H2)) (by omega) (by simp) rfl ⟨hl, hy.invk _ _ _ hr2 fun p hp => blt (by omega)⟩ (by simp only; omega) (by simp only [hd, runT, hg1, hg2, if_true])
   ·have hie : s.i = c.length := Nat.le_antisymm hi hl
    simp [b107_0, hie]
    refine .fin _ _ ⟨by simp only; omega, by simp, ?_⟩
    simp only [hie, List.drop_length, sideL, List.flatMap_nil, runT, if_true]
    exact ⟨trivial, hy.invk _ _ _ hinv fun p hp => blt (by omega)⟩) ⟨s0, 0, H0⟩ ⟨Nat.zero_le _, h0⟩
 exact h
theorem sides1_ok {S : Type} {o : Oid} {go : S → Term → Bool} {nxt : S → Term → S} {inv fin : S → Hp → Prop} (hy : Yields o go nxt inv fin) {c : List Lt} (hc : okC c) (fl : Bool) (nl : Option Bool) {nx : Nat} (hN : o.1 < nx) (s0 : S) {H0 : Hp} (h0 : inv s0 H0) :
  ∃ v H' nx', acall Try.prog plc 107 [.yld o, .d (.dptr [.sl (encC c) c.length fl nl])] H0 nx = some (v, H', nx') ∧ nx ≤ nx' ∧ (if (runT go nxt s0 (sideL c)).2 then inv (runT go nxt s0 (sideL c)).1 H' else fin (runT go nxt s0 (sideL c)).1 H') := by
 obtain ⟨e, st, hrun, hN2, hlen, hR⟩ := sides_loop hy hc fl nl (N := nx + 3) (by omega) s0 h0
 simp [sdT] at hrun
 generalize hr : runT go nxt s0 (sideL c) = r at *
 obtain ⟨s, b⟩ := r
 cases b
 ·simp only [Bool.false_eq_true, if_false] at hR ⊢
  obtain ⟨rfl, hf⟩ := hR
  refine ⟨.d (.tup []), st.hp, st.nx, acall_body code107 ?_, by omega, hf⟩
  simp [hrun]
 ·simp only [if_true] at hR ⊢
  obtain ⟨rfl, hf⟩ := hR
  refine ⟨.d (.tup []), st.hp, st.nx, acall_body code107 ?_, by omega, hf⟩
  simp [hrun]
end Go.Proofs.Ytajilkmepjhkdaa.Am

/-
 Which clauses are right, as the document says. No condition.
-/
namespace Go.Proofs.Ytajilkmepjhkdaa.Am
open Go Go.Proofs
set_option maxHeartbeats 4000000
set_option maxRecDepth 20000
set_option linter.unusedSimpArgs false
set_option linter.unusedVariables false
@[simp] theorem wkL_encC : ∀ (c : List Lt), wkL (encC c) = encC c
 | [] => rfl
 | ⟨n, ⟨v, fn, args⟩, ⟨v2, fn2, args2⟩⟩ :: r => by simp [encC, Lt.enc, Term.enc, wkL_encC r]
theorem AtC.f1 {c : List Lt} {i : Nat} {n : Bool} {v v2 : Int} {fn fn2 : ByteArray} {args args2 : List Term} (a : AtC c i n v fn args v2 fn2 args2) : ((encC c).drop (i * 7 + 1)).take 3 = [.int .i64 v, .str fn, .sl (encL args) args.length false none] := by
 have h := congrArg (fun l => (l.drop 1).take 3) a.cells
 simp only [List.drop_take, List.drop_drop, List.take_take] at h
 exact h
theorem AtC.f2 {c : List Lt} {i : Nat} {n : Bool} {v v2 : Int} {fn fn2 : ByteArray} {args args2 : List Term} (a : AtC c i n v fn args v2 fn2 args2) : ((encC c).drop (i * 7 + 4)).take 3 = [.int .i64 v2, .str fn2, .sl (encL args2) args2.length false none] := by
 have h := congrArg (fun l => (l.drop 4).take 3) a.cells
 simp only [List.drop_take, List.drop_drop, List.take_take] at h
 exact h
abbrev sz6T (c : List Lt) (fl : Bool) (nl : Option Bool) (acc : Int) (i : Nat) : List AV := [.d (.sl (encC c) c.length fl nl), .junk, .d (.int .i64 0), .d (.int .i64 acc), .d (.int .i64 i), .junk, .junk, .junk, .junk, .junk, .junk, .junk, .junk, .junk, .junk, .junk, .junk, .junk, .junk, .junk, .junk, .junk, .junk, .junk, .junk, .junk, .junk]
theorem rsize6_ok {c : List Lt} (hc : okC c) (fl : Bool) (nl : Option Bool) : pcl Cp 21 [.sl (encC c) c.length fl nl] = some (.int .i64 (csizeW 0 c)) := by
 have h := loop_rule (P := Try.prog) (pol := plc) (c := b21_0) (m := ⟨[true, false, true, true, true, false, false, false, false, false, false, false, false, false, false, false, false, false, false, false, false, false, false, false, false, false, true], some 3⟩)
  (b := 3) (tm := fun (s : Int × Nat) => sz6T c fl nl s.1 s.2) (Hf := fun _ => fun _ => none)
  (I := fun s => s.2 ≤ c.length) (μ := fun s => c.length - s.2) (res := fun s => csizeW s.1 (c.drop s.2)) (R := fun r => AtExit 0 (sz6T c fl nl r c.length) (fun _ => none))
  (fun s nx1 hi => by
   obtain ⟨acc, i⟩ := s
   simp only at hi
   rcases Nat.lt_or_ge i c.length with hl | hl
   ·obtain ⟨n, v, fn, args, v2, fn2, args2, a⟩ := atC_ok hc.1 hl
    have hx := hc.2 _ a.mem
    have c1 := rsize_ok _ hx.1
    have c2 := rsize_ok _ hx.2
    simp [Term.enc] at c1 c2
    have e1 : i * 7 + 7 ≤ c.length * 7 := by omega
    have e4 : 4 ≤ c.length * 7 - i * 7 := by omega
    have e5 : 3 ≤ c.length * 7 - (i * 7 + 1) := by omega
    have e6 : 3 ≤ c.length * 7 - (i * 7 + 4) := by omega
    have e7 : 7 ≤ c.length * 7 - i * 7 := by omega
    have hf1 := a.f1
    have hf2 := a.f2
    conv => arg 9; arg 4; unfold b21_0
    simp [a.lti, a.sz, a.ltm, a.le7, hf1, hf2, e1, e4, e5, e6, e7, plc_raw, c1, c2, a.w]
    exact .next (Lt.sizeW ⟨n, .mk v fn args, .mk v2 fn2 args2⟩ acc, i + 1) (by omega) (by simp [Lt.sizeW]) rfl hl (by simp only; omega) (by simp only [a.dr, csizeW])
   ·obtain rfl : i = c.length := Nat.le_antisymm hi hl
    simp [b21_0]
    exact .fin _ _ (by simp [csizeW]; exact .mk)) (0, 0) (Nat.zero_le _)
 obtain ⟨e, t, hrun, rfl, nx, rfl⟩ := h
 refine pcl_body code21 ?_
 simp [sz6T] at hrun
 simp [hrun]
abbrev rt6T (c : List Lt) (fl : Bool) (nl : Option Bool) (i : Nat) : List AV := [.d (.sl (encC c) c.length fl nl), .junk, .d (.int .i64 0), .d (.int .i64 i), .junk, .junk, .junk, .junk, .junk, .junk, .junk, .junk, .junk, .junk, .junk, .junk, .junk, .junk, .junk, .junk, .junk, .junk, .junk, .junk, .junk, .junk, .junk, .junk, .junk, .junk, .junk, .junk, .junk, .junk, .junk, .junk]
theorem rright6_ok {c : List Lt} (hc : okC c) (fl : Bool) (nl : Option Bool) : pcl Cp 19 [.sl (encC c) c.length fl nl] = some (.int .i64 (clE c)) := by
 have h := loop_rule (P := Try.prog) (pol := plc) (c := b19_0) (m := ⟨[true, false, true, true, false, false, false, false, false, false, false, false, false, false, false, false, false, false, false, false, false, false, false, false, false, false, false, false, false, false, false, false, false, true, true, true], some 5⟩)
  (b := 5) (tm := fun (i : Nat) => rt6T c fl nl i) (Hf := fun _ => fun _ => none)
  (I := fun i => i ≤ c.length) (μ := fun i => c.length - i) (res := fun i => firstE (c.drop i)) (R := fun r e t => if r = 0 then AtExit 0 (rt6T c fl nl c.length) (fun _ => none) e t else AtRet 2 (.d (.int .i64 r)) e t)
  (fun i nx1 hi => by
   rcases Nat.lt_or_ge i c.length with hl | hl
   ·obtain ⟨n, v, fn, args, v2, fn2, args2, a⟩ := atC_ok hc.1 hl
    have hx := hc.2 _ a.mem
    have c1 := rright_ok _ hx.1
    have c2 := rright_ok _ hx.2
    have hd : firstE (c.drop i) = if (Term.mk v fn args).rightE ≠ 0 then (Term.mk v fn args).rightE else if (Term.mk v2 fn2 args2).rightE ≠ 0 then (Term.mk v2 fn2 args2).rightE else firstE (c.drop (i + 1)) := by rw [a.dr]; rfl
    simp only at c1 c2
    generalize (Term.mk v fn args).rightE = z1 at c1 hd
    generalize (Term.mk v2 fn2 args2).rightE = z2 at c2 hd
    simp [Term.enc] at c1 c2
    have e1 : i * 7 + 7 ≤ c.length * 7 := by omega
    have e4 : 4 ≤ c.length * 7 - i * 7 := by omega
    have e5 : 3 ≤ c.length * 7 - (i * 7 + 1) := by omega
    have e6 : 3 ≤ c.length * 7 - (i * 7 + 4) := by omega
    have e7 : 7 ≤ c.length * 7 - i * 7 := by omega
    have hf1 := a.f1
    have hf2 := a.f2
    conv => arg 9; arg 4; unfold b19_0
    by_cases h1 : z1 = 0
    ·by_cases h2 : z2 = 0
     ·simp [a.lti, a.sz, a.ltm, a.le7, hf1, hf2, e1, e4, e5, e6, e7, plc_raw, c1, c2, a.w, h1, h2]
      exact .next (i + 1) (by omega) (by simp) rfl hl (by omega) (by rw [hd, if_neg (by simp [h1]), if_neg (by simp [h2])])
     ·simp [a.lti, a.sz, a.ltm, a.le7, hf1, hf2, e1, e4, e5, e6, e7, plc_raw, c1, c2, a.w, h1, h2]
      have hr : firstE (c.drop i) = z2 := by rw [hd]; simp [h1, h2]
      exact .fin _ _ (by simp only [hr]; rw [if_neg h2]; exact ⟨rfl, rfl⟩)
    ·simp [a.lti, a.sz, a.ltm, a.le7, hf1, hf2, e1, e4, e5, e6, e7, plc_raw, c1, c2, a.w, h1]
     have hr : firstE (c.drop i) = z1 := by rw [hd]; simp [h1]
     exact .fin _ _ (by simp only [hr]; rw [if_neg h1]; exact ⟨rfl, rfl⟩)
   ·obtain rfl : i = c.length := Nat.le_antisymm hi hl
    simp [b19_0]
    exact .fin _ _ (by simp [firstE]; exact .mk)) 0 (Nat.zero_le _)
 obtain ⟨e, t, hrun, hR⟩ := h
 have hsz := rsize6_ok hc fl nl
 refine pcl_body code19 ?_
 unfold clE
 simp only [List.drop_zero] at hR
 generalize csizeW 0 c = z at *
 generalize firstE c = f at *
 simp [rt6T] at hrun
 by_cases h60 : c.length > 60
 ·have h60' : (60 : Int) < (c.length : Int) := by omega
  simp [h60, h60']
 ·have h60' : ¬ (60 : Int) < (c.length : Int) := by omega
  by_cases hf : f = 0
  ·rw [if_pos hf] at hR
   obtain ⟨rfl, nx, rfl⟩ := hR
   by_cases hz : 4000 < z <;> simp [h60, h60', hrun, plc_raw, hsz, hf, hz]
  ·rw [if_neg hf] at hR
   obtain ⟨rfl, hv⟩ := hR
   simp [h60, h60', hrun, hv, hf]
end Go.Proofs.Ytajilkmepjhkdaa.Am

/-
 Which clauses are right, as the program says. No condition.
-/
namespace Go.Proofs.Ytajilkmepjhkdaa.Am
open Go Go.Proofs
set_option maxHeartbeats 4000000
set_option maxRecDepth 20000
set_option linter.unusedSimpArgs false
set_option linter.unusedVariables false
theorem lsides_ok (c : List Lt) (nl : Option Bool) : pcl Cp 96 [.sl (encC c) c.length false nl] = some (.fn 107 [.dptr [.sl (encC c) c.length false nl]]) := by
 refine pcl_body code96 ?_
 simp [-isNil, isNil_sl, isNil_int, isNil_bool, isNil_str, isNil_agg, isNil_dptr, isNil_fn, isNil_fna, isNil_osl, isNil_ptr, isNil_agga, isNil_nilfn, plc_raw]
abbrev szTm (c : List Lt) (nl : Option Bool) : List AV := [.d (.sl (encC c) c.length false nl), .junk, .d (.int .i64 0), .ptr (1, 0) 0 1, .junk, .d (.sl (encC c) c.length false nl), .d (.fn 107 [.dptr [.sl (encC c) c.length false nl]]), .junk, .junk, .junk, .junk, .junk, .junk]
abbrev tO (v : Int) (fn : ByteArray) (args : List Term) : Am.Obj := .cells [.d (.int .i64 v), .d (.str fn), .d (.sl (encL args) args.length false none)]
def szI (c : List Lt) (nl : Option Bool) (acc : Int) (H : Hp) : Prop := H (5, 0) = some (.rc [7] ra97_0 rb97_0 (szTm c nl) .ready) ∧ H (1, 0) = some (.cells [.d (.int .i64 acc)])
theorem sz_yields (c : List Lt) (nl : Option Bool) : Yields (5, 0) (fun _ _ => true) (fun acc t => IntKind.i64.wrap (acc + t.sizeW)) (szI c nl) (fun _ _ => False) := by
 refine ⟨fun acc H nx t hI hn ht => ?_, fun s H H' hI hk => ⟨(hk _ (by simp)).trans hI.1, (hk _ (by simp)).trans hI.2⟩, fun _ _ _ h _ => h⟩
 have hcall := size_ok t ht
 simp only at hn
 obtain ⟨v, fn, args⟩ := t
 generalize hz : (Term.mk v fn args).sizeW = z at hcall
 simp [Term.enc] at hcall
 have g0 : ∀ k j x (H' : Hp), upd H' (nx + k, j) x (5, 0) = H' (5, 0) := fun k j x H' => uold (by simp only; omega) _ _ _
 have g1 : ∀ k j x (H' : Hp), upd H' (nx + k, j) x (1, 0) = H' (1, 0) := fun k j x H' => uold (by simp only; omega) _ _ _
 have g2 : ∀ j x (H' : Hp), upd H' (nx, j) x (5, 0) = H' (5, 0) := fun j x H' => uold hn _ _ _
 have g3 : ∀ j x (H' : Hp), upd H' (nx, j) x (1, 0) = H' (1, 0) := fun j x H' => uold (by simp only; omega) _ _ _
 have g4 : ∀ j x (H' : Hp), upd H' (5, 0) x (nx, j) = H' (nx, j) := fun j x H' => une (fun e => by cases e; omega)
 obtain ⟨s2, hy, hq1, hq2, hq3⟩ := yield_onE (t := .d (.agg (Term.mk v fn args).enc)) (nx := nx) hI.1 ⟨rfl, rfl⟩ (fun s2 => nx ≤ s2.nx ∧ s2.hp (1, 0) = some (.cells [.d (.int .i64 (IntKind.i64.wrap (acc + z)))]) ∧ ∀ p : Oid, 5 < p.1 → p.1 < nx → s2.hp p = H p)
  (s1 := ⟨[.d (.sl (encC c) c.length false nl), .junk, .d (.int .i64 0), .ptr (1, 0) 0 1, .ptr (nx, 0) 0 3, .d (.sl (encC c) c.length false nl), .d (.fn 107 [.dptr [.sl (encC c) c.length false nl]]), .d (.agg (Term.mk v fn args).enc), .junk, .junk, .junk, .junk, .junk], upd (upd H (nx, 3) .vnil) (nx, 0) (tO v fn args), nx + 2⟩)
  (by simp [ra97_0, szTm, Term.enc]) (by simp only [g2]; exact hI.1) (by
   simp [rb97_0, plc_raw, g0, g1, g2, g3, g4, hI.2, hcall, Term.enc]
   refine ⟨by omega, fun a b h5 hlt => ?_⟩
   rw [une (fun e => by cases e; omega), une (fun e => by cases e; omega), uold hlt, uold hlt])
 refine ⟨_, _, hy, hq1, fun p h1 h2 => by rw [une (fun e => by subst e; simp at h1)]; exact hq3 p h1 h2, ?_⟩
 simp only [if_true]
 exact ⟨upd_same _ _ _, by rw [une (by simp)]; exact hq2⟩
theorem runT_sz : ∀ (l : List Term) (acc : Int), runT (fun _ _ => true) (fun acc t => IntKind.i64.wrap (acc + t.sizeW)) acc l = (l.foldl (fun acc t => IntKind.i64.wrap (acc + t.sizeW)) acc, true)
 | [], _ => rfl
 | t :: r, acc => by simp only [runT, if_true, List.foldl_cons, runT_sz r]
theorem fold_sz : ∀ (c : List Lt) (acc : Int), (sideL c).foldl (fun acc t => IntKind.i64.wrap (acc + t.sizeW)) acc = csizeW acc c
 | [], _ => rfl
 | x :: r, acc => by
  have := fold_sz r (x.sizeW acc)
  simp only [sideL, List.flatMap_cons, List.foldl_append, List.foldl_cons, List.foldl_nil, csizeW, Lt.sizeW] at this ⊢
  exact this
theorem lsize_ok {c : List Lt} (hc : okC c) (nl : Option Bool) : pcl Cp 97 [.sl (encC c) c.length false nl] = some (.int .i64 (csizeW 0 c)) := by
 have h := lsides_ok c nl
 obtain ⟨H0, hH0⟩ : ∃ H0 : Hp, H0 = upd (upd (fun _ => none) (1, 0) (.cells [.d (.int .i64 0)])) (5, 0) (.rc [7] ra97_0 rb97_0 (szTm c nl) .ready) := ⟨_, rfl⟩
 obtain ⟨v, H', nx', hrun, hnx, hR⟩ := sides1_ok (sz_yields c nl) hc false nl (nx := 6) (by decide) 0 (H0 := H0) ⟨by rw [hH0]; simp, by rw [hH0]; simp⟩
 rw [runT_sz, fold_sz] at hR
 simp only [if_true] at hR
 obtain ⟨hR1, hR2⟩ := hR
 refine pcl_body code97 ?_
 have hd : ∀ p, p ≠ (5, 0) → dropO H' (5, 0) p = H' p := fun p hp => by simp [dropO, hp]
 simp [szTm] at hH0
 simp [plc_raw, h, ← hH0, hrun, afterK_ready hR1, hd, hR2]
end Go.Proofs.Ytajilkmepjhkdaa.Am

/-
 Which clauses are right, as the program says. No condition.
-/
namespace Go.Proofs.Ytajilkmepjhkdaa.Am
open Go Go.Proofs
set_option maxHeartbeats 4000000
set_option maxRecDepth 20000
set_option linter.unusedSimpArgs false
set_option linter.unusedVariables false
abbrev rtTm (c : List Lt) (nl : Option Bool) : List AV := [.d (.sl (encC c) c.length false nl), .junk, .ptr (0, 0) 0 1, .junk, .junk, .d (.sl (encC c) c.length false nl), .d (.int .i64 c.length), .d (.bool false), .d (.sl (encC c) c.length false nl), .d (.fn 107 [.dptr [.sl (encC c) c.length false nl]]), .junk, .junk, .junk, .junk, .junk, .junk, .junk, .junk, .junk]
def rtI (c : List Lt) (nl : Option Bool) (_ : Int) (H : Hp) : Prop := H (6, 0) = some (.rc [10] ra64_0 rb64_0 (rtTm c nl) .ready) ∧ H (0, 0) = some (.cells [.d (.int .i64 0)])
def rtF (c : List Lt) (nl : Option Bool) (e : Int) (H : Hp) : Prop := H (6, 0) = some (.rc [10] ra64_0 rb64_0 (rtTm c nl) (.left .ret)) ∧ H (0, 0) = some (.cells [.d (.int .i64 e)])
theorem rt_yields (c : List Lt) (nl : Option Bool) : Yields (6, 0) (fun _ t => decide (t.rightE = 0)) (fun _ t => t.rightE) (rtI c nl) (rtF c nl) := by
 refine ⟨fun acc H nx t hI hn ht => ?_, fun s H H' hI hk => ⟨(hk _ (by simp)).trans hI.1, (hk _ (by simp)).trans hI.2⟩, fun s H H' hI hk => ⟨(hk _ (by simp)).trans hI.1, (hk _ (by simp)).trans hI.2⟩⟩
 have hcall := tright_ok t ht
 simp only at hn
 obtain ⟨v, fn, args⟩ := t
 generalize hz : (Term.mk v fn args).rightE = z at hcall
 simp [Term.enc] at hcall
 have g0 : ∀ k j x (H' : Hp), upd H' (nx + k, j) x (6, 0) = H' (6, 0) := fun k j x H' => uold (by simp only; omega) _ _ _
 have g1 : ∀ k j x (H' : Hp), upd H' (nx + k, j) x (0, 0) = H' (0, 0) := fun k j x H' => uold (by simp only; omega) _ _ _
 have g2 : ∀ j x (H' : Hp), upd H' (nx, j) x (6, 0) = H' (6, 0) := fun j x H' => uold hn _ _ _
 have g3 : ∀ j x (H' : Hp), upd H' (nx, j) x (0, 0) = H' (0, 0) := fun j x H' => uold (by simp only; omega) _ _ _
 have g4 : ∀ j x (H' : Hp), upd H' (6, 0) x (nx, j) = H' (nx, j) := fun j x H' => une (fun e => by cases e; omega)
 by_cases h0 : z = 0
 ·obtain ⟨s2, hy, hq1, hq2, hq3⟩ := yield_onE (t := .d (.agg (Term.mk v fn args).enc)) (nx := nx) hI.1 ⟨rfl, rfl⟩ (fun s2 => nx ≤ s2.nx ∧ s2.hp (0, 0) = some (.cells [.d (.int .i64 0)]) ∧ ∀ p : Oid, 6 < p.1 → p.1 < nx → s2.hp p = H p)
   (s1 := ⟨[.d (.sl (encC c) c.length false nl), .junk, .ptr (0, 0) 0 1, .ptr (nx, 0) 0 3, .junk, .d (.sl (encC c) c.length false nl), .d (.int .i64 c.length), .d (.bool false), .d (.sl (encC c) c.length false nl), .d (.fn 107 [.dptr [.sl (encC c) c.length false nl]]), .d (.agg (Term.mk v fn args).enc), .junk, .junk, .junk, .junk, .junk, .junk, .junk, .junk], upd (upd H (nx, 3) .vnil) (nx, 0) (tO v fn args), nx + 2⟩)
   (by simp [ra64_0, rtTm, Term.enc]) (by simp only [g2]; exact hI.1) (by
    simp [rb64_0, plc_raw, g0, g1, g2, g3, g4, hI.2, hcall, Term.enc, h0]
    refine ⟨by omega, fun a b h5 hlt => ?_⟩
    rw [une (fun e => by cases e; omega), uold hlt, uold hlt])
  have hdt : decide (z = 0) = true := by simp [h0]
  refine ⟨upd s2.hp (6, 0) (.rc [10] ra64_0 rb64_0 (rtTm c nl) .ready), s2.nx, by simp only [hdt]; exact hy, hq1, fun p h1 h2 => by rw [une (fun e => by subst e; simp at h1)]; exact hq3 p h1 h2, ?_⟩
  simp only [hdt, if_true]
  exact ⟨upd_same _ _ _, by rw [une (by simp)]; exact hq2⟩
 ·obtain ⟨s2, hy, hq1, hq2, hq3⟩ := yield_offE (t := .d (.agg (Term.mk v fn args).enc)) (nx := nx) hI.1 ⟨rfl, rfl⟩ (fun s2 => nx ≤ s2.nx ∧ s2.hp (0, 0) = some (.cells [.d (.int .i64 z)]) ∧ ∀ p : Oid, 6 < p.1 → p.1 < nx → s2.hp p = H p)
   (s1 := ⟨[.d (.sl (encC c) c.length false nl), .junk, .ptr (0, 0) 0 1, .ptr (nx, 0) 0 3, .junk, .d (.sl (encC c) c.length false nl), .d (.int .i64 c.length), .d (.bool false), .d (.sl (encC c) c.length false nl), .d (.fn 107 [.dptr [.sl (encC c) c.length false nl]]), .d (.agg (Term.mk v fn args).enc), .junk, .junk, .junk, .junk, .junk, .junk, .junk, .junk], upd (upd H (nx, 3) .vnil) (nx, 0) (tO v fn args), nx + 2⟩)
   (by simp [ra64_0, rtTm, Term.enc]) (by simp only [g2]; exact hI.1) (by
    simp [rb64_0, plc_raw, g0, g1, g2, g3, g4, hI.2, hcall, Term.enc, h0]
    refine ⟨by omega, fun a b h5 hlt => ?_⟩
    rw [une (fun e => by cases e; omega), une (fun e => by cases e; omega), uold hlt, uold hlt])
  have hdt : decide (z = 0) = false := by simp [h0]
  refine ⟨upd s2.hp (6, 0) (.rc [10] ra64_0 rb64_0 (rtTm c nl) (.left .ret)), s2.nx, by simp only [hdt]; exact hy, hq1, fun p h1 h2 => by rw [une (fun e => by subst e; simp at h1)]; exact hq3 p h1 h2, ?_⟩
  simp only [hdt, Bool.false_eq_true, if_false]
  exact ⟨upd_same _ _ _, by rw [une (by simp)]; exact hq2⟩
theorem runT_rt : ∀ (c : List Lt), runT (fun (_ : Int) (t : Term) => decide (t.rightE = 0)) (fun _ t => t.rightE) 0 (sideL c) = (firstE c, decide (firstE c = 0))
 | [] => rfl
 | x :: r => by
  have ih := runT_rt r
  have e : sideL (x :: r) = x.l :: x.r :: sideL r := rfl
  rw [e]
  simp only [runT, firstE]
  by_cases h1 : x.l.rightE = 0
  ·by_cases h2 : x.r.rightE = 0
   ·simp only [h1, h2, decide_true, if_true, ne_eq, not_true_eq_false, if_false]; exact ih
   ·simp [h1, h2]
  ·simp [h1]
theorem lright_ok {c : List Lt} (hc : okC c) (nl : Option Bool) : pcl Cp 64 [.sl (encC c) c.length false nl] = some (.int .i64 (clE c)) := by
 have h := lsides_ok c nl
 have hz := lsize_ok hc nl
 unfold clE
 by_cases h60 : c.length > 60
 ·have h60' : (60 : Int) < (c.length : Int) := by omega
  rw [if_pos h60]
  refine pcl_body code64 ?_
  simp [h60']
 ·have h60' : ¬ (60 : Int) < (c.length : Int) := by omega
  rw [if_neg h60]
  obtain ⟨H0, hH0⟩ : ∃ H0 : Hp, H0 = upd (upd (fun _ => none) (0, 0) (.cells [.d (.int .i64 0)])) (6, 0) (.rc [10] ra64_0 rb64_0 (rtTm c nl) .ready) := ⟨_, rfl⟩
  obtain ⟨v, H', nx', hrun, hnx, hR⟩ := sides1_ok (rt_yields c nl) hc false nl (nx := 7) (by decide) 0 (H0 := H0) ⟨by rw [hH0]; simp, by rw [hH0]; simp⟩
  rw [runT_rt] at hR
  have hd : ∀ p, p ≠ (6, 0) → dropO H' (6, 0) p = H' p := fun p hp => by simp [dropO, hp]
  refine pcl_body code64 ?_
  generalize firstE c = f at *
  generalize csizeW 0 c = z at *
  simp [rtTm] at hH0
  by_cases hf : f = 0
  ·simp only [hf, decide_true, if_true] at hR
   obtain ⟨hR1, hR2⟩ := hR
   by_cases h4 : 4000 < z <;> simp [plc_raw, h60', h, ← hH0, hrun, afterK_ready hR1, hd, hR2, hf, hz, h4]
  ·simp only [decide_eq_false hf, Bool.false_eq_true, if_false] at hR
   obtain ⟨hR1, hR2⟩ := hR
   simp [plc_raw, h60', h, ← hH0, hrun, afterK_left hR1, hd, hR2, hf]
end Go.Proofs.Ytajilkmepjhkdaa.Am

/-
 Rows of things copied, and taken away from. No condition.
-/
namespace Go.Proofs.Ytajilkmepjhkdaa.Am
open Go Go.Proofs
set_option maxHeartbeats 4000000
set_option maxRecDepth 20000
set_option linter.unusedSimpArgs false
set_option linter.unusedVariables false
theorem takeT : ∀ (l : List Term) (n : Nat), (encL l).take (n * 3) = encL (l.take n)
 | [], n => by simp [encL]
 | x :: r, 0 => by simp [encL]
 | x :: r, n + 1 => by
  have := x.enc_len
  simp only [encL, List.take_succ_cons]
  rw [List.take_append, List.take_of_length_le (by omega), show (n + 1) * 3 - x.enc.length = n * 3 by omega, takeT r n]
theorem dropT : ∀ (l : List Term) (n : Nat), (encL l).drop (n * 3) = encL (l.drop n)
 | [], n => by simp [encL]
 | x :: r, 0 => by simp
 | x :: r, n + 1 => by
  have := x.enc_len
  simp only [encL, List.drop_succ_cons]
  rw [List.drop_append, List.drop_eq_nil_of_le (by omega), List.nil_append, show (n + 1) * 3 - x.enc.length = n * 3 by omega, dropT r n]
inductive RowT (H : Hp) : AV → List Term → Oid → Prop
 | vn (o : Oid) (h : H o = some .vnil) : RowT H (.osl o 0 0 1 0) [] o
 | row (o : Oid) (l : List Term) (cs : List D) (h : H o = some (.grow (cs.map .d))) (hv : l.length * 3 ≤ cs.length) (ht : cs.take (l.length * 3) = encL l) (hb : cs.length ≤ 68719476736) : RowT H (.osl o 0 l.length 3 cs.length) l o
theorem RowT.keep {H H' : Hp} {v : AV} {l : List Term} {o : Oid} (h : RowT H v l o) (k : H' o = H o) : RowT H' v l o := by
 cases h with
 | vn o h => exact .vn o (k.trans h)
 | row o l cs h hv ht hb => exact .row o l cs (k.trans h) hv ht hb
theorem cloT_ok (H : Hp) (nx : Nat) (fl b : Bool) (l : List Term) (hl : l.length ≤ 1048576) (hb : b = true → l = []) : ∃ v H' nx' o, acall Try.prog plc 91 [.d (.sl (encL l) l.length fl (some b))] H nx = some (v, H', nx') ∧ RowT H' v l o ∧ nx ≤ nx' ∧ nx ≤ o.1 ∧ o.1 < nx' ∧ ∀ p : Oid, p.1 < nx → H' p = H p := by
 cases b with
 | true =>
  rw [hb rfl]
  refine ⟨.osl (nx + 3, 1) 0 0 1 0, upd (upd H (nx, 1) .vnil) (nx + 3, 1) .vnil, nx + 4, (nx + 3, 1), acall_body code91 ?_, .vn _ (upd_same _ _ _), by omega, by simp only; omega, by simp only; omega, fun p hp => by rw [uold (by omega), uold hp]⟩
  simp [encL]
 | false =>
  have hs : ∀ H' : Hp, srcCells Try.prog H' 3 28 (.d (.sl (encL l) l.length fl (some false))) = some (encL l, l.length, []) := fun H' => by simp [srcCells, srcRaw, encL_len]
  have i10 : (encL l).length = l.length * 3 := encL_len l
  have i11 : ¬ 68719476736 < l.length * 3 := by omega
  have hrow := RowT.row (H := upd (upd H (nx, 1) .vnil) (nx + 3, 0) (.grow ((encL l).map .d))) (nx + 3, 0) l (encL l) (upd_same _ _ _) (by omega) (List.take_of_length_le (by omega)) (by omega)
  rw [i10] at hrow
  refine ⟨_, _, nx + 7, (nx + 3, 0), acall_body code91 ?_, hrow, by omega, by simp only; omega, by simp only; omega, fun p hp => by rw [uold (by omega), uold hp]⟩
  by_cases hr : l = []
  ·subst hr
   simp [encL] at hs
   simp [Nat.add_assoc, appendO, growO, hs, encL]
  ·have i12 : ¬ l.length = 0 := fun e => hr (List.length_eq_zero_iff.1 e)
   have i13 : ¬ encL l = [] := fun e => by rw [e] at i10; simp at i10; omega
   simp [Nat.add_assoc, appendO, growO, hs, i10, i11, i12, i13, hr]
theorem delT_ok {H : Hp} {o : Oid} {a b : List Term} {q : Term} {cs : List D} (hc : H o = some (.grow (cs.map .d))) (hv : (a ++ q :: b).length * 3 ≤ cs.length) (ht : cs.take ((a ++ q :: b).length * 3) = encL (a ++ q :: b)) (hb : cs.length ≤ 68719476736) (nx : Nat) (ho : o.1 < nx) (n : Nat) (hn : n = a.length + b.length) :
  ∃ (cs' : List D) (H' : Hp) (nx' : Nat), acall Try.prog plc 94 [.osl o 0 (n + 1) 3 cs.length, .d (.int .i64 a.length), .d (.int .i64 (a.length + 1))] H nx = some (.osl o 0 n 3 cs.length, H', nx') ∧ nx ≤ nx' ∧ H' o = some (.grow (cs'.map .d)) ∧ (∀ p : Oid, p.1 < nx → p ≠ o → H' p = H p) ∧ cs'.length = cs.length ∧ cs'.take ((a ++ b).length * 3) = encL (a ++ b) := by
 have hL : (a ++ q :: b).length = a.length + b.length + 1 := by simp; omega
 rw [hL] at hv ht
 obtain ⟨cs1, hcs1⟩ : ∃ cs1, cs1 = cs.take (a.length * 3) ++ (encL b ++ cs.drop (a.length * 3 + b.length * 3)) := ⟨_, rfl⟩
 have hl1 : cs1.length = cs.length := by rw [hcs1]; simp [encL_len]; omega
 obtain ⟨cs2, hcs2⟩ : ∃ cs2, cs2 = cs1.take (n * 3) ++ ([D.int .i64 0, .str (ByteArray.mk #[]), .sl [] 0 true (some true)] ++ cs1.drop (n * 3 + 3)) := ⟨_, rfl⟩
 have hl2 : cs2.length = cs.length := by rw [hcs2]; simp [hl1]; omega
 have hta : cs.take (a.length * 3) = encL a := by
  have := congrArg (List.take (a.length * 3)) ht
  rw [List.take_take, Nat.min_eq_left (by omega), takeT] at this
  simpa using this
 have htb : (cs.drop ((a.length + 1) * 3)).take (b.length * 3) = encL b := by
  have := congrArg (List.drop ((a.length + 1) * 3)) ht
  rw [List.drop_take, dropT] at this
  rw [show (a.length + b.length + 1) * 3 - (a.length + 1) * 3 = b.length * 3 by omega] at this
  rw [this]; simp
 have hsrc : ∀ H' : Hp, H' o = some (.grow (cs.map .d)) → srcCells Try.prog H' 3 28 (.osl o ((a.length + 1) * 3) b.length 3 cs.length) = some (encL b, b.length, []) := fun H' hc => by
  have hall : allD (((cs.map AV.d).drop ((a.length + 1) * 3)).take (b.length * 3)) = some (encL b) := by
   rw [← List.map_drop, ← List.map_take, htb]; exact allD_mapD _
  have h5 : (a.length + 1) * 3 + b.length * 3 ≤ cs.length := by omega
  simp [srcCells, srcRaw, hc, hall, h5, -allD]
 have happ : ∀ (H' : Hp) (id : Nat), H' o = some (.grow (cs.map .d)) → appendO Try.prog H' id 28 28 (.osl o 0 a.length 3 cs.length) (.osl o ((a.length + 1) * 3) b.length 3 cs.length) = some (.osl o 0 n 3 cs.length, upd H' o (.grow (cs1.map .d))) := fun H' id hc => by
  have hs := hsrc H' hc
  have i7 : a.length * 3 ≤ cs.length := by omega
  have i8 : a.length * 3 + b.length * 3 ≤ cs.length := by omega
  have i10 : (encL b).length = b.length * 3 := encL_len b
  have i11 : ¬ 68719476736 < b.length * 3 := by omega
  by_cases hbn : b = []
  ·have e1 : cs1 = cs := by rw [hcs1, hbn]; simp [encL]
   have e2 : upd H' o (.grow (cs.map .d)) = H' := by
    funext p; simp only [upd]; split
    ·rename_i h; rw [h, hc]
    ·rfl
   have e3 : n = a.length := by rw [hn, hbn]; simp
   rw [e1, e2, e3]
   rw [hbn] at hs
   simp only [List.length_nil, encL] at hs
   simp [appendO, hs, hc, i7, hb, hbn]
  ·rw [hcs1, hn]
   simp [appendO, growO, hs, hc, i7, i8, hb, i10, i11, hbn]
 have f0 : ∀ j x, upd H (nx, j) x o = H o := fun j x => uold ho _ _ _
 have f1 : ∀ k j x H', upd H' (nx + k, j) x o = H' o := fun k j x H' => uold (by omega) _ _ _
 refine ⟨cs2, upd (upd H (nx, 1) .vnil) o (.grow (cs2.map .d)), nx + 29, acall_body code94 ?_, by omega, upd_same _ _ _, fun p hp hq => by rw [une hq, uold hp], hl2, ?_⟩
 ·have i1 : ¬ ((a.length : Int) = (a.length : Int) + 1) := by omega
  have i2 : (0 : Int) ≤ (a.length : Int) + 1 := by omega
  have i3 : (0 : Int) ≤ (n : Int) + 1 := by omega
  have i5 : a.length ≤ n := by omega
  have i6 : ¬ a.length = n + 1 := by omega
  have i7 : a.length * 3 ≤ cs.length := by omega
  have i8 : n - a.length = b.length := by omega
  have i9 : (n + 1) * 3 ≤ cs.length := by omega
  have i10 : n * 3 + 3 ≤ cs.length := by omega
  rw [hcs2]
  simp [plc_raw, Nat.add_assoc, hc, f0, f1, i1, i2, i3, i5, i6, i7, i8, i9, i10, happ, hl1]
 ·have e1 : (encL (a ++ b)).length = n * 3 := by rw [encL_len]; simp [hn]
  have e2 : (a ++ b).length * 3 = n * 3 := by simp [hn]
  rw [hcs2, e2, List.take_append_of_le_length (by simp [hl1]; omega), List.take_take, Nat.min_self, hcs1, hta, ← List.append_assoc, ← encL_append, List.take_append_of_le_length (by omega), List.take_of_length_le (by omega)]
theorem splitT {l : List Term} {p : Term → Bool} {i : Nat} (h : l.findIdx? p = some i) : ∃ a q b, l = a ++ q :: b ∧ a.length = i ∧ l.eraseIdx i = a ++ b := by
 have hi : i < l.length := (List.findIdx?_eq_some_iff_findIdx_eq.1 h).1
 refine ⟨l.take i, l[i], l.drop (i + 1), ?_, by simp; omega, ?_⟩
 ·rw [← List.drop_eq_getElem_cons hi, List.take_append_drop]
 ·rw [List.eraseIdx_eq_take_drop_succ]
theorem rest1T_ok {x y : Term} {b : Bool} (h : pcl Cp 31 [.agg x.enc, .agg y.enc] = some (.bool b)) : pcl Cp 93 [.agg y.enc, .dptr [.fn 31 []], .dptr x.enc] = some (.bool b) := by
 refine pcl_body code93 ?_
 obtain ⟨v, fn, args⟩ := x
 obtain ⟨w, fm, brgs⟩ := y
 simp [Term.enc] at h
 simp [Term.enc, plc_raw, h]
end Go.Proofs.Ytajilkmepjhkdaa.Am

/-
 What is left of a row behind taking away another one. No condition.
-/
namespace Go.Proofs.Ytajilkmepjhkdaa.Am
open Go Go.Proofs
set_option maxHeartbeats 4000000
set_option maxRecDepth 20000
set_option linter.unusedSimpArgs false
set_option linter.unusedVariables false
def gOT (l : List Term) : Am.Obj := if l = [] then .vnil else .grow ((encL l).map .d)
def gVT (o : Oid) (l : List Term) : AV := if l = [] then .osl o 0 0 1 0 else .osl o 0 l.length 3 (l.length * 3)
theorem gVT_app (o : Oid) (l : List Term) (x : Term) : gVT o (l ++ [x]) = .osl o 0 (l.length + 1) 3 ((l.length + 1) * 3) := by simp [gVT]
theorem append_gT {H : Hp} {id : Nat} {o o2 : Oid} {l : List Term} {x : Term} (h : H o = some (gOT l)) (h2 : H o2 = some (.cells (x.enc.map .d))) (hl : l.length ≤ 1048576) :
  appendO Try.prog H id 28 28 (gVT o l) (.osl o2 0 1 3 3) = some (gVT o (l ++ [x]), upd H o (gOT (l ++ [x]))) := by
 have hx := x.enc_len
 have e1 : encL [x] = x.enc := by simp [encL]
 cases l with
 | nil =>
  simp only [gOT, if_true] at h
  have hs : srcCells Try.prog H 3 28 (.osl o2 0 1 3 3) = some (x.enc, 1, []) := by
   have h3 : List.take 3 (x.enc.map AV.d) = x.enc.map AV.d := List.take_of_length_le (by simp [hx])
   simp [srcCells, srcRaw, h2, hx, h3, allD_mapD, -allD]
  simp [appendO, hs, h, gVT, gOT, growO, e1, hx]
 | cons y r =>
  simp [gOT] at h
  have hs : srcCells Try.prog H 3 28 (.osl o2 0 1 3 3) = some (x.enc, 1, []) := by
   have h3 : List.take 3 (x.enc.map AV.d) = x.enc.map AV.d := List.take_of_length_le (by simp [hx])
   simp [srcCells, srcRaw, h2, hx, h3, allD_mapD, -allD]
  have hel2 : (encL (y :: r)).length = (r.length + 1) * 3 := by simpa using encL_len (y :: r)
  have hle : ¬ ((r.length + 1) * 3 + 3 ≤ (r.length + 1) * 3) := by omega
  simp only [List.length_cons] at hl
  have h4 : (r.length + 1) * 3 ≤ 68719476736 := by omega
  have h5 : encL (y :: (r ++ [x])) = encL (y :: r) ++ x.enc := by rw [show y :: (r ++ [x]) = (y :: r) ++ [x] from rfl, encL_append, e1]
  have i5 : ¬ (r.length + 2) * 3 ≤ (r.length + 1) * 3 := by omega
  have i4 : (r.length + 1) * 3 + 3 = (r.length + 2) * 3 := by omega
  have h6 : List.take ((r.length + 1) * 3) ((encL (y :: r)).map AV.d) = (encL (y :: r)).map AV.d := List.take_of_length_le (by simp [hel2])
  generalize encL (y :: r) = EE at *
  simp [appendO, hs, h, gVT, gOT, growO, hel2, hle, h4, h5, hx, i4, i5, h6]
theorem reify_rowT {H : Hp} {v : AV} {l : List Term} {o : Oid} (h : RowT H v l o) : ∃ nl is, ∀ n, reify H (n + 1) v = some (.sl (encL l) l.length false nl, is) := by
 cases h with
 | vn o h => exact ⟨_, _, fun n => by simp [reify, h, Am.Obj.isRow, Am.Obj.cs, mapD, encL, nlOf]; exact ⟨rfl, rfl⟩⟩
 | row o l cs h hv ht hb =>
  have : List.take (l.length * 3) (cs.map AV.d) = (encL l).map .d := by rw [← List.map_take, ht]
  exact ⟨_, _, fun n => by simp [reify, h, Am.Obj.isRow, Am.Obj.cs, hv, this, mapD_encT, nlOf]; exact ⟨rfl, rfl⟩⟩
end Go.Proofs.Ytajilkmepjhkdaa.Am

/-
 What is left of a row behind taking away another one. No condition.
-/
namespace Go.Proofs.Ytajilkmepjhkdaa.Am
open Go Go.Proofs
set_option maxHeartbeats 4000000
set_option maxRecDepth 20000
set_option linter.unusedSimpArgs false
set_option linter.unusedVariables false
theorem delRowT_ok {H : Hp} {v : AV} {a b : List Term} {q : Term} {o : Oid} (h : RowT H v (a ++ q :: b) o) (nx : Nat) (ho : o.1 < nx) :
  ∃ (n ver : Nat) (H' : Hp) (nx' : Nat), acall Try.prog plc 94 [v, .d (.int .i64 a.length), .d (.int .i64 (a.length + 1))] H nx = some (.osl o 0 n 3 ver, H', nx') ∧ nx ≤ nx' ∧ RowT H' (.osl o 0 n 3 ver) (a ++ b) o ∧ ∀ p : Oid, p.1 < nx → p ≠ o → H' p = H p := by
 generalize hmq : a ++ q :: b = mq at h
 cases h with
 | vn o h => simp at hmq
 | row o _ cs hc hv ht hb =>
  subst hmq
  have hlen1 : (a ++ q :: b).length = a.length + b.length + 1 := by simp; omega
  obtain ⟨cs', H1, N1, hdel, hN1, hc1, hk1, hcl, htk⟩ := delT_ok hc hv ht hb nx ho (a.length + b.length) rfl
  have hrow' := RowT.row (H := H1) o (a ++ b) cs' hc1 (by rw [hcl]; simp only [List.length_append, List.length_cons] at hv ⊢; omega) htk (by omega)
  rw [hcl, show (a ++ b).length = a.length + b.length by simp] at hrow'
  rw [hlen1]
  exact ⟨_, _, H1, N1, hdel, hN1, hrow', hk1⟩
structure RsT where
 i : Nat
 out : List Term
 m : List Term
 mv : AV
 H : Hp
abbrev restTmT (l : List Term) (f1 : Bool) (n1 : Option Bool) (mv out : AV) (i : Nat) : List AV := [.junk, mv, .junk, .junk, .junk, .ptr (0, 0) 0 1, .osl (1, 1) 0 0 1 0, out, .junk, .junk, .junk, .junk, .junk, .d (.sl (encL l) l.length f1 n1), .d (.int .i64 l.length), .d (.int .i64 i), .junk, .junk, .junk, .junk, .junk, .junk, .junk, .junk, .junk, .junk, .junk, .junk, .junk, .junk, .junk, .junk, .junk, .junk, .junk]
structure RsIT (l : List Term) (om oo : Oid) (s : RsT) : Prop where
 il : s.i ≤ l.length
 row : RowT s.H s.mv s.m om
 out : s.H oo = some (gOT s.out)
 ol : s.out.length ≤ s.i
 sm : s.H (0, 0) = some (.cells [.d (.fn 31 [])])
 mm : ∀ x ∈ s.m, x.ok
 ml : s.m.length ≤ 1048576
def RsET (N : Nat) (l : List Term) (f1 : Bool) (n1 : Option Bool) (oo : Oid) (r : List Term) (e : Ex) (st : St) : Prop :=
 N ≤ st.nx ∧ e = .exit 0 ∧ st.hp oo = some (gOT r) ∧ ∃ mv, st.tm = restTmT l f1 n1 mv (gVT oo r) l.length
theorem restT_loop (same : Term → Term → Bool) (hsame : ∀ x y : Term, x.ok → y.ok → pcl Cp 31 [.agg x.enc, .agg y.enc] = some (.bool (same x y))) (l : List Term) (hll : l.length ≤ 1048576) (hlo : ∀ x ∈ l, x.ok) (f1 : Bool) (n1 : Option Bool) {om oo : Oid} {N : Nat} (h1 : 0 < om.1) (h2 : om.1 < oo.1) (h3 : oo.1 < N) (s0 : RsT) (hI0 : RsIT l om oo s0) :
  ∃ e st, aloop Try.prog plc b56_0 ⟨[false, true, false, false, false, true, true, true, false, false, false, false, false, true, true, true, false, false, false, false, false, false, false, false, false, false, false, false, false, false, false, false, false, false, true], some N⟩ ⟨restTmT l f1 n1 s0.mv (gVT oo s0.out) s0.i, s0.H, N⟩ = some (e, st) ∧ RsET N l f1 n1 oo (s0.out ++ restF same (l.drop s0.i) s0.m) e st :=
 loop_rule (P := Try.prog) (pol := plc) (c := b56_0) (m := ⟨[false, true, false, false, false, true, true, true, false, false, false, false, false, true, true, true, false, false, false, false, false, false, false, false, false, false, false, false, false, false, false, false, false, false, true], some N⟩)
  (b := N) (tm := fun (s : RsT) => restTmT l f1 n1 s.mv (gVT oo s.out) s.i) (Hf := fun s => s.H)
  (I := RsIT l om oo) (μ := fun s => l.length - s.i) (res := fun s => s.out ++ restF same (l.drop s.i) s.m) (R := RsET N l f1 n1 oo)
  (fun s nx1 hI => by
   have hrow := hI.row
   have hout := hI.out
   have hsm := hI.sm
   have hn : l.length ≤ 9223372036854775807 := by omega
   rcases Nat.lt_or_ge s.i l.length with hl | hl
   ·obtain ⟨v, fn, args, a⟩ := at_ok hn hl
    have hx := hlo _ a.mem
    have hget : l[s.i] = .mk v fn args := a.get
    obtain ⟨Hb, hHb⟩ : ∃ Hb : Hp, Hb = upd (upd s.H (nx1 + (N + 3), 3) .vnil) (nx1 + (N + 3), 0) (.cells [.d (.int .i64 v), .d (.str fn), .d (.sl (encL args) args.length false none)]) := ⟨_, rfl⟩
    have hbk : ∀ p : Oid, p.1 < N → Hb p = s.H p := fun p hp => by rw [hHb]; simp only [uold (show p.1 < nx1 + (N + 3) by omega)]
    have hbs : Hb (nx1 + (N + 3), 0) = some (.cells [.d (.int .i64 v), .d (.str fn), .d (.sl (encL args) args.length false none)]) := by rw [hHb]; exact upd_same _ _ _
    have hb0 : Hb (0, 0) = some (.cells [.d (.fn 31 [])]) := (hbk _ (by simp only; omega)).trans hsm
    have hrb : RowT Hb s.mv s.m om := hrow.keep (hbk _ (by omega))
    have hbo : Hb oo = some (gOT s.out) := (hbk _ h3).trans hout
    obtain ⟨nl, is, hre⟩ := reify_rowT hrb
    have hre6 := hre 5
    simp only [Nat.reduceAdd] at hre6
    have hidx := idxT_ok (g := 93) (caps := [.dptr [.fn 31 []], .dptr (Term.mk v fn args).enc]) (fl := false) (nl := nl) (p := same (.mk v fn args)) (ts := s.m) (by have := hI.ml; omega) ⟨rfl, rfl, by decide⟩ (fun y hy => rest1T_ok (hsame _ _ hx (hI.mm y hy)))
    simp [Term.enc] at hidx
    have hol := hI.ol
    have hdr := a.dr
    have hfr : restF same (l.drop s.i) s.m = (match s.m.findIdx? (same (.mk v fn args)) with | none => .mk v fn args :: restF same (l.drop (s.i + 1)) s.m | some k => restF same (l.drop (s.i + 1)) (s.m.eraseIdx k)) := by rw [hdr]; rfl
    cases hq : s.m.findIdx? (same (.mk v fn args)) with
    | none =>
     rw [hq] at hidx hfr
     simp only at hidx hfr
     have happ := append_gT (H := upd Hb (nx1 + (N + 13), 0) (.cells [.d (.int .i64 v), .d (.str fn), .d (.sl (encL args) args.length false none)])) (id := nx1 + (N + 14)) (o := oo) (o2 := (nx1 + (N + 13), 0)) (l := s.out) (x := .mk v fn args) (by rw [uold (by omega)]; exact hbo) (by rw [upd_same]; simp [Term.enc]) (by omega)
     rw [gVT_app] at happ
     conv => arg 9; arg 4; unfold b56_0
     simp [a.lti, a.sz, a.ltm, a.cells, a.le3, a.w, plc_raw, Nat.add_assoc, ← hHb, hb0, hbs, hre6, hidx, happ]
     refine .next (RsT.mk (s.i + 1) (s.out ++ [.mk v fn args]) s.m s.mv (below N (upd (upd Hb (nx1 + (N + 13), 0) (.cells [.d (.int .i64 v), .d (.str fn), .d (.sl (encL args) args.length false none)])) oo (gOT (s.out ++ [.mk v fn args]))))) (by omega) (by simp [gVT_app]) rfl ⟨hl, ?_, ?_, by simp; omega, ?_, hI.mm, hI.ml⟩ (by simp only; omega) ?_
     ·exact hrb.keep (by simp only; rw [blt (by omega), une (fun e => by rw [e] at h2; omega), uold (by omega)])
     ·simp only; rw [blt h3, upd_same]
     ·simp only; rw [blt (by simp only; omega), une (fun e => by rw [← e] at h2; simp at h2), uold (by simp only; omega)]; exact hb0
     ·simp only; rw [hfr]; simp
    | some k =>
     rw [hq] at hidx hfr
     simp only at hidx hfr
     obtain ⟨aa, q, bb, e1, e2, e3⟩ := splitT hq
     have hml := hI.ml
     have hmm := hI.mm
     rw [e3] at hfr
     rw [e1] at hml hmm
     have hk0 : ¬ ((k : Int) < 0) := by omega
     have hkw : IntKind.i64.wrap ((k : Int) + 1) = (k : Int) + 1 := wrap_i64 (by simp at hml; omega) (by simp at hml; omega)
     rw [e1] at hrb
     obtain ⟨n', ver', H1, N1, hdel, hN1, hrow', hk1⟩ := delRowT_ok hrb (nx1 + (N + 17)) (by omega)
     rw [e2] at hdel
     conv => arg 9; arg 4; unfold b56_0
     simp [a.lti, a.sz, a.ltm, a.cells, a.le3, a.w, plc_raw, Nat.add_assoc, ← hHb, hb0, hbs, hre6, hidx, hk0, hkw, hdel]
     refine .next (RsT.mk (s.i + 1) s.out (aa ++ bb) (.osl om 0 n' 3 ver') (below N H1)) (by omega) (by simp) rfl ⟨hl, ?_, ?_, by simp only; omega, ?_, fun x hx => hmm x (by simp only [List.mem_append, List.mem_cons] at hx ⊢; rcases hx with h | h; exact .inl h; exact .inr (.inr h)), by simp at hml ⊢; omega⟩ (by simp only; omega) ?_
     ·exact hrow'.keep (by simp only; rw [blt (by omega)])
     ·simp only; rw [blt h3, hk1 _ (by omega) (fun e => by rw [e] at h2; omega)]; exact hbo
     ·simp only; rw [blt (by simp only; omega), hk1 _ (by simp only; omega) (fun e => by rw [← e] at h1; simp at h1)]; exact hb0
     ·simp only; rw [hfr]
   ·have hie : s.i = l.length := Nat.le_antisymm hI.il hl
    simp [b56_0, hie]
    refine .fin _ _ ⟨by simp only; omega, rfl, ?_, s.mv, ?_⟩
    ·simp only [hie, List.drop_length, restF, List.append_nil]; rw [blt h3]; exact hout
    ·simp only [hie, List.drop_length, restF, List.append_nil]) s0 hI0
end Go.Proofs.Ytajilkmepjhkdaa.Am

/-
 What is left of a row behind taking away another one: the whole function. No condition.
-/
namespace Go.Proofs.Ytajilkmepjhkdaa.Am
open Go Go.Proofs
set_option maxHeartbeats 4000000
set_option maxRecDepth 20000
set_option linter.unusedSimpArgs false
set_option linter.unusedVariables false
theorem restT_ok {same : Term → Term → Bool} (hsame : ∀ x y : Term, x.ok → y.ok → pcl Cp 31 [.agg x.enc, .agg y.enc] = some (.bool (same x y))) {l m : List Term} (hll : l.length ≤ 1048576) (hml : m.length ≤ 1048576) (hlo : ∀ x ∈ l, x.ok) (hmo : ∀ x ∈ m, x.ok) (f1 f2 b : Bool) (n1 : Option Bool) (hb : b = true → m = []) :
  ∃ nl : Bool, pcl Cp 56 [.sl (encL l) l.length f1 n1, .sl (encL m) m.length f2 (some b), .fn 31 []] = some (.sl (encL (restF same l m)) (restF same l m).length false (some nl)) ∧ (nl = true → restF same l m = []) := by
 obtain ⟨H0, hH0⟩ : ∃ H0 : Hp, H0 = upd (upd (fun _ => none) (0, 0) (.cells [.d (.fn 31 [])])) (1, 1) .vnil := ⟨_, rfl⟩
 obtain ⟨v, H1, N1, om, hclo, hrow, hN, ho1, ho2, hk⟩ := cloT_ok H0 5 f2 b m hml hb
 have hnv : isNil v = false := by cases hrow <;> rfl
 have h00 : H1 (0, 0) = some (.cells [.d (.fn 31 [])]) := by rw [hk _ (by decide), hH0]; simp [upd]
 obtain ⟨e, st, hrun, hN2, rfl, hout, mv', htm⟩ := restT_loop same hsame l hll hlo f1 n1 (om := om) (oo := (N1, 1)) (N := N1 + 4) (by omega) (by simp only; omega) (by simp only; omega) ⟨0, [], m, v, upd H1 (N1, 1) .vnil⟩
  ⟨Nat.zero_le _, hrow.keep (uold ho2 _ _ _), by simp [gOT], Nat.le_refl _, (uold (by simp only; omega) _ _ _).trans h00, hmo, hml⟩
 obtain ⟨tm, Hs, ns⟩ := st
 simp only [List.nil_append, List.drop_zero] at htm hout hrun
 subst htm
 refine ⟨decide (restF same l m = []), pcl_body code56 ?_, fun h => by simpa using h⟩
 have hrl := encL_len (restF same l m)
 have hfin : restF same l m ≠ [] → mapD (reify Hs 5) (List.take ((restF same l m).length * 3) ((encL (restF same l m)).map AV.d)) = some (encL (restF same l m), []) := fun _ => by
  rw [List.take_of_length_le (by simp [hrl])]; exact mapD_encT _ _ _
 generalize restF same l m = rr at *
 have hz : ¬ rr = [] → ¬ rr.length = 0 := fun h e => h (List.length_eq_zero_iff.1 e)
 cases hrow with
 | vn o h =>
  simp only [List.length_nil, encL] at hclo
  by_cases hr : rr = []
  ·subst hr
   simp [restTmT, gVT, gOT] at hrun hout
   simp [plc_raw, ← hH0, hclo, hrun, hout, encL]
  ·have hfin := hfin hr
   have hz := hz hr
   simp [restTmT, gVT, gOT, hr] at hrun hout
   simp [plc_raw, ← hH0, hclo, hrun, hout, hr, hrl, hfin, encL]
 | row o _ cs h hv ht hb2 =>
  by_cases hr : rr = []
  ·subst hr
   simp [restTmT, gVT, gOT] at hrun hout
   simp [plc_raw, ← hH0, hclo, hrun, hout, encL]
  ·have hfin := hfin hr
   have hz := hz hr
   simp [restTmT, gVT, gOT, hr] at hrun hout
   simp [plc_raw, ← hH0, hclo, hrun, hout, hr, hrl, hfin, encL]
end Go.Proofs.Ytajilkmepjhkdaa.Am

/-
 The program's extension of an order to multisets. No condition.
-/
namespace Go.Proofs.Ytajilkmepjhkdaa.Am
open Go Go.Proofs
set_option maxHeartbeats 4000000
set_option maxRecDepth 20000
set_option linter.unusedSimpArgs false
set_option linter.unusedVariables false
theorem ext111T_ok {os : List D} (hos : wkL os = os) {s t : Term} {k : Int} (h : pcl Cp 10 [.agg os, .agg s.enc, .agg t.enc] = some (.int .i64 k)) : pcl Cp 60 [.agg s.enc, .dptr [.fn (10 + 1000000001) [.agg os]], .dptr t.enc] = some (.bool (decide (k = 1))) := by
 refine pcl_body code60 ?_
 obtain ⟨v, fn, args⟩ := s
 obtain ⟨w, fm, brgs⟩ := t
 simp [Term.enc] at h
 simp [Term.enc, plc_raw, h, hos]
theorem ext11T_ok {os : List D} (hos : wkL os = os) {t : Term} {a : List Term} {tc : Term → Term → Int} (hn : a.length ≤ 1048576) (fl : Bool) (nl : Option Bool) (h : ∀ s ∈ a, pcl Cp 10 [.agg os, .agg s.enc, .agg t.enc] = some (.int .i64 (tc s t))) :
  pcl Cp 59 [.agg t.enc, .dptr [.sl (encL a) a.length fl nl], .dptr [.fn (10 + 1000000001) [.agg os]]] = some (.bool (!a.any fun s => decide (tc s t = 1))) := by
 have hc := conT_ok (g := 60) (caps := [.dptr [.fn (10 + 1000000001) [.agg os]], .dptr t.enc]) (fl := fl) (nl := nl) (p := fun s => decide (tc s t = 1)) (ts := a) (by omega) ⟨rfl, rfl, by decide⟩ (fun s hs => ext111T_ok hos (h s hs))
 refine pcl_body code59 ?_
 generalize (a.any fun s => decide (tc s t = 1)) = r at *
 obtain ⟨v, fn, args⟩ := t
 simp [Term.enc] at hc
 simp [Term.enc, plc_raw, hc]
theorem ext1T_ok {os : List D} (hos : wkL os = os) {a b : List Term} {tc : Term → Term → Int} (hn : a.length ≤ 1048576) (hm : b.length ≤ 1048576) (fl2 : Bool) (nl nl2 : Option Bool) (h : ∀ s ∈ a, ∀ t ∈ b, pcl Cp 10 [.agg os, .agg s.enc, .agg t.enc] = some (.int .i64 (tc s t))) :
  pcl Cp 57 [.sl (encL a) a.length false nl, .sl (encL b) b.length fl2 nl2, .dptr [.fn (10 + 1000000001) [.agg os]]] = some (.bool (coversF (fun s t => decide (tc s t = 1)) a b)) := by
 have hc := conT_ok (g := 59) (caps := [.dptr [.sl (encL a) a.length false nl], .dptr [.fn (10 + 1000000001) [.agg os]]]) (fl := fl2) (nl := nl2) (p := fun t => !a.any fun s => decide (tc s t = 1)) (ts := b) (by omega) ⟨rfl, rfl, by decide⟩ (fun t ht => ext11T_ok hos hn false nl (fun s hs => h s hs t ht))
 have he : coversF (fun s t => decide (tc s t = 1)) a b = (decide (0 < a.length) && !(b.any fun t => !a.any fun s => decide (tc s t = 1))) := by
  unfold coversF
  congr 1
  ·cases a <;> rfl
  ·rw [List.not_any_eq_all_not]; simp
 rw [he]
 refine pcl_body code57 ?_
 generalize (b.any fun t => !a.any fun s => decide (tc s t = 1)) = r at *
 simp at hc
 by_cases ha : 0 < a.length
 ·have ha' : (0 : Int) < (a.length : Int) := by omega
  simp [-isNil, isNil_sl, isNil_int, isNil_bool, isNil_str, isNil_agg, isNil_dptr, isNil_fn, isNil_fna, isNil_osl, isNil_ptr, isNil_agga, plc_raw, ha, ha', hc]
 ·have ha' : ¬ (0 : Int) < (a.length : Int) := by omega
  simp [-isNil, isNil_sl, isNil_int, isNil_bool, isNil_str, isNil_agg, isNil_dptr, isNil_fn, isNil_fna, isNil_osl, isNil_ptr, isNil_agga, plc_raw, ha, ha']
theorem extT_ok {os : List D} (hos : wkL os = os) {same : Term → Term → Bool} (hsame : ∀ x y : Term, x.ok → y.ok → pcl Cp 31 [.agg x.enc, .agg y.enc] = some (.bool (same x y))) {l m : List Term} {tc : Term → Term → Int} (hll : l.length ≤ 1048576) (hml : m.length ≤ 1048576) (hlo : ∀ x ∈ l, x.ok) (hmo : ∀ x ∈ m, x.ok)
  (h1 : ∀ s ∈ l, ∀ t ∈ m, pcl Cp 10 [.agg os, .agg s.enc, .agg t.enc] = some (.int .i64 (tc s t))) (h2 : ∀ s ∈ m, ∀ t ∈ l, pcl Cp 10 [.agg os, .agg s.enc, .agg t.enc] = some (.int .i64 (tc s t))) (f1 f2 b1 b2 : Bool) (hb1 : b1 = true → l = []) (hb2 : b2 = true → m = []) :
  pcl Cp 29 [.sl (encL l) l.length f1 (some b1), .sl (encL m) m.length f2 (some b2), .fn 31 [], .fn (10 + 1000000001) [.agg os]] = some (.int .i64 (extF same (fun s t => decide (tc s t = 1)) l m)) := by
 obtain ⟨nx, hx, _⟩ := restT_ok hsame hll hml hlo hmo f1 f2 b2 (some b1) hb2
 obtain ⟨ny, hy, _⟩ := restT_ok hsame hml hll hmo hlo f2 f1 b1 (some b2) hb1
 have mx := rest_mem (same := same) l m
 have my := rest_mem (same := same) m l
 have lx : (restF same l m).length ≤ 1048576 := Nat.le_trans (rest_len l m) hll
 have ly : (restF same m l).length ≤ 1048576 := Nat.le_trans (rest_len m l) hml
 have c1 := ext1T_ok hos (a := restF same l m) (b := restF same m l) (tc := tc) lx ly false (some nx) (some ny) (fun s hs t ht => h1 s (mx s hs) t (my t ht))
 have c2 := ext1T_ok hos (a := restF same m l) (b := restF same l m) (tc := tc) ly lx false (some ny) (some nx) (fun s hs t ht => h2 s (my s hs) t (mx t ht))
 refine pcl_body code29 ?_
 unfold extF
 generalize restF same l m = x at *
 generalize restF same m l = y at *
 generalize coversF (fun s t => decide (tc s t = 1)) x y = r1 at *
 generalize coversF (fun s t => decide (tc s t = 1)) y x = r2 at *
 have hw : IntKind.i64.wrap ((x.length : Int) + (y.length : Int)) = (x.length : Int) + (y.length : Int) := wrap_i64 (by omega) (by omega)
 simp at c1 c2
 have hw0 : IntKind.i64.wrap 0 = 0 := by decide
 by_cases h0 : x.length + y.length = 0
 ·have h0' : (x.length : Int) + (y.length : Int) = 0 := by omega
  simp [-isNil, isNil_sl, isNil_int, isNil_bool, isNil_str, isNil_agg, isNil_dptr, isNil_fn, isNil_fna, isNil_osl, isNil_ptr, isNil_agga, plc_raw, hx, hy, hw, hw0, h0, h0']
 ·have h0' : ¬ (x.length : Int) + (y.length : Int) = 0 := by omega
  have h00 : x = [] → ¬ y = [] := fun e1 e2 => h0 (by rw [e1, e2]; rfl)
  cases r1
  ·cases r2 <;> simp [hw0, -isNil, isNil_sl, isNil_int, isNil_bool, isNil_str, isNil_agg, isNil_dptr, isNil_fn, isNil_fna, isNil_osl, isNil_ptr, isNil_agga, plc_raw, hx, hy, hw, h0, h0', c1, c2] <;> exact h00
  ·simp [hw0, -isNil, isNil_sl, isNil_int, isNil_bool, isNil_str, isNil_agg, isNil_dptr, isNil_fn, isNil_fna, isNil_osl, isNil_ptr, isNil_agga, plc_raw, hx, hy, hw, h0, h0', c1]; exact h00
end Go.Proofs.Ytajilkmepjhkdaa.Am

/-
 The program's order of terms and of literals. No condition.
-/
namespace Go.Proofs.Ytajilkmepjhkdaa.Am
open Go Go.Proofs
set_option maxHeartbeats 4000000
set_option maxRecDepth 20000
set_option linter.unusedSimpArgs false
set_option linter.unusedVariables false
@[simp] theorem wkL_encO (o : Od) : wkL o.enc = o.enc := by
 obtain ⟨p, g⟩ := o
 simp [Od.enc, Sg.enc]
@[simp] theorem wkL_encT (t : Term) : wkL t.enc = t.enc := by obtain ⟨v, fn, args⟩ := t; simp [Term.enc]
@[simp] theorem wkL_encLt (x : Lt) : wkL x.enc = x.enc := by obtain ⟨n, ⟨v, fn, args⟩, ⟨v2, fn2, args2⟩⟩ := x; simp [Lt.enc, Term.enc]
def Lt.sm (x : Lt) : Prop := x.l.size ≤ 1048576 ∧ x.r.size ≤ 1048576
theorem mTerms_ok (o : Od) (hg : o.g.ok) {s t : Term} (hs : s.ok) (ht : t.ok) (zs : s.size ≤ 1048576) (zt : t.size ≤ 1048576) : pcl Cp 10 [.agg o.enc, .agg s.enc, .agg t.enc] = some (.int .i64 (o.cmp s t)) := by
 have h1 := kCompare_ok o.g hg s hs t ht
 have h2 := lCompare_ok o.g hg s hs zs t ht zt
 rw [o.cmp_small zs zt]
 refine pcl_body code10 ?_
 generalize o.g.kCmp s t = a at *
 generalize o.g.lCmp s t = b at *
 obtain ⟨p, g⟩ := o
 obtain ⟨v, fn, args⟩ := s
 obtain ⟨v2, fn2, args2⟩ := t
 simp [Sg.enc, Term.enc] at h1 h2
 cases p <;> simp [Od.enc, Sg.enc, Term.enc, plc_raw, h1, h2]
theorem rTerms_ok (o : Od) (hg : o.g.ok) {s t : Term} (hs : s.ok) (ht : t.ok) (zs : s.size ≤ 1048576) (zt : t.size ≤ 1048576) : pcl Cp 11 [.agg o.enc, .agg s.enc, .agg t.enc] = some (.int .i64 (o.cmp s t)) := by
 have h1 := rCompare_ok o.g hg s hs zs t ht zt
 have h2 := rlCompare_ok o.g hg s hs zs t ht zt
 rw [← kCmp_rCmp _ _ _ zs zt] at h1
 rw [o.cmp_small zs zt]
 refine pcl_body code11 ?_
 generalize o.g.kCmp s t = a at *
 generalize o.g.lCmp s t = b at *
 obtain ⟨p, g⟩ := o
 obtain ⟨v, fn, args⟩ := s
 obtain ⟨v2, fn2, args2⟩ := t
 simp [Sg.enc, Term.enc] at h1 h2
 cases p <;> simp [Od.enc, Sg.enc, Term.enc, plc_raw, h1, h2]
theorem cnt_sidesP (x : Lt) : cnt id x.sidesP = x.key := by
 funext k
 unfold Lt.key Lt.sides Lt.sidesP
 cases x.neg <;> simp [cnt] <;> omega
theorem litsF_P (gr : Bool) (tc : Term → Term → Int) (a b : Lt) : litsF gr tc a b = if (gr && (a.rightB && b.rightB)) = true then extF Term.sameB (fun s t => decide (tc s t = 1)) a.sidesP b.sidesP else 2 := by
 have hi : (gr = true ∧ a.right ∧ b.right) ↔ (gr && (a.rightB && b.rightB)) = true := by rw [Bool.and_eq_true, Bool.and_eq_true, Lt.rightB_iff, Lt.rightB_iff]
 rw [litsF_M]
 by_cases h : gr = true ∧ a.right ∧ b.right
 ·rw [if_pos h, if_pos (hi.1 h), extF_M (key := id) (gk := fun s t => tc s t = 1) sameB_id (fun x y => by simp) a.sidesP b.sidesP, cnt_sidesP, cnt_sidesP]
 ·rw [if_neg h, if_neg (mt hi.2 h)]
theorem litsF_R (gr : Bool) (tc : Term → Term → Int) (a b : Lt) : litsF gr tc a b = if (gr && (a.rightB && b.rightB)) = true then extF Term.sameB (fun s t => decide (tc s t = 1)) a.sides b.sides else 2 := by
 have hi : (gr = true ∧ a.right ∧ b.right) ↔ (gr && (a.rightB && b.rightB)) = true := by rw [Bool.and_eq_true, Bool.and_eq_true, Lt.rightB_iff, Lt.rightB_iff]
 unfold litsF
 by_cases h : gr = true ∧ a.right ∧ b.right
 ·rw [if_pos h, if_pos (hi.1 h)]
 ·rw [if_neg h, if_neg (mt hi.2 h)]
def lowE (ts : List Term) : Bool := ts.all fun t => decide (t.rightE = 0)
abbrev ltTm (p8 : AV) (ts : List Term) (o : Oid) (i : Nat) : List AV := [.junk, .junk, .junk, .ptr (0, 0) 0 3, .ptr (1, 0) 0 7, .ptr (2, 0) 0 7, .d (.int .i64 0), .junk, .junk, .junk, .junk, .junk, .junk, .junk, .junk, .junk, .junk, .osl o 0 ts.length 3 (ts.length * 3), .d (.int .i64 ts.length), .d (.int .i64 i), .junk, .junk, .junk, .junk, .junk, .junk, .junk, .junk, .junk, .junk, .junk, .junk, .junk, .junk, .junk, .junk, .junk, .junk]
theorem lits_loop (ts : List Term) (hn : ts.length ≤ 1048576) (hto : ∀ x ∈ ts, x.ok) {o : Oid} {N : Nat} (ho : o.1 < N) (H : Hp) (hH : below N H = H) (hHo : H o = some (.cells ((encL ts).map .d))) (p8 : AV) :
  ∃ e t, aloop Try.prog plc b12_0 ⟨[false, false, false, true, true, true, true, false, false, false, false, false, false, false, false, false, false, true, true, true, false, false, false, false, false, false, false, true, true, true, true, true, true, true, true, true, true, true], some N⟩ ⟨ltTm p8 ts o 0, H, N⟩ = some (e, t) ∧ (if lowE ts then AtExit 0 (ltTm p8 ts o ts.length) H e t else AtRet 6 (.d (.int .i64 2)) e t) := by
 refine loop_rule (b := N) (tm := fun (i : Nat) => ltTm p8 ts o i) (Hf := fun _ => H)
  (I := fun i => i ≤ ts.length) (μ := fun i => ts.length - i) (res := fun i => lowE (ts.drop i)) (R := fun b e t => if b then AtExit 0 (ltTm p8 ts o ts.length) H e t else AtRet 6 (.d (.int .i64 2)) e t)
  (fun i nx hi => ?_) 0 (Nat.zero_le _)
 rcases Nat.lt_or_ge i ts.length with hl | hl
 ·obtain ⟨v, fn, args, a⟩ := at_ok (by omega) hl
  have hcall := tright_ok _ (hto _ a.mem)
  have hd := a.dr
  have hcells : ((((encL ts).map AV.d).drop (i * 3)).take 3) = [.d (.int .i64 v), .d (.str fn), .d (.sl (encL args) args.length false none)] := by rw [← List.map_drop, ← List.map_take, a.cells]; rfl
  have hsz := a.sz
  have e1 : i * 3 + 3 ≤ ts.length * 3 := by omega
  have e2 : i * 3 ≤ ts.length * 3 := by omega
  have hle : ∀ k, N ≤ nx + (N + k) := fun k => by omega
  generalize hz : (Term.mk v fn args).rightE = z at hcall
  simp [Term.enc] at hcall
  conv => arg 9; arg 4; unfold b12_0
  by_cases h0 : z = 0
  ·simp [a.lti, hHo, hsz, a.ltm, hcells, e1, e2, plc_raw, hcall, a.w, hH, h0, Nat.add_assoc, hle]
   exact .next (i + 1) (by omega) (by simp) rfl hl (by omega) (by simp [hd, lowE, hz, h0])
  ·simp [a.lti, hHo, hsz, a.ltm, hcells, e1, e2, plc_raw, hcall, a.w, hH, h0, Nat.add_assoc, hle]
   exact .fin _ _ (by simp [hd, lowE, hz, h0]; exact ⟨rfl, rfl⟩)
 ·obtain rfl : i = ts.length := Nat.le_antisymm hi hl
  simp [b12_0, hH]
  exact .fin _ _ (by simp [lowE]; exact .mk)
theorem lowE_sides (x y : Lt) : lowE [x.l, x.r, y.l, y.r] = (x.rightB && y.rightB) := by simp [lowE, Lt.rightB, Bool.and_assoc]
theorem mem_sidesP {x : Lt} {t : Term} (h : t ∈ x.sidesP) : t = x.l ∨ t = x.r := by
 unfold Lt.sidesP at h
 cases hn : x.neg <;> simp [hn] at h
 ·exact h
 ·rcases h with h | h | h | h <;> simp [h]
theorem sidesP_len (x : Lt) : x.sidesP.length ≤ 1048576 := by unfold Lt.sidesP; cases x.neg <;> simp
theorem sidesP_ne (x : Lt) : x.sidesP ≠ [] := by unfold Lt.sidesP; cases x.neg <;> simp
theorem mLits_ok (o : Od) (hg : o.g.ok) {x y : Lt} (hx : x.ok) (hy : y.ok) (zx : x.sm) (zy : y.sm) : pcl Cp 12 [.agg o.enc, .agg x.enc, .agg y.enc] = some (.int .i64 (litsF o.g.right o.cmp x y)) := by
 have h1 := gright_ok o.g hg
 have h2 := sides_ok x
 have h3 := sides_ok y
 have ok1 : ∀ t ∈ x.sidesP, t.ok ∧ t.size ≤ 1048576 := fun t ht => by rcases mem_sidesP ht with rfl | rfl; exact ⟨hx.1, zx.1⟩; exact ⟨hx.2, zx.2⟩
 have ok2 : ∀ t ∈ y.sidesP, t.ok ∧ t.size ≤ 1048576 := fun t ht => by rcases mem_sidesP ht with rfl | rfl; exact ⟨hy.1, zy.1⟩; exact ⟨hy.2, zy.2⟩
 have h4 := extT_ok (os := o.enc) (wkL_encO o) (same := Term.sameB) (fun s t hs ht => same_ok s hs t ht) (l := x.sidesP) (m := y.sidesP) (tc := o.cmp) (sidesP_len x) (sidesP_len y) (fun t ht => (ok1 t ht).1) (fun t ht => (ok2 t ht).1)
  (fun s hs t ht => mTerms_ok o hg (ok1 s hs).1 (ok2 t ht).1 (ok1 s hs).2 (ok2 t ht).2) (fun s hs t ht => mTerms_ok o hg (ok2 s hs).1 (ok1 t ht).1 (ok2 s hs).2 (ok1 t ht).2) false false false false (fun h => by cases h) (fun h => by cases h)
 have hF := litsF_P o.g.right o.cmp x y
 have hlow := lowE_sides x y
 obtain ⟨H0, hH0⟩ : ∃ H0 : Hp, H0 = upd (upd (upd (upd (fun _ => none) (0, 0) (.cells (o.enc.map .d))) (1, 0) (.cells (x.enc.map .d))) (2, 0) (.cells (y.enc.map .d))) (12, 0) (.cells ((encL [x.l, x.r, y.l, y.r]).map .d)) := ⟨_, rfl⟩
 have g0 : H0 (0, 0) = some (.cells (o.enc.map .d)) := by rw [hH0]; simp
 have g1 : H0 (1, 0) = some (.cells (x.enc.map .d)) := by rw [hH0]; simp
 have g2 : H0 (2, 0) = some (.cells (y.enc.map .d)) := by rw [hH0]; simp
 obtain ⟨e, t, hrun, hR⟩ := lits_loop [x.l, x.r, y.l, y.r] (by simp) (fun t ht => by simp at ht; rcases ht with rfl | rfl | rfl | rfl; exact hx.1; exact hx.2; exact hy.1; exact hy.2) (o := (12, 0)) (N := 15) (by decide) H0 (by rw [hH0]; simp) (by rw [hH0]; simp) .junk
 refine pcl_body code12 ?_
 rw [hF]
 rw [hlow] at hR
 generalize extF Term.sameB _ x.sidesP y.sidesP = ex at *
 generalize x.rightB = b1 at *
 generalize y.rightB = b2 at *
 generalize x.sidesP = sx at *
 generalize y.sidesP = sy at *
 obtain ⟨p, g⟩ := o
 obtain ⟨n, ⟨v, fn, args⟩, ⟨v2, fn2, args2⟩⟩ := x
 obtain ⟨m, ⟨w, fm, brgs⟩, ⟨w2, fm2, brgs2⟩⟩ := y
 simp [ltTm, Sg.enc, Lt.enc, Term.enc, Od.enc, encL] at h1 h2 h3 h4 hrun hH0 g0 g1 g2
 cases b1
 ·obtain ⟨rfl, hv⟩ := hR
  simp [Od.enc, Sg.enc, Lt.enc, Term.enc, plc_raw, ← hH0, hrun, hv]
 ·cases b2
  ·obtain ⟨rfl, hv⟩ := hR
   simp [Od.enc, Sg.enc, Lt.enc, Term.enc, plc_raw, ← hH0, hrun, hv]
  ·obtain ⟨rfl, nx, rfl⟩ := hR
   generalize g.right = gr at *
   cases gr
   ·simp at h1
    simp [Od.enc, Sg.enc, Lt.enc, Term.enc, plc_raw, ← hH0, hrun, h1, g0, g1, g2]
   ·simp at h1
    simp [Od.enc, Sg.enc, Lt.enc, Term.enc, plc_raw, ← hH0, hrun, h1, h2, h3, h4, g0, g1, g2]
end Go.Proofs.Ytajilkmepjhkdaa.Am

/-
 The program: are clauses right, is a literal apart from the others? No condition.
-/
namespace Go.Proofs.Ytajilkmepjhkdaa.Am
open Go Go.Proofs
set_option maxHeartbeats 4000000
set_option maxRecDepth 20000
set_option linter.unusedSimpArgs false
set_option linter.unusedVariables false
def cellC (x : List Lt × Option Bool) : D := .sl (encC x.1) x.1.length false x.2
theorem cellC_at {xs : List (List Lt × Option Bool)} {i : Nat} (h : i < xs.length) : List.take 1 (List.drop i (xs.map cellC)) = [cellC xs[i]] := by
 rw [← List.map_drop, List.drop_eq_getElem_cons h]; rfl
theorem idxC_loop (g : FuncId) (fl : Bool) (nl : Option Bool) (p : List Lt × Option Bool → Bool) (xs : List (List Lt × Option Bool)) (hn : xs.length ≤ 1048576) (hg : plc.raw g = false ∧ plc.weak g = false ∧ g < 1000000000) (hrec : ∀ x ∈ xs, pcl Cp g [cellC x] = some (.bool (p x))) :
  ∃ e t, aloop Try.prog plc b95_0 ⟨[true, true, false, false, true, false, false, true, true, false, false, false, false, false, false, false, false, false, false], some 4⟩ ⟨[.d (.sl (xs.map cellC) xs.length fl nl), .d (.fn g []), .junk, .junk, .d (.int .i64 0), .junk, .junk, .d (.int .i64 xs.length), .d (.int .i64 0), .junk, .junk, .junk, .junk, .junk, .junk, .junk, .junk, .junk, .junk], fun _ => none, 4⟩ = some (e, t) ∧
   (match fromI p xs 0 with | some k => AtRet 4 (.d (.int .i64 k)) e t | none => AtExit 0 [.d (.sl (xs.map cellC) xs.length fl nl), .d (.fn g []), .junk, .junk, .d (.int .i64 0), .junk, .junk, .d (.int .i64 xs.length), .d (.int .i64 xs.length), .junk, .junk, .junk, .junk, .junk, .junk, .junk, .junk, .junk, .junk] (fun _ => none) e t) := by
 refine loop_rule (b := 4) (tm := fun (i : Nat) => [.d (.sl (xs.map cellC) xs.length fl nl), .d (.fn g []), .junk, .junk, .d (.int .i64 0), .junk, .junk, .d (.int .i64 xs.length), .d (.int .i64 i), .junk, .junk, .junk, .junk, .junk, .junk, .junk, .junk, .junk, .junk]) (Hf := fun _ => fun _ => none)
  (I := fun i => i ≤ xs.length) (μ := fun i => xs.length - i) (res := fun i => fromI p xs i) (R := fun o e t => match o with | some k => AtRet 4 (.d (.int .i64 k)) e t | none => AtExit 0 [.d (.sl (xs.map cellC) xs.length fl nl), .d (.fn g []), .junk, .junk, .d (.int .i64 0), .junk, .junk, .d (.int .i64 xs.length), .d (.int .i64 xs.length), .junk, .junk, .junk, .junk, .junk, .junk, .junk, .junk, .junk, .junk] (fun _ => none) e t)
  (fun i nx hi => ?_) 0 (Nat.zero_le _)
 rcases Nat.lt_or_ge i xs.length with hl | hl
 ·have hcall := hrec _ (List.getElem_mem hl)
  have hat := cellC_at hl
  have h1 : i < (xs.map cellC).length := by simpa using hl
  have hil : (i : Int) < (xs.length : Int) := by omega
  have hiw : IntKind.i64.wrap ((i : Int) + 1) = (i : Int) + 1 := wrap_i64 (by omega) (by omega)
  have h2 : 1 ≤ xs.length - i := by omega
  have hfs := fromI_step (p := p) hl
  conv => arg 9; arg 4; unfold b95_0
  cases hp : p xs[i] <;> rw [hp] at hcall <;> simp [hil, hl, hat, h1, h2, hiw, hg.1, hg.2.1, hg.2.2, -plc_weak, hcall, -List.map_drop, -List.map_take]
  ·exact .next (i + 1) (by omega) rfl rfl hl (by omega) (by simp only [hfs, hp, Bool.false_eq_true, if_false])
  ·exact .fin _ _ (by simp only [hfs, hp, if_true]; exact ⟨rfl, rfl⟩)
 ·obtain rfl : i = xs.length := Nat.le_antisymm hi hl
  simp [b95_0]
  exact .fin _ _ (by rw [fromI_end]; exact .mk)
theorem conC_ok {g : FuncId} {fl : Bool} {nl : Option Bool} {p : List Lt × Option Bool → Bool} {xs : List (List Lt × Option Bool)} (hn : xs.length ≤ 1048576) (hg : plc.raw g = false ∧ plc.weak g = false ∧ g < 1000000000) (hrec : ∀ x ∈ xs, pcl Cp g [cellC x] = some (.bool (p x))) :
  pcl Cp 62 [.sl (xs.map cellC) xs.length fl nl, .fn g []] = some (.bool (xs.any p)) := by
 have hi : pcl Cp 95 [.sl (xs.map cellC) xs.length fl nl, .fn g []] = some (.int .i64 (match xs.findIdx? p with | some k => k | none => -1)) := by
  obtain ⟨e, t, h1, h2⟩ := idxC_loop g fl nl p xs hn hg hrec
  refine pcl_body code95 ?_
  simp [fromI_zero] at h1 h2
  simp [h1]
  revert h2
  cases xs.findIdx? p with
  | some k => rintro ⟨rfl, h⟩; simp [h]
  | none => rintro ⟨rfl, nx, rfl⟩; simp
 refine pcl_body code62 ?_
 rw [any_findIdx]
 cases hq : xs.findIdx? p <;> rw [hq] at hi <;> simp [plc_raw, hi]
theorem mright_ok (o : Od) (hg : o.g.ok) {xs : List (List Lt × Option Bool)} (hn : xs.length ≤ 1048576) (hx : ∀ x ∈ xs, okC x.1) (fl : Bool) (nl : Option Bool) : pcl Cp 36 [.agg o.enc, .sl (xs.map cellC) xs.length fl nl] = some (.bool (o.g.right && xs.all fun x => decide (clE x.1 = 0))) := by
 have h1 := gright_ok o.g hg
 have h2 := conC_ok (g := 63) (fl := fl) (nl := nl) (p := fun x => !decide (clE x.1 = 0)) hn ⟨rfl, rfl, by decide⟩ (fun x hm => by
  have := lright_ok (hx x hm) x.2
  refine pcl_body code63 ?_
  generalize clE x.1 = z at *
  by_cases hz : z = 0 <;> simp [cellC, plc_raw, this, hz])
 have he : (xs.all fun x => decide (clE x.1 = 0)) = !(xs.any fun x => !decide (clE x.1 = 0)) := by rw [List.not_any_eq_all_not]; simp
 refine pcl_body code36 ?_
 rw [he]
 generalize (xs.any fun x => !decide (clE x.1 = 0)) = b at *
 generalize xs.map cellC = cs at *
 obtain ⟨p, g⟩ := o
 simp only at h1 ⊢
 generalize g.right = gr at *
 simp [Sg.enc] at h1
 cases gr
 ·simp at h1; simp [Od.enc, Sg.enc, plc_raw, h1]
 ·simp at h1; simp [Od.enc, Sg.enc, plc_raw, h1, h2]
def freeF (i : Int) (p : Lt → Bool) : Nat → List Lt → Bool
 | _, [] => true
 | k, x :: r => if (k : Int) ≠ i ∧ p x = true then false else freeF i p (k + 1) r
theorem freeF_all (i : Int) (p : Lt → Bool) : ∀ (c : List Lt) (k : Nat), (∀ x ∈ c, p x = false) → freeF i p k c = true
 | [], _, _ => rfl
 | x :: r, k, h => by
  simp only [freeF]
  rw [if_neg (by rw [h x (by simp)]; simp)]
  exact freeF_all i p r (k + 1) fun y hy => h y (by simp [hy])
abbrev frT (c : List Lt) (fl : Bool) (nl : Option Bool) (i : Int) (g : FuncId) (caps : List D) (k : Nat) : List AV := [.junk, .d (.int .i64 i), .d (.fn g caps), .junk, .junk, .junk, .d (.bool false), .junk, .junk, .d (.sl (encC c) c.length fl nl), .d (.int .i64 c.length), .d (.int .i64 k), .junk, .junk, .junk, .junk, .junk, .junk, .junk, .junk, .junk, .junk, .junk, .junk, .junk]
theorem free_ok {g : FuncId} {caps : List D} {fl : Bool} {nl : Option Bool} {p : Lt → Bool} {c : List Lt} (i : Int) (hn : c.length ≤ 1048576) (hg : plc.raw g = false ∧ plc.weak g = false ∧ g < 1000000000) (hrec : ∀ x ∈ c, pcl Cp g (.agg x.enc :: caps) = some (.bool (p x))) :
  pcl Cp 37 [.sl (encC c) c.length fl nl, .int .i64 i, .fn g caps] = some (.bool (freeF i p 0 c)) := by
 have h := loop_rule (P := Try.prog) (pol := plc) (c := b37_0) (m := ⟨[false, true, true, false, false, false, true, false, false, true, true, true, false, false, false, false, false, false, false, false, false, false, false, false, false], some 4⟩)
  (b := 4) (tm := fun (k : Nat) => frT c fl nl i g caps k) (Hf := fun _ => fun _ => none)
  (I := fun k => k ≤ c.length) (μ := fun k => c.length - k) (res := fun k => freeF i p k (c.drop k)) (R := fun r e t => if r then AtExit 0 (frT c fl nl i g caps c.length) (fun _ => none) e t else AtRet 6 (.d (.bool false)) e t)
  (fun k nx1 hk => by
   rcases Nat.lt_or_ge k c.length with hl | hl
   ·obtain ⟨n, v, fn, args, v2, fn2, args2, a⟩ := atC_ok (by omega) hl
    have hcall := hrec _ a.mem
    have hd : freeF i p k (c.drop k) = if (k : Int) ≠ i ∧ p ⟨n, .mk v fn args, .mk v2 fn2 args2⟩ = true then false else freeF i p (k + 1) (c.drop (k + 1)) := by rw [a.dr]; rfl
    generalize p ⟨n, .mk v fn args, .mk v2 fn2 args2⟩ = b at hcall hd
    simp [Lt.enc, Term.enc] at hcall
    conv => arg 9; arg 4; unfold b37_0
    by_cases hki : (k : Int) = i
    ·rw [if_neg (by simp [hki])] at hd
     subst hki
     simp [a.lti, a.sz, a.ltm, a.cells, a.le7, a.w, hg.1, hg.2.1, hg.2.2, -plc_weak]
     exact .next (k + 1) (by omega) (by simp) (by simp) hl (by omega) (by simp only [hd])
    ·cases b
     ·rw [if_neg (by simp)] at hd
      simp [a.lti, a.sz, a.ltm, a.cells, a.le7, a.w, hki, hg.1, hg.2.1, hg.2.2, -plc_weak, hcall, mapD_encT]
      exact .next (k + 1) (by omega) (by simp) (by simp) hl (by omega) (by simp only [hd])
     ·rw [if_pos ⟨hki, rfl⟩] at hd
      simp [a.lti, a.sz, a.ltm, a.cells, a.le7, a.w, hki, hg.1, hg.2.1, hg.2.2, -plc_weak, hcall, mapD_encT]
      exact .fin _ _ (by simp only [hd, Bool.false_eq_true, if_false]; exact ⟨rfl, rfl⟩)
   ·obtain rfl : k = c.length := Nat.le_antisymm hk hl
    simp [b37_0]
    exact .fin _ _ (by simp [freeF]; exact .mk)) 0 (Nat.zero_le _)
 obtain ⟨e, t, hrun, hR⟩ := h
 simp only [List.drop_zero] at hR
 refine pcl_body code37 ?_
 generalize freeF i p 0 c = r at *
 simp [frT] at hrun
 cases r
 ·obtain ⟨rfl, hv⟩ := hR
  simp [hrun, hv]
 ·obtain ⟨rfl, nx, rfl⟩ := hR
  simp [hrun]
end Go.Proofs.Ytajilkmepjhkdaa.Am

/-
 The program: which literals of a clause are maximal. No condition.
-/
namespace Go.Proofs.Ytajilkmepjhkdaa.Am
open Go Go.Proofs
set_option maxHeartbeats 4000000
set_option maxRecDepth 20000
set_option linter.unusedSimpArgs false
set_option linter.unusedVariables false
theorem max1_ok (o : Od) (hg : o.g.ok) {c : List Lt} (hc : okC c) (hz : ∀ x ∈ c, x.sm) (fl : Bool) (nl : Option Bool) {k : Nat} (hk : k < c.length) {l : Lt} (hl : l.ok) (zl : l.sm) :
  pcl Cp 38 [.agg l.enc, .dptr [.bool o.path, .sl (encS o.g.names) o.g.names.length false none, .sl (encI o.g.weights) o.g.weights.length false none], .dptr [.sl (encC c) c.length fl nl], .dptr [.int .i64 k]] = some (.bool (decide (litsF o.g.right o.cmp l c[k] = 1))) := by
 obtain ⟨m, w, fm, brgs, w2, fm2, brgs2, a⟩ := atC_ok hc.1 hk
 have hx := hc.2 _ a.mem
 have zx := hz _ a.mem
 have h := mLits_ok o hg hl hx zl zx
 have e1 : c[k] = ⟨m, .mk w fm brgs, .mk w2 fm2 brgs2⟩ := a.get
 rw [e1]
 refine pcl_body code38 ?_
 generalize litsF o.g.right o.cmp l _ = z at *
 obtain ⟨p, g⟩ := o
 obtain ⟨n, ⟨v, fn, args⟩, ⟨v2, fn2, args2⟩⟩ := l
 simp [Od.enc, Sg.enc, Lt.enc, Term.enc] at h
 have hk7 : (k : Int) < (c.length : Int) := by omega
 simp [Lt.enc, Term.enc, plc_raw, a.lti, a.sz, a.ltm, a.cells, a.le7, h]
def maxB (gr : Bool) (tc : Term → Term → Int) (c : List Lt) (i : Int) : Bool :=
 (gr && decide (clE c = 0)) && (decide (0 ≤ i) && (decide (i < c.length) && match c[i.toNat]? with | some x => freeF i (fun l => decide (litsF gr tc l x = 1)) 0 c | none => false))
def strB (gr : Bool) (tc : Term → Term → Int) (c : List Lt) (i : Int) : Bool :=
 maxB gr tc c i && match c[i.toNat]? with | some x => freeF i (fun l => l.same x) 0 c | none => false
theorem mMax_ok (o : Od) (hg : o.g.ok) {c : List Lt} (hc : okC c) (hn : c.length ≤ 1048576) (hz : ∀ x ∈ c, x.sm) (i : Int) : pcl Cp 14 [.agg o.enc, .sl (encC c) c.length false none, .int .i64 i] = some (.bool (maxB o.g.right o.cmp c i)) := by
 have h1 := mright_ok o hg (xs := [(c, none)]) (by simp) (fun x hx => by simp at hx; subst hx; exact hc) false (some false)
 have hb : (o.g.right && ([(c, (none : Option Bool))].all fun x => decide (clE x.1 = 0))) = (o.g.right && decide (clE c = 0)) := by simp
 rw [hb] at h1
 unfold maxB
 generalize hr : (o.g.right && decide (clE c = 0)) = r at h1
 by_cases hi : 0 ≤ i
 ·by_cases hl : i < c.length
  ·obtain ⟨k, rfl⟩ : ∃ k : Nat, i = k := ⟨i.toNat, by omega⟩
   have hk : k < c.length := by omega
   have h2 := free_ok (g := 38) (caps := [.dptr [.bool o.path, .sl (encS o.g.names) o.g.names.length false none, .sl (encI o.g.weights) o.g.weights.length false none], .dptr [.sl (encC c) c.length false none], .dptr [.int .i64 k]]) (fl := false) (nl := none) (c := c) (p := fun l => decide (litsF o.g.right o.cmp l c[k] = 1)) k hn ⟨rfl, rfl, by decide⟩ (fun l hm => max1_ok o hg hc hz false none hk (hc.2 _ hm) (hz _ hm))
   have e : c[(k : Int).toNat]? = some c[k] := by simp [hk]
   rw [e]
   simp only
   refine pcl_body code14 ?_
   generalize freeF k (fun l => decide (litsF o.g.right o.cmp l c[k] = 1)) 0 c = f at *
   obtain ⟨p, g⟩ := o
   simp [Od.enc, Sg.enc, cellC] at h1 h2
   cases r
   ·simp [-isNil, isNil_sl, isNil_int, isNil_bool, isNil_str, isNil_agg, isNil_dptr, isNil_fn, isNil_fna, isNil_osl, isNil_ptr, isNil_agga, Od.enc, Sg.enc, plc_raw, h1]
   ·simp [-isNil, isNil_sl, isNil_int, isNil_bool, isNil_str, isNil_agg, isNil_dptr, isNil_fn, isNil_fna, isNil_osl, isNil_ptr, isNil_agga, Od.enc, Sg.enc, plc_raw, h1, h2, hk]
  ·refine pcl_body code14 ?_
   obtain ⟨p, g⟩ := o
   simp [Od.enc, Sg.enc, cellC] at h1
   cases r <;> simp [-isNil, isNil_sl, isNil_int, isNil_bool, isNil_str, isNil_agg, isNil_dptr, isNil_fn, isNil_fna, isNil_osl, isNil_ptr, isNil_agga, Od.enc, Sg.enc, plc_raw, h1, hi, hl]
 ·refine pcl_body code14 ?_
  obtain ⟨p, g⟩ := o
  simp [Od.enc, Sg.enc, cellC] at h1
  cases r <;> simp [-isNil, isNil_sl, isNil_int, isNil_bool, isNil_str, isNil_agg, isNil_dptr, isNil_fn, isNil_fna, isNil_osl, isNil_ptr, isNil_agga, Od.enc, Sg.enc, plc_raw, h1, hi]
theorem str1_ok {c : List Lt} (hc : okC c) (fl : Bool) (nl : Option Bool) {k : Nat} (hk : k < c.length) {l : Lt} (hl : l.ok) :
  pcl Cp 40 [.agg l.enc, .dptr [.sl (encC c) c.length fl nl], .dptr [.int .i64 k]] = some (.bool (l.same c[k])) := by
 obtain ⟨m, w, fm, brgs, w2, fm2, brgs2, a⟩ := atC_ok hc.1 hk
 have hx := hc.2 _ a.mem
 have h := lSame_ok l _ hl hx
 have e1 : c[k] = ⟨m, .mk w fm brgs, .mk w2 fm2 brgs2⟩ := a.get
 rw [e1]
 refine pcl_body code40 ?_
 generalize Lt.same l _ = z at *
 obtain ⟨n, ⟨v, fn, args⟩, ⟨v2, fn2, args2⟩⟩ := l
 simp [Lt.enc, Term.enc] at h
 have hk7 : (k : Int) < (c.length : Int) := by omega
 simp [Lt.enc, Term.enc, plc_raw, a.lti, a.sz, a.ltm, a.cells, a.le7, h]
theorem mStr_ok (o : Od) (hg : o.g.ok) {c : List Lt} (hc : okC c) (hn : c.length ≤ 1048576) (hz : ∀ x ∈ c, x.sm) (i : Int) : pcl Cp 16 [.agg o.enc, .sl (encC c) c.length false none, .int .i64 i] = some (.bool (strB o.g.right o.cmp c i)) := by
 have h1 := mMax_ok o hg hc hn hz i
 unfold strB
 have hm : maxB o.g.right o.cmp c i = true → 0 ≤ i ∧ i < c.length := fun h => by
  unfold maxB at h
  simp only [Bool.and_eq_true, decide_eq_true_eq] at h
  exact ⟨h.2.1, h.2.2.1⟩
 generalize maxB o.g.right o.cmp c i = r at *
 cases r
 ·refine pcl_body code16 ?_
  obtain ⟨p, g⟩ := o
  simp [Od.enc, Sg.enc] at h1
  simp [-isNil, isNil_sl, isNil_int, isNil_bool, isNil_str, isNil_agg, isNil_dptr, isNil_fn, isNil_fna, isNil_osl, isNil_ptr, isNil_agga, Od.enc, Sg.enc, plc_raw, h1]
 ·obtain ⟨hi, hl⟩ := hm rfl
  obtain ⟨k, rfl⟩ : ∃ k : Nat, i = k := ⟨i.toNat, by omega⟩
  have hk : k < c.length := by omega
  have h2 := free_ok (g := 40) (caps := [.dptr [.sl (encC c) c.length false none], .dptr [.int .i64 k]]) (fl := false) (nl := none) (c := c) (p := fun l => l.same c[k]) k hn ⟨rfl, rfl, by decide⟩ (fun l hm => str1_ok hc false none hk (hc.2 _ hm))
  have e : c[(k : Int).toNat]? = some c[k] := by simp [hk]
  rw [e]
  simp only
  refine pcl_body code16 ?_
  generalize freeF k (fun l => l.same c[k]) 0 c = f at *
  obtain ⟨p, g⟩ := o
  simp [Od.enc, Sg.enc] at h1 h2
  simp [-isNil, isNil_sl, isNil_int, isNil_bool, isNil_str, isNil_agg, isNil_dptr, isNil_fn, isNil_fna, isNil_osl, isNil_ptr, isNil_agga, Od.enc, Sg.enc, plc_raw, h1, h2]
end Go.Proofs.Ytajilkmepjhkdaa.Am

/-
 The orders' laws: what they begin with, the chapter's examples. No condition.
-/
namespace Go.Proofs.Ytajilkmepjhkdaa.Am
open Go Go.Proofs
set_option maxHeartbeats 4000000
set_option maxRecDepth 20000
set_option linter.unusedSimpArgs false
set_option linter.unusedVariables false
theorem own9_ok (o : Od) : pcl Cp 9 [.agg o.enc] = some (.agg o.enc) := by
 obtain ⟨p, g⟩ := o
 have h := own_ok g
 refine pcl_body code9 ?_
 simp [Sg.enc] at h
 simp [Od.enc, Sg.enc, plc_raw, h]
def lightB (xs : List (List Lt × Option Bool)) : Bool := xs.all fun x => decide (x.1.length ≤ 10) && decide (csizeW 0 x.1 ≤ 200)
abbrev lgT (xs : List (List Lt × Option Bool)) (i : Nat) : List AV := [.d (.sl (xs.map cellC) xs.length false none), .junk, .d (.bool false), .d (.int .i64 i), .junk, .junk, .junk, .junk, .junk, .junk, .junk, .junk, .junk, .junk, .junk, .junk, .junk, .junk, .junk, .junk, .junk, .junk, .junk, .junk]
theorem light_ok {xs : List (List Lt × Option Bool)} (hn : xs.length ≤ 1048576) (hx : ∀ x ∈ xs, okC x.1) : pcl Cp 7 [.sl (xs.map cellC) xs.length false none] = some (.bool (lightB xs)) := by
 have h := loop_rule (P := Try.prog) (pol := plc) (c := b7_0) (m := ⟨[true, false, true, true, false, false, false, false, false, false, false, false, false, false, false, false, false, false, false, false, false, false, false, false], some 2⟩)
  (b := 2) (tm := fun (i : Nat) => lgT xs i) (Hf := fun _ => fun _ => none)
  (I := fun i => i ≤ xs.length) (μ := fun i => xs.length - i) (res := fun i => lightB (xs.drop i)) (R := fun r e t => if r then AtExit 0 (lgT xs xs.length) (fun _ => none) e t else AtRet 2 (.d (.bool false)) e t)
  (fun i nx hi => by
   rcases Nat.lt_or_ge i xs.length with hl | hl
   ·have hcall := rsize6_ok (hx _ (List.getElem_mem hl)) false xs[i].2
    have h1 : i < (xs.map cellC).length := by simpa using hl
    have hil : (i : Int) < (xs.length : Int) := by omega
    have hiw : IntKind.i64.wrap ((i : Int) + 1) = (i : Int) + 1 := wrap_i64 (by omega) (by omega)
    have h2 : 1 ≤ xs.length - i := by omega
    have hd : lightB (xs.drop i) = ((decide (xs[i].1.length ≤ 10) && decide (csizeW 0 xs[i].1 ≤ 200)) && lightB (xs.drop (i + 1))) := by rw [List.drop_eq_getElem_cons hl]; rfl
    generalize csizeW 0 xs[i].1 = z at hcall hd
    conv => arg 9; arg 4; unfold b7_0
    by_cases h10 : xs[i].1.length ≤ 10
    ·have h10' : ¬ (10 : Int) < (xs[i].1.length : Int) := by omega
     by_cases h200 : z ≤ 200
     ·have h200' : ¬ (200 : Int) < z := by omega
      simp [hil, hl, h1, h2, hiw, cellC, hcall, plc_raw, h10, h10', h200, h200', -List.map_drop, -List.map_take]
      exact .next (i + 1) (by omega) (by simp) rfl hl (by omega) (by simp only [hd, h10, h200, decide_true, Bool.true_and])
     ·have h200' : (200 : Int) < z := by omega
      simp [hil, hl, h1, h2, hiw, cellC, hcall, plc_raw, h10, h10', h200, h200', -List.map_drop, -List.map_take]
      exact .fin _ _ (by rw [hd, decide_eq_false h200]; simp only [Bool.and_false, Bool.false_and, Bool.false_eq_true, if_false]; exact ⟨rfl, rfl⟩)
    ·have h10' : (10 : Int) < (xs[i].1.length : Int) := by omega
     simp [hil, hl, h1, h2, hiw, cellC, hcall, plc_raw, h10, h10', -List.map_drop, -List.map_take]
     exact .fin _ _ (by rw [hd, decide_eq_false h10]; simp only [Bool.false_and, Bool.false_eq_true, if_false]; exact ⟨rfl, rfl⟩)
   ·obtain rfl : i = xs.length := Nat.le_antisymm hi hl
    simp [b7_0]
    exact .fin _ _ (by simp [lightB]; exact .mk)) 0 (Nat.zero_le _)
 obtain ⟨e, t, hrun, hR⟩ := h
 simp only [List.drop_zero] at hR
 refine pcl_body code7 ?_
 generalize lightB xs = r at *
 simp [lgT] at hrun
 cases r
 ·obtain ⟨rfl, hv⟩ := hR
  simp [hrun, hv]
 ·obtain ⟨rfl, nx, rfl⟩ := hR
  simp [hrun]
abbrev oW : Od := ⟨false, ⟨[], []⟩⟩
abbrev oP : Od := ⟨true, ⟨[], []⟩⟩
abbrev aL (n : Bool) : Lt := ⟨n, tA, tB⟩
abbrev bL : Lt := ⟨false, tB, tA⟩
theorem sAA : tA.sameB tA = true := by decide +kernel
theorem sAB : tA.sameB tB = false := by decide +kernel
theorem sBA : tB.sameB tA = false := by decide +kernel
theorem sBB : tB.sameB tB = true := by decide +kernel
theorem ex91 : litsF oW.g.right oW.cmp (aL true) (aL false) = 1 := by
 rw [litsF_R]
 have e1 : restF Term.sameB (aL true).sides (aL false).sides = [tA, tB] := by simp [restF, Lt.sides, List.findIdx?_cons, sAA, sAB, sBA, sBB]
 have e2 : restF Term.sameB (aL false).sides (aL true).sides = [] := by simp [restF, Lt.sides, List.findIdx?_cons, sAA, sAB, sBA, sBB]
 rw [if_pos (by decide +kernel)]
 unfold extF
 rw [e1, e2]; rfl
theorem ex93 : litsF oW.g.right oW.cmp (aL false) bL = 0 := by
 rw [litsF_R]
 have e1 : restF Term.sameB (aL false).sides bL.sides = [] := by simp [restF, Lt.sides, List.findIdx?_cons, sAA, sAB, sBA, sBB]
 have e2 : restF Term.sameB bL.sides (aL false).sides = [] := by simp [restF, Lt.sides, List.findIdx?_cons, sAA, sAB, sBA, sBB]
 rw [if_pos (by decide +kernel)]
 unfold extF
 rw [e1, e2]; rfl
theorem ex92 : maxB oW.g.right oW.cmp [aL false] 0 = true := by
 have h1 : oW.g.right = true := by decide +kernel
 have h2 : clE [aL false] = 0 := by decide +kernel
 unfold maxB
 rw [h1, h2]
 simp [freeF]
theorem ex94 : oP.cmp tB tA = 1 := by
 rw [oP.cmp_small (by decide) (by decide)]
 have hs : SymGt ⟨[], []⟩ (ByteArray.mk #[98]) (ByteArray.mk #[97]) 0 0 := .inl ⟨by decide +kernel, by decide +kernel⟩
 exact (lCmp_of ⟨[], []⟩ _ _ (by decide +kernel) (by decide +kernel) (by decide +kernel)).2.1 (.sym (by decide +kernel) (by decide +kernel) (fun b hb => by simp at hb) hs)
theorem alive09_ok : pcl Cp 8 [] = some (.bool true) := by
 have hg : (⟨[], []⟩ : Sg).ok := by simp [Sg.ok]
 have hA : tA.ok := by simp [Term.ok, okL]
 have hB : tB.ok := by simp [Term.ok, okL]
 have c1 := mLits_ok oW hg (x := aL true) (y := aL false) ⟨hA, hB⟩ ⟨hA, hB⟩ ⟨by decide, by decide⟩ ⟨by decide, by decide⟩
 have c3 := mLits_ok oW hg (x := aL false) (y := bL) ⟨hA, hB⟩ ⟨hB, hA⟩ ⟨by decide, by decide⟩ ⟨by decide, by decide⟩
 have c2 := mMax_ok oW hg (c := [aL false]) ⟨by simp, fun x hx => by simp at hx; subst hx; exact ⟨hA, hB⟩⟩ (by simp) (fun x hx => by simp at hx; subst hx; exact ⟨by decide, by decide⟩) 0
 have c4 := mTerms_ok oP hg hB hA (by decide) (by decide)
 rw [ex91] at c1
 rw [ex92] at c2
 rw [ex93] at c3
 rw [ex94] at c4
 simp [Lt.enc, Term.enc, Od.enc, Sg.enc, encL, encS, encI, encC] at c1 c2 c3 c4
 refine pcl_body code8 ?_
 simp [plc_raw, c1, c2, c3, c4]
end Go.Proofs.Ytajilkmepjhkdaa.Am

/-
 Rows of things copied, and taken away from. No condition.
-/
namespace Go.Proofs.Ytajilkmepjhkdaa.Am
open Go Go.Proofs
set_option maxHeartbeats 4000000
set_option maxRecDepth 20000
set_option linter.unusedSimpArgs false
set_option linter.unusedVariables false
theorem takeL : ∀ (l : List Lt) (n : Nat), (encC l).take (n * 7) = encC (l.take n)
 | [], n => by simp [encC]
 | x :: r, 0 => by simp [encC]
 | x :: r, n + 1 => by
  have := x.enc_len
  simp only [encC, List.take_succ_cons]
  rw [List.take_append, List.take_of_length_le (by omega), show (n + 1) * 7 - x.enc.length = n * 7 by omega, takeL r n]
theorem dropL : ∀ (l : List Lt) (n : Nat), (encC l).drop (n * 7) = encC (l.drop n)
 | [], n => by simp [encC]
 | x :: r, 0 => by simp
 | x :: r, n + 1 => by
  have := x.enc_len
  simp only [encC, List.drop_succ_cons]
  rw [List.drop_append, List.drop_eq_nil_of_le (by omega), List.nil_append, show (n + 1) * 7 - x.enc.length = n * 7 by omega, dropL r n]
inductive RowL (H : Hp) : AV → List Lt → Oid → Prop
 | vn (o : Oid) (h : H o = some .vnil) : RowL H (.osl o 0 0 1 0) [] o
 | row (o : Oid) (l : List Lt) (cs : List D) (h : H o = some (.grow (cs.map .d))) (hv : l.length * 7 ≤ cs.length) (ht : cs.take (l.length * 7) = encC l) (hb : cs.length ≤ 68719476736) : RowL H (.osl o 0 l.length 7 cs.length) l o
theorem RowL.keep {H H' : Hp} {v : AV} {l : List Lt} {o : Oid} (h : RowL H v l o) (k : H' o = H o) : RowL H' v l o := by
 cases h with
 | vn o h => exact .vn o (k.trans h)
 | row o l cs h hv ht hb => exact .row o l cs (k.trans h) hv ht hb
theorem cloL_ok (H : Hp) (nx : Nat) (fl b : Bool) (l : List Lt) (hl : l.length ≤ 1048576) (hb : b = true → l = []) : ∃ v H' nx' o, acall Try.prog plc 98 [.d (.sl (encC l) l.length fl (some b))] H nx = some (v, H', nx') ∧ RowL H' v l o ∧ nx ≤ nx' ∧ nx ≤ o.1 ∧ o.1 < nx' ∧ ∀ p : Oid, p.1 < nx → H' p = H p := by
 cases b with
 | true =>
  rw [hb rfl]
  refine ⟨.osl (nx + 3, 1) 0 0 1 0, upd (upd H (nx, 1) .vnil) (nx + 3, 1) .vnil, nx + 4, (nx + 3, 1), acall_body code98 ?_, .vn _ (upd_same _ _ _), by omega, by simp only; omega, by simp only; omega, fun p hp => by rw [uold (by omega), uold hp]⟩
  simp [encC]
 | false =>
  have hs : ∀ H' : Hp, srcCells Try.prog H' 7 34 (.d (.sl (encC l) l.length fl (some false))) = some (encC l, l.length, []) := fun H' => by simp [srcCells, srcRaw, encC_len]
  have i10 : (encC l).length = l.length * 7 := encC_len l
  have i11 : ¬ 68719476736 < l.length * 7 := by omega
  have hrow := RowL.row (H := upd (upd H (nx, 1) .vnil) (nx + 3, 0) (.grow ((encC l).map .d))) (nx + 3, 0) l (encC l) (upd_same _ _ _) (by omega) (List.take_of_length_le (by omega)) (by omega)
  rw [i10] at hrow
  refine ⟨_, _, nx + 7, (nx + 3, 0), acall_body code98 ?_, hrow, by omega, by simp only; omega, by simp only; omega, fun p hp => by rw [uold (by omega), uold hp]⟩
  by_cases hr : l = []
  ·subst hr
   simp [encC] at hs
   simp [Nat.add_assoc, appendO, growO, hs, encC]
  ·have i12 : ¬ l.length = 0 := fun e => hr (List.length_eq_zero_iff.1 e)
   have i13 : ¬ encC l = [] := fun e => by rw [e] at i10; simp at i10; omega
   simp [Nat.add_assoc, appendO, growO, hs, i10, i11, i12, i13, hr]
theorem delL_ok {H : Hp} {o : Oid} {a b : List Lt} {q : Lt} {cs : List D} (hc : H o = some (.grow (cs.map .d))) (hv : (a ++ q :: b).length * 7 ≤ cs.length) (ht : cs.take ((a ++ q :: b).length * 7) = encC (a ++ q :: b)) (hb : cs.length ≤ 68719476736) (nx : Nat) (ho : o.1 < nx) (n : Nat) (hn : n = a.length + b.length) :
  ∃ (cs' : List D) (H' : Hp) (nx' : Nat), acall Try.prog plc 101 [.osl o 0 (n + 1) 7 cs.length, .d (.int .i64 a.length), .d (.int .i64 (a.length + 1))] H nx = some (.osl o 0 n 7 cs.length, H', nx') ∧ nx ≤ nx' ∧ H' o = some (.grow (cs'.map .d)) ∧ (∀ p : Oid, p.1 < nx → p ≠ o → H' p = H p) ∧ cs'.length = cs.length ∧ cs'.take ((a ++ b).length * 7) = encC (a ++ b) := by
 have hL : (a ++ q :: b).length = a.length + b.length + 1 := by simp; omega
 rw [hL] at hv ht
 obtain ⟨cs1, hcs1⟩ : ∃ cs1, cs1 = cs.take (a.length * 7) ++ (encC b ++ cs.drop (a.length * 7 + b.length * 7)) := ⟨_, rfl⟩
 have hl1 : cs1.length = cs.length := by rw [hcs1]; simp [encC_len]; omega
 obtain ⟨cs2, hcs2⟩ : ∃ cs2, cs2 = cs1.take (n * 7) ++ ([D.bool false, .int .i64 0, .str (ByteArray.mk #[]), .sl [] 0 true (some true), .int .i64 0, .str (ByteArray.mk #[]), .sl [] 0 true (some true)] ++ cs1.drop (n * 7 + 7)) := ⟨_, rfl⟩
 have hl2 : cs2.length = cs.length := by rw [hcs2]; simp [hl1]; omega
 have hta : cs.take (a.length * 7) = encC a := by
  have := congrArg (List.take (a.length * 7)) ht
  rw [List.take_take, Nat.min_eq_left (by omega), takeL] at this
  simpa using this
 have htb : (cs.drop ((a.length + 1) * 7)).take (b.length * 7) = encC b := by
  have := congrArg (List.drop ((a.length + 1) * 7)) ht
  rw [List.drop_take, dropL] at this
  rw [show (a.length + b.length + 1) * 7 - (a.length + 1) * 7 = b.length * 7 by omega] at this
  rw [this]; simp
 have hsrc : ∀ H' : Hp, H' o = some (.grow (cs.map .d)) → srcCells Try.prog H' 7 34 (.osl o ((a.length + 1) * 7) b.length 7 cs.length) = some (encC b, b.length, []) := fun H' hc => by
  have hall : allD (((cs.map AV.d).drop ((a.length + 1) * 7)).take (b.length * 7)) = some (encC b) := by
   rw [← List.map_drop, ← List.map_take, htb]; exact allD_mapD _
  have h5 : (a.length + 1) * 7 + b.length * 7 ≤ cs.length := by omega
  simp [srcCells, srcRaw, hc, hall, h5, -allD]
 have happ : ∀ (H' : Hp) (id : Nat), H' o = some (.grow (cs.map .d)) → appendO Try.prog H' id 34 34 (.osl o 0 a.length 7 cs.length) (.osl o ((a.length + 1) * 7) b.length 7 cs.length) = some (.osl o 0 n 7 cs.length, upd H' o (.grow (cs1.map .d))) := fun H' id hc => by
  have hs := hsrc H' hc
  have i7 : a.length * 7 ≤ cs.length := by omega
  have i8 : a.length * 7 + b.length * 7 ≤ cs.length := by omega
  have i10 : (encC b).length = b.length * 7 := encC_len b
  have i11 : ¬ 68719476736 < b.length * 7 := by omega
  by_cases hbn : b = []
  ·have e1 : cs1 = cs := by rw [hcs1, hbn]; simp [encC]
   have e2 : upd H' o (.grow (cs.map .d)) = H' := by
    funext p; simp only [upd]; split
    ·rename_i h; rw [h, hc]
    ·rfl
   have e3 : n = a.length := by rw [hn, hbn]; simp
   rw [e1, e2, e3]
   rw [hbn] at hs
   simp only [List.length_nil, encC] at hs
   simp [appendO, hs, hc, i7, hb, hbn]
  ·rw [hcs1, hn]
   simp [appendO, growO, hs, hc, i7, i8, hb, i10, i11, hbn]
 have f0 : ∀ j x, upd H (nx, j) x o = H o := fun j x => uold ho _ _ _
 have f1 : ∀ k j x H', upd H' (nx + k, j) x o = H' o := fun k j x H' => uold (by omega) _ _ _
 refine ⟨cs2, upd (upd H (nx, 1) .vnil) o (.grow (cs2.map .d)), nx + 29, acall_body code101 ?_, by omega, upd_same _ _ _, fun p hp hq => by rw [une hq, uold hp], hl2, ?_⟩
 ·have i1 : ¬ ((a.length : Int) = (a.length : Int) + 1) := by omega
  have i2 : (0 : Int) ≤ (a.length : Int) + 1 := by omega
  have i3 : (0 : Int) ≤ (n : Int) + 1 := by omega
  have i5 : a.length ≤ n := by omega
  have i6 : ¬ a.length = n + 1 := by omega
  have i7 : a.length * 7 ≤ cs.length := by omega
  have i8 : n - a.length = b.length := by omega
  have i9 : (n + 1) * 7 ≤ cs.length := by omega
  have i10 : n * 7 + 7 ≤ cs.length := by omega
  rw [hcs2]
  simp [plc_raw, Nat.add_assoc, hc, f0, f1, i1, i2, i3, i5, i6, i7, i8, i9, i10, happ, hl1]
 ·have e1 : (encC (a ++ b)).length = n * 7 := by rw [encC_len]; simp [hn]
  have e2 : (a ++ b).length * 7 = n * 7 := by simp [hn]
  rw [hcs2, e2, List.take_append_of_le_length (by simp [hl1]; omega), List.take_take, Nat.min_self, hcs1, hta, ← List.append_assoc, ← encC_append, List.take_append_of_le_length (by omega), List.take_of_length_le (by omega)]
theorem splitL {l : List Lt} {p : Lt → Bool} {i : Nat} (h : l.findIdx? p = some i) : ∃ a q b, l = a ++ q :: b ∧ a.length = i ∧ l.eraseIdx i = a ++ b := by
 have hi : i < l.length := (List.findIdx?_eq_some_iff_findIdx_eq.1 h).1
 refine ⟨l.take i, l[i], l.drop (i + 1), ?_, by simp; omega, ?_⟩
 ·rw [← List.drop_eq_getElem_cons hi, List.take_append_drop]
 ·rw [List.eraseIdx_eq_take_drop_succ]
theorem rest1L_ok {x y : Lt} {b : Bool} (h : pcl Cp 41 [.agg x.enc, .agg y.enc] = some (.bool b)) : pcl Cp 100 [.agg y.enc, .dptr [.fn 41 []], .dptr x.enc] = some (.bool b) := by
 refine pcl_body code100 ?_
 obtain ⟨n, ⟨v, fn, args⟩, ⟨v2, fn2, args2⟩⟩ := x
 obtain ⟨m, ⟨w, fm, brgs⟩, ⟨w2, fm2, brgs2⟩⟩ := y
 simp [Lt.enc, Term.enc] at h
 simp [Lt.enc, Term.enc, plc_raw, h]
end Go.Proofs.Ytajilkmepjhkdaa.Am

/-
 What is left of a row behind taking away another one. No condition.
-/
namespace Go.Proofs.Ytajilkmepjhkdaa.Am
open Go Go.Proofs
set_option maxHeartbeats 4000000
set_option maxRecDepth 20000
set_option linter.unusedSimpArgs false
set_option linter.unusedVariables false
def gOL (l : List Lt) : Am.Obj := if l = [] then .vnil else .grow ((encC l).map .d)
def gVL (o : Oid) (l : List Lt) : AV := if l = [] then .osl o 0 0 1 0 else .osl o 0 l.length 7 (l.length * 7)
theorem gVL_app (o : Oid) (l : List Lt) (x : Lt) : gVL o (l ++ [x]) = .osl o 0 (l.length + 1) 7 ((l.length + 1) * 7) := by simp [gVL]
theorem append_gL {H : Hp} {id : Nat} {o o2 : Oid} {l : List Lt} {x : Lt} (h : H o = some (gOL l)) (h2 : H o2 = some (.cells (x.enc.map .d))) (hl : l.length ≤ 1048576) :
  appendO Try.prog H id 34 34 (gVL o l) (.osl o2 0 1 7 7) = some (gVL o (l ++ [x]), upd H o (gOL (l ++ [x]))) := by
 have hx := x.enc_len
 have e1 : encC [x] = x.enc := by simp [encC]
 cases l with
 | nil =>
  simp only [gOL, if_true] at h
  have hs : srcCells Try.prog H 7 34 (.osl o2 0 1 7 7) = some (x.enc, 1, []) := by
   have h3 : List.take 7 (x.enc.map AV.d) = x.enc.map AV.d := List.take_of_length_le (by simp [hx])
   simp [srcCells, srcRaw, h2, hx, h3, allD_mapD, -allD]
  simp [appendO, hs, h, gVL, gOL, growO, e1, hx]
 | cons y r =>
  simp [gOL] at h
  have hs : srcCells Try.prog H 7 34 (.osl o2 0 1 7 7) = some (x.enc, 1, []) := by
   have h3 : List.take 7 (x.enc.map AV.d) = x.enc.map AV.d := List.take_of_length_le (by simp [hx])
   simp [srcCells, srcRaw, h2, hx, h3, allD_mapD, -allD]
  have hel2 : (encC (y :: r)).length = (r.length + 1) * 7 := by simpa using encC_len (y :: r)
  have hle : ¬ ((r.length + 1) * 7 + 7 ≤ (r.length + 1) * 7) := by omega
  simp only [List.length_cons] at hl
  have h4 : (r.length + 1) * 7 ≤ 68719476736 := by omega
  have h5 : encC (y :: (r ++ [x])) = encC (y :: r) ++ x.enc := by rw [show y :: (r ++ [x]) = (y :: r) ++ [x] from rfl, encC_append, e1]
  have i5 : ¬ (r.length + 2) * 7 ≤ (r.length + 1) * 7 := by omega
  have i4 : (r.length + 1) * 7 + 7 = (r.length + 2) * 7 := by omega
  have h6 : List.take ((r.length + 1) * 7) ((encC (y :: r)).map AV.d) = (encC (y :: r)).map AV.d := List.take_of_length_le (by simp [hel2])
  generalize encC (y :: r) = EE at *
  simp [appendO, hs, h, gVL, gOL, growO, hel2, hle, h4, h5, hx, i4, i5, h6]
theorem reify_rowL {H : Hp} {v : AV} {l : List Lt} {o : Oid} (h : RowL H v l o) : ∃ nl is, ∀ n, reify H (n + 1) v = some (.sl (encC l) l.length false nl, is) := by
 cases h with
 | vn o h => exact ⟨_, _, fun n => by simp [reify, h, Am.Obj.isRow, Am.Obj.cs, mapD, encC, nlOf]; exact ⟨rfl, rfl⟩⟩
 | row o l cs h hv ht hb =>
  have : List.take (l.length * 7) (cs.map AV.d) = (encC l).map .d := by rw [← List.map_take, ht]
  exact ⟨_, _, fun n => by simp [reify, h, Am.Obj.isRow, Am.Obj.cs, hv, this, mapD_encT, nlOf]; exact ⟨rfl, rfl⟩⟩
end Go.Proofs.Ytajilkmepjhkdaa.Am

/-
 What is left of a row behind taking away another one. No condition.
-/
namespace Go.Proofs.Ytajilkmepjhkdaa.Am
open Go Go.Proofs
set_option maxHeartbeats 4000000
set_option maxRecDepth 20000
set_option linter.unusedSimpArgs false
set_option linter.unusedVariables false
theorem delRowL_ok {H : Hp} {v : AV} {a b : List Lt} {q : Lt} {o : Oid} (h : RowL H v (a ++ q :: b) o) (nx : Nat) (ho : o.1 < nx) :
  ∃ (n ver : Nat) (H' : Hp) (nx' : Nat), acall Try.prog plc 101 [v, .d (.int .i64 a.length), .d (.int .i64 (a.length + 1))] H nx = some (.osl o 0 n 7 ver, H', nx') ∧ nx ≤ nx' ∧ RowL H' (.osl o 0 n 7 ver) (a ++ b) o ∧ ∀ p : Oid, p.1 < nx → p ≠ o → H' p = H p := by
 generalize hmq : a ++ q :: b = mq at h
 cases h with
 | vn o h => simp at hmq
 | row o _ cs hc hv ht hb =>
  subst hmq
  have hlen1 : (a ++ q :: b).length = a.length + b.length + 1 := by simp; omega
  obtain ⟨cs', H1, N1, hdel, hN1, hc1, hk1, hcl, htk⟩ := delL_ok hc hv ht hb nx ho (a.length + b.length) rfl
  have hrow' := RowL.row (H := H1) o (a ++ b) cs' hc1 (by rw [hcl]; simp only [List.length_append, List.length_cons] at hv ⊢; omega) htk (by omega)
  rw [hcl, show (a ++ b).length = a.length + b.length by simp] at hrow'
  rw [hlen1]
  exact ⟨_, _, H1, N1, hdel, hN1, hrow', hk1⟩
structure RsL where
 i : Nat
 out : List Lt
 m : List Lt
 mv : AV
 H : Hp
abbrev restTmL (l : List Lt) (f1 : Bool) (n1 : Option Bool) (mv out : AV) (i : Nat) : List AV := [.junk, mv, .junk, .junk, .junk, .ptr (0, 0) 0 1, .osl (1, 1) 0 0 1 0, out, .junk, .junk, .junk, .junk, .junk, .d (.sl (encC l) l.length f1 n1), .d (.int .i64 l.length), .d (.int .i64 i), .junk, .junk, .junk, .junk, .junk, .junk, .junk, .junk, .junk, .junk, .junk, .junk, .junk, .junk, .junk, .junk, .junk, .junk, .junk]
structure RsIL (l : List Lt) (om oo : Oid) (s : RsL) : Prop where
 il : s.i ≤ l.length
 row : RowL s.H s.mv s.m om
 out : s.H oo = some (gOL s.out)
 ol : s.out.length ≤ s.i
 sm : s.H (0, 0) = some (.cells [.d (.fn 41 [])])
 mm : ∀ x ∈ s.m, x.ok
 ml : s.m.length ≤ 1048576
def RsEL (N : Nat) (l : List Lt) (f1 : Bool) (n1 : Option Bool) (oo : Oid) (r : List Lt) (e : Ex) (st : St) : Prop :=
 N ≤ st.nx ∧ e = .exit 0 ∧ st.hp oo = some (gOL r) ∧ ∃ mv, st.tm = restTmL l f1 n1 mv (gVL oo r) l.length
theorem restL_loop (same : Lt → Lt → Bool) (hsame : ∀ x y : Lt, x.ok → y.ok → pcl Cp 41 [.agg x.enc, .agg y.enc] = some (.bool (same x y))) (l : List Lt) (hll : l.length ≤ 1048576) (hlo : ∀ x ∈ l, x.ok) (f1 : Bool) (n1 : Option Bool) {om oo : Oid} {N : Nat} (h1 : 0 < om.1) (h2 : om.1 < oo.1) (h3 : oo.1 < N) (s0 : RsL) (hI0 : RsIL l om oo s0) :
  ∃ e st, aloop Try.prog plc b65_0 ⟨[false, true, false, false, false, true, true, true, false, false, false, false, false, true, true, true, false, false, false, false, false, false, false, false, false, false, false, false, false, false, false, false, false, false, true], some N⟩ ⟨restTmL l f1 n1 s0.mv (gVL oo s0.out) s0.i, s0.H, N⟩ = some (e, st) ∧ RsEL N l f1 n1 oo (s0.out ++ restF same (l.drop s0.i) s0.m) e st :=
 loop_rule (P := Try.prog) (pol := plc) (c := b65_0) (m := ⟨[false, true, false, false, false, true, true, true, false, false, false, false, false, true, true, true, false, false, false, false, false, false, false, false, false, false, false, false, false, false, false, false, false, false, true], some N⟩)
  (b := N) (tm := fun (s : RsL) => restTmL l f1 n1 s.mv (gVL oo s.out) s.i) (Hf := fun s => s.H)
  (I := RsIL l om oo) (μ := fun s => l.length - s.i) (res := fun s => s.out ++ restF same (l.drop s.i) s.m) (R := RsEL N l f1 n1 oo)
  (fun s nx1 hI => by
   have hrow := hI.row
   have hout := hI.out
   have hsm := hI.sm
   have hn : l.length ≤ 9223372036854775807 := by omega
   rcases Nat.lt_or_ge s.i l.length with hl | hl
   ·obtain ⟨n, v, fn, args, v2, fn2, args2, a⟩ := atC_ok hn hl
    have hx := hlo _ a.mem
    have hget : l[s.i] = .mk n (.mk v fn args) (.mk v2 fn2 args2) := a.get
    obtain ⟨Hb, hHb⟩ : ∃ Hb : Hp, Hb = upd (upd (upd s.H (nx1 + (N + 3), 4) .vnil) (nx1 + (N + 3), 7) .vnil) (nx1 + (N + 3), 0) (.cells [.d (.bool n), .d (.int .i64 v), .d (.str fn), .d (.sl (encL args) args.length false none), .d (.int .i64 v2), .d (.str fn2), .d (.sl (encL args2) args2.length false none)]) := ⟨_, rfl⟩
    have hbk : ∀ p : Oid, p.1 < N → Hb p = s.H p := fun p hp => by rw [hHb]; simp only [uold (show p.1 < nx1 + (N + 3) by omega)]
    have hbs : Hb (nx1 + (N + 3), 0) = some (.cells [.d (.bool n), .d (.int .i64 v), .d (.str fn), .d (.sl (encL args) args.length false none), .d (.int .i64 v2), .d (.str fn2), .d (.sl (encL args2) args2.length false none)]) := by rw [hHb]; exact upd_same _ _ _
    have hb0 : Hb (0, 0) = some (.cells [.d (.fn 41 [])]) := (hbk _ (by simp only; omega)).trans hsm
    have hrb : RowL Hb s.mv s.m om := hrow.keep (hbk _ (by omega))
    have hbo : Hb oo = some (gOL s.out) := (hbk _ h3).trans hout
    obtain ⟨nl, is, hre⟩ := reify_rowL hrb
    have hre6 := hre 5
    simp only [Nat.reduceAdd] at hre6
    have hidx := idxL_ok (g := 100) (caps := [.dptr [.fn 41 []], .dptr (Lt.mk n (.mk v fn args) (.mk v2 fn2 args2)).enc]) (fl := false) (nl := nl) (p := same (.mk n (.mk v fn args) (.mk v2 fn2 args2))) (ts := s.m) (by have := hI.ml; omega) ⟨rfl, rfl, by decide⟩ (fun y hy => rest1L_ok (hsame _ _ hx (hI.mm y hy)))
    simp [Lt.enc, Term.enc] at hidx
    have hol := hI.ol
    have hdr := a.dr
    have hfr : restF same (l.drop s.i) s.m = (match s.m.findIdx? (same (.mk n (.mk v fn args) (.mk v2 fn2 args2))) with | none => .mk n (.mk v fn args) (.mk v2 fn2 args2) :: restF same (l.drop (s.i + 1)) s.m | some k => restF same (l.drop (s.i + 1)) (s.m.eraseIdx k)) := by rw [hdr]; rfl
    cases hq : s.m.findIdx? (same (.mk n (.mk v fn args) (.mk v2 fn2 args2))) with
    | none =>
     rw [hq] at hidx hfr
     simp only at hidx hfr
     have happ := append_gL (H := upd Hb (nx1 + (N + 13), 0) (.cells [.d (.bool n), .d (.int .i64 v), .d (.str fn), .d (.sl (encL args) args.length false none), .d (.int .i64 v2), .d (.str fn2), .d (.sl (encL args2) args2.length false none)])) (id := nx1 + (N + 14)) (o := oo) (o2 := (nx1 + (N + 13), 0)) (l := s.out) (x := .mk n (.mk v fn args) (.mk v2 fn2 args2)) (by rw [uold (by omega)]; exact hbo) (by rw [upd_same]; simp [Lt.enc, Term.enc]) (by omega)
     rw [gVL_app] at happ
     conv => arg 9; arg 4; unfold b65_0
     simp [a.lti, a.sz, a.ltm, a.cells, a.le7, a.w, plc_raw, Nat.add_assoc, ← hHb, hb0, hbs, hre6, hidx, happ]
     refine .next (RsL.mk (s.i + 1) (s.out ++ [.mk n (.mk v fn args) (.mk v2 fn2 args2)]) s.m s.mv (below N (upd (upd Hb (nx1 + (N + 13), 0) (.cells [.d (.bool n), .d (.int .i64 v), .d (.str fn), .d (.sl (encL args) args.length false none), .d (.int .i64 v2), .d (.str fn2), .d (.sl (encL args2) args2.length false none)])) oo (gOL (s.out ++ [.mk n (.mk v fn args) (.mk v2 fn2 args2)]))))) (by omega) (by simp [gVL_app]) rfl ⟨hl, ?_, ?_, by simp; omega, ?_, hI.mm, hI.ml⟩ (by simp only; omega) ?_
     ·exact hrb.keep (by simp only; rw [blt (by omega), une (fun e => by rw [e] at h2; omega), uold (by omega)])
     ·simp only; rw [blt h3, upd_same]
     ·simp only; rw [blt (by simp only; omega), une (fun e => by rw [← e] at h2; simp at h2), uold (by simp only; omega)]; exact hb0
     ·simp only; rw [hfr]; simp
    | some k =>
     rw [hq] at hidx hfr
     simp only at hidx hfr
     obtain ⟨aa, q, bb, e1, e2, e3⟩ := splitL hq
     have hml := hI.ml
     have hmm := hI.mm
     rw [e3] at hfr
     rw [e1] at hml hmm
     have hk0 : ¬ ((k : Int) < 0) := by omega
     have hkw : IntKind.i64.wrap ((k : Int) + 1) = (k : Int) + 1 := wrap_i64 (by simp at hml; omega) (by simp at hml; omega)
     rw [e1] at hrb
     obtain ⟨n', ver', H1, N1, hdel, hN1, hrow', hk1⟩ := delRowL_ok hrb (nx1 + (N + 17)) (by omega)
     rw [e2] at hdel
     conv => arg 9; arg 4; unfold b65_0
     simp [a.lti, a.sz, a.ltm, a.cells, a.le7, a.w, plc_raw, Nat.add_assoc, ← hHb, hb0, hbs, hre6, hidx, hk0, hkw, hdel]
     refine .next (RsL.mk (s.i + 1) s.out (aa ++ bb) (.osl om 0 n' 7 ver') (below N H1)) (by omega) (by simp) rfl ⟨hl, ?_, ?_, by simp only; omega, ?_, fun x hx => hmm x (by simp only [List.mem_append, List.mem_cons] at hx ⊢; rcases hx with h | h; exact .inl h; exact .inr (.inr h)), by simp at hml ⊢; omega⟩ (by simp only; omega) ?_
     ·exact hrow'.keep (by simp only; rw [blt (by omega)])
     ·simp only; rw [blt h3, hk1 _ (by omega) (fun e => by rw [e] at h2; omega)]; exact hbo
     ·simp only; rw [blt (by simp only; omega), hk1 _ (by simp only; omega) (fun e => by rw [← e] at h1; simp at h1)]; exact hb0
     ·simp only; rw [hfr]
   ·have hie : s.i = l.length := Nat.le_antisymm hI.il hl
    simp [b65_0, hie]
    refine .fin _ _ ⟨by simp only; omega, rfl, ?_, s.mv, ?_⟩
    ·simp only [hie, List.drop_length, restF, List.append_nil]; rw [blt h3]; exact hout
    ·simp only [hie, List.drop_length, restF, List.append_nil]) s0 hI0
end Go.Proofs.Ytajilkmepjhkdaa.Am

/-
 What is left of a row behind taking away another one: the whole function. No condition.
-/
namespace Go.Proofs.Ytajilkmepjhkdaa.Am
open Go Go.Proofs
set_option maxHeartbeats 4000000
set_option maxRecDepth 20000
set_option linter.unusedSimpArgs false
set_option linter.unusedVariables false
theorem restL_ok {same : Lt → Lt → Bool} (hsame : ∀ x y : Lt, x.ok → y.ok → pcl Cp 41 [.agg x.enc, .agg y.enc] = some (.bool (same x y))) {l m : List Lt} (hll : l.length ≤ 1048576) (hml : m.length ≤ 1048576) (hlo : ∀ x ∈ l, x.ok) (hmo : ∀ x ∈ m, x.ok) (f1 f2 b : Bool) (n1 : Option Bool) (hb : b = true → m = []) :
  ∃ nl : Bool, pcl Cp 65 [.sl (encC l) l.length f1 n1, .sl (encC m) m.length f2 (some b), .fn 41 []] = some (.sl (encC (restF same l m)) (restF same l m).length false (some nl)) ∧ (nl = true → restF same l m = []) := by
 obtain ⟨H0, hH0⟩ : ∃ H0 : Hp, H0 = upd (upd (fun _ => none) (0, 0) (.cells [.d (.fn 41 [])])) (1, 1) .vnil := ⟨_, rfl⟩
 obtain ⟨v, H1, N1, om, hclo, hrow, hN, ho1, ho2, hk⟩ := cloL_ok H0 5 f2 b m hml hb
 have hnv : isNil v = false := by cases hrow <;> rfl
 have h00 : H1 (0, 0) = some (.cells [.d (.fn 41 [])]) := by rw [hk _ (by decide), hH0]; simp [upd]
 obtain ⟨e, st, hrun, hN2, rfl, hout, mv', htm⟩ := restL_loop same hsame l hll hlo f1 n1 (om := om) (oo := (N1, 1)) (N := N1 + 4) (by omega) (by simp only; omega) (by simp only; omega) ⟨0, [], m, v, upd H1 (N1, 1) .vnil⟩
  ⟨Nat.zero_le _, hrow.keep (uold ho2 _ _ _), by simp [gOL], Nat.le_refl _, (uold (by simp only; omega) _ _ _).trans h00, hmo, hml⟩
 obtain ⟨tm, Hs, ns⟩ := st
 simp only [List.nil_append, List.drop_zero] at htm hout hrun
 subst htm
 refine ⟨decide (restF same l m = []), pcl_body code65 ?_, fun h => by simpa using h⟩
 have hrl := encC_len (restF same l m)
 have hfin : restF same l m ≠ [] → mapD (reify Hs 5) (List.take ((restF same l m).length * 7) ((encC (restF same l m)).map AV.d)) = some (encC (restF same l m), []) := fun _ => by
  rw [List.take_of_length_le (by simp [hrl])]; exact mapD_encT _ _ _
 generalize restF same l m = rr at *
 have hz : ¬ rr = [] → ¬ rr.length = 0 := fun h e => h (List.length_eq_zero_iff.1 e)
 cases hrow with
 | vn o h =>
  simp only [List.length_nil, encC] at hclo
  by_cases hr : rr = []
  ·subst hr
   simp [restTmL, gVL, gOL] at hrun hout
   simp [plc_raw, ← hH0, hclo, hrun, hout, encC]
  ·have hfin := hfin hr
   have hz := hz hr
   simp [restTmL, gVL, gOL, hr] at hrun hout
   simp [plc_raw, ← hH0, hclo, hrun, hout, hr, hrl, hfin, encC]
 | row o _ cs h hv ht hb2 =>
  by_cases hr : rr = []
  ·subst hr
   simp [restTmL, gVL, gOL] at hrun hout
   simp [plc_raw, ← hH0, hclo, hrun, hout, encC]
  ·have hfin := hfin hr
   have hz := hz hr
   simp [restTmL, gVL, gOL, hr] at hrun hout
   simp [plc_raw, ← hH0, hclo, hrun, hout, hr, hrl, hfin, encC]
end Go.Proofs.Ytajilkmepjhkdaa.Am

/-
 The program's extension of an order to multisets. No condition.
-/
namespace Go.Proofs.Ytajilkmepjhkdaa.Am
open Go Go.Proofs
set_option maxHeartbeats 4000000
set_option maxRecDepth 20000
set_option linter.unusedSimpArgs false
set_option linter.unusedVariables false
theorem ext111L_ok {os : List D} (hos : wkL os = os) {s t : Lt} {k : Int} (h : pcl Cp 12 [.agg os, .agg s.enc, .agg t.enc] = some (.int .i64 k)) : pcl Cp 69 [.agg s.enc, .dptr [.fn (12 + 1000000001) [.agg os]], .dptr t.enc] = some (.bool (decide (k = 1))) := by
 refine pcl_body code69 ?_
 obtain ⟨n, ⟨v, fn, args⟩, ⟨v2, fn2, args2⟩⟩ := s
 obtain ⟨m, ⟨w, fm, brgs⟩, ⟨w2, fm2, brgs2⟩⟩ := t
 simp [Lt.enc, Term.enc] at h
 simp [Lt.enc, Term.enc, plc_raw, h, hos]
theorem ext11L_ok {os : List D} (hos : wkL os = os) {t : Lt} {a : List Lt} {tc : Lt → Lt → Int} (hn : a.length ≤ 1048576) (fl : Bool) (nl : Option Bool) (h : ∀ s ∈ a, pcl Cp 12 [.agg os, .agg s.enc, .agg t.enc] = some (.int .i64 (tc s t))) :
  pcl Cp 68 [.agg t.enc, .dptr [.sl (encC a) a.length fl nl], .dptr [.fn (12 + 1000000001) [.agg os]]] = some (.bool (!a.any fun s => decide (tc s t = 1))) := by
 have hc := conL_ok (g := 69) (caps := [.dptr [.fn (12 + 1000000001) [.agg os]], .dptr t.enc]) (fl := fl) (nl := nl) (p := fun s => decide (tc s t = 1)) (ts := a) (by omega) ⟨rfl, rfl, by decide⟩ (fun s hs => ext111L_ok hos (h s hs))
 refine pcl_body code68 ?_
 generalize (a.any fun s => decide (tc s t = 1)) = r at *
 obtain ⟨n, ⟨v, fn, args⟩, ⟨v2, fn2, args2⟩⟩ := t
 simp [Lt.enc, Term.enc] at hc
 simp [Lt.enc, Term.enc, plc_raw, hc]
theorem ext1L_ok {os : List D} (hos : wkL os = os) {a b : List Lt} {tc : Lt → Lt → Int} (hn : a.length ≤ 1048576) (hm : b.length ≤ 1048576) (fl2 : Bool) (nl nl2 : Option Bool) (h : ∀ s ∈ a, ∀ t ∈ b, pcl Cp 12 [.agg os, .agg s.enc, .agg t.enc] = some (.int .i64 (tc s t))) :
  pcl Cp 66 [.sl (encC a) a.length false nl, .sl (encC b) b.length fl2 nl2, .dptr [.fn (12 + 1000000001) [.agg os]]] = some (.bool (coversF (fun s t => decide (tc s t = 1)) a b)) := by
 have hc := conL_ok (g := 68) (caps := [.dptr [.sl (encC a) a.length false nl], .dptr [.fn (12 + 1000000001) [.agg os]]]) (fl := fl2) (nl := nl2) (p := fun t => !a.any fun s => decide (tc s t = 1)) (ts := b) (by omega) ⟨rfl, rfl, by decide⟩ (fun t ht => ext11L_ok hos hn false nl (fun s hs => h s hs t ht))
 have he : coversF (fun s t => decide (tc s t = 1)) a b = (decide (0 < a.length) && !(b.any fun t => !a.any fun s => decide (tc s t = 1))) := by
  unfold coversF
  congr 1
  ·cases a <;> rfl
  ·rw [List.not_any_eq_all_not]; simp
 rw [he]
 refine pcl_body code66 ?_
 generalize (b.any fun t => !a.any fun s => decide (tc s t = 1)) = r at *
 simp at hc
 by_cases ha : 0 < a.length
 ·have ha' : (0 : Int) < (a.length : Int) := by omega
  simp [-isNil, isNil_sl, isNil_int, isNil_bool, isNil_str, isNil_agg, isNil_dptr, isNil_fn, isNil_fna, isNil_osl, isNil_ptr, isNil_agga, plc_raw, ha, ha', hc]
 ·have ha' : ¬ (0 : Int) < (a.length : Int) := by omega
  simp [-isNil, isNil_sl, isNil_int, isNil_bool, isNil_str, isNil_agg, isNil_dptr, isNil_fn, isNil_fna, isNil_osl, isNil_ptr, isNil_agga, plc_raw, ha, ha']
theorem extL_ok {os : List D} (hos : wkL os = os) {same : Lt → Lt → Bool} (hsame : ∀ x y : Lt, x.ok → y.ok → pcl Cp 41 [.agg x.enc, .agg y.enc] = some (.bool (same x y))) {l m : List Lt} {tc : Lt → Lt → Int} (hll : l.length ≤ 1048576) (hml : m.length ≤ 1048576) (hlo : ∀ x ∈ l, x.ok) (hmo : ∀ x ∈ m, x.ok)
  (h1 : ∀ s ∈ l, ∀ t ∈ m, pcl Cp 12 [.agg os, .agg s.enc, .agg t.enc] = some (.int .i64 (tc s t))) (h2 : ∀ s ∈ m, ∀ t ∈ l, pcl Cp 12 [.agg os, .agg s.enc, .agg t.enc] = some (.int .i64 (tc s t))) (f1 f2 b1 b2 : Bool) (hb1 : b1 = true → l = []) (hb2 : b2 = true → m = []) :
  pcl Cp 43 [.sl (encC l) l.length f1 (some b1), .sl (encC m) m.length f2 (some b2), .fn 41 [], .fn (12 + 1000000001) [.agg os]] = some (.int .i64 (extF same (fun s t => decide (tc s t = 1)) l m)) := by
 obtain ⟨nx, hx, _⟩ := restL_ok hsame hll hml hlo hmo f1 f2 b2 (some b1) hb2
 obtain ⟨ny, hy, _⟩ := restL_ok hsame hml hll hmo hlo f2 f1 b1 (some b2) hb1
 have mx := rest_mem (same := same) l m
 have my := rest_mem (same := same) m l
 have lx : (restF same l m).length ≤ 1048576 := Nat.le_trans (rest_len l m) hll
 have ly : (restF same m l).length ≤ 1048576 := Nat.le_trans (rest_len m l) hml
 have c1 := ext1L_ok hos (a := restF same l m) (b := restF same m l) (tc := tc) lx ly false (some nx) (some ny) (fun s hs t ht => h1 s (mx s hs) t (my t ht))
 have c2 := ext1L_ok hos (a := restF same m l) (b := restF same l m) (tc := tc) ly lx false (some ny) (some nx) (fun s hs t ht => h2 s (my s hs) t (mx t ht))
 refine pcl_body code43 ?_
 unfold extF
 generalize restF same l m = x at *
 generalize restF same m l = y at *
 generalize coversF (fun s t => decide (tc s t = 1)) x y = r1 at *
 generalize coversF (fun s t => decide (tc s t = 1)) y x = r2 at *
 have hw : IntKind.i64.wrap ((x.length : Int) + (y.length : Int)) = (x.length : Int) + (y.length : Int) := wrap_i64 (by omega) (by omega)
 simp at c1 c2
 have hw0 : IntKind.i64.wrap 0 = 0 := by decide
 by_cases h0 : x.length + y.length = 0
 ·have h0' : (x.length : Int) + (y.length : Int) = 0 := by omega
  simp [-isNil, isNil_sl, isNil_int, isNil_bool, isNil_str, isNil_agg, isNil_dptr, isNil_fn, isNil_fna, isNil_osl, isNil_ptr, isNil_agga, plc_raw, hx, hy, hw, hw0, h0, h0']
 ·have h0' : ¬ (x.length : Int) + (y.length : Int) = 0 := by omega
  have h00 : x = [] → ¬ y = [] := fun e1 e2 => h0 (by rw [e1, e2]; rfl)
  cases r1
  ·cases r2 <;> simp [hw0, -isNil, isNil_sl, isNil_int, isNil_bool, isNil_str, isNil_agg, isNil_dptr, isNil_fn, isNil_fna, isNil_osl, isNil_ptr, isNil_agga, plc_raw, hx, hy, hw, h0, h0', c1, c2] <;> exact h00
  ·simp [hw0, -isNil, isNil_sl, isNil_int, isNil_bool, isNil_str, isNil_agg, isNil_dptr, isNil_fn, isNil_fna, isNil_osl, isNil_ptr, isNil_agga, plc_raw, hx, hy, hw, h0, h0', c1]; exact h00
end Go.Proofs.Ytajilkmepjhkdaa.Am


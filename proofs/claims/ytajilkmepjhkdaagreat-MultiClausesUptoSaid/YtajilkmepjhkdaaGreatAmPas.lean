/-
  Joined texts: AmRow, AmMu, AmUla, AmUlb, AmUlc, AmUlg, AmUlh, AmUta, AmUtb, AmUtc, AmUtg, AmUth, AmUtd, AmUte, AmUtf, AmNb, AmNc, AmNd, AmNf. No condition.
-/
import Derived.Test.YtajilkmepjhkdaaGreatAmPar
import Derived.ChangeArms
import Derived.WalkKit
import Derived.ProofKit
import Derived.OpenShut
import Derived.ShutString
import Derived.ChangeOld
import Derived.Below
import Derived.JoinedCond
/-
 What the statements' arguments are read as: signatures, terms, numbers, texts. No condition.
-/
namespace Go.Proofs.YtajilkmepjhkdaaGreat.Am
open Go Go.Proofs
open Go.ChangeShapes Go.WideShapes Go.ChangeAt Go.RowKit
open Go.ChangeMaps (open_string shut_string)
set_option linter.unusedVariables false
theorem row_own : ownKnob Tryz.prog.godebug = none := by kernel_rfl
theorem row_laidOut : laidOutB Tryz.prog = true := by kernel_rfl
theorem row_orders : Tryz.prog.follows .mixedOrders = true := by kernel_rfl
theorem row_pol : PolOk Tryz.prog plc := ⟨fun f g h => (by cases h), hole_ok⟩
theorem encL_flat : ∀ (ts : List Am.Term), encL ts = ts.flatMap Am.Term.enc
 | [] => rfl
 | t :: r => by simp [encL, encL_flat r]
theorem encS_flat (l : List ByteArray) : encS l = l.flatMap fun x => [D.str x] := by induction l <;> simp_all [encS]
theorem encI_flat (l : List Int) : encI l = l.flatMap fun x => [D.int .i64 x] := by induction l <;> simp_all [encI]
theorem okL_of : ∀ {ts : List Am.Term}, (∀ x ∈ ts, x.ok) → okL ts
 | [], _ => trivial
 | t :: r, h => ⟨h t (by simp), okL_of fun x hx => h x (by simp [hx])⟩
theorem sizeL_sum : ∀ (ts : List Am.Term), sizeL ts = (ts.map Am.Term.size).sum
 | [] => rfl
 | t :: r => by simp [sizeL, sizeL_sum r]
theorem reads_term : ∀ n, ReadsB Tryz.prog 42 n Am.Term.enc Am.Term.ok Am.Term.size
 | 0 => .zero
 | n + 1 => by
  have hs : ReadsB Tryz.prog 40 n (fun xs : List Am.Term => [D.sl (xs.flatMap Am.Term.enc) xs.length false none]) (fun xs => xs.length ≤ maxLen ∧ ∀ x ∈ xs, x.ok) (fun xs => (xs.map Am.Term.size).sum + 1) := by
   cases n with
   | zero => exact .zero
   | succ m => exact .slice Tryz.underlying40 (by rw [show Tryz.prog.cellsOf 42 = 3 from by kernel_rfl]; decide) ((reads_term (m + 1)).le (by omega))
  exact (ReadsB.struct3 (s0 := 1) (s1 := 1) (s2 := 1) Tryz.underlying42 (by kernel_rfl) ⟨by kernel_rfl, rfl⟩ ⟨by kernel_rfl, rfl⟩ ⟨by kernel_rfl, rfl⟩ (ReadsB.int Tryz.underlying3) (ReadsB.str Tryz.underlying9) hs).map (fun x => .mk x.1 x.2.1 x.2.2)
   (fun x => by simp [Am.Term.enc, encL_flat]) (fun x hx => ⟨by have := hx.2.2.1; simp [maxLen] at this; omega, okL_of hx.2.2.2⟩) (fun x => by simp only [Am.Term.size, sizeL_sum]; omega)
theorem sum_one {α : Type} (l : List α) : (l.map fun _ => 1).sum = l.length := by induction l <;> simp_all <;> omega
theorem reads_ints (n : Nat) : ReadsB Tryz.prog 23 n (fun l : List Int => [D.sl (encI l) l.length false none]) (fun l => l.length ≤ 9223372036854775807 ∧ ∀ x ∈ l, (Lit.int .i64 x).wf = true) (fun l => l.length) := by
 cases n with
 | zero => exact .zero
 | succ m =>
  exact (ReadsB.slice Tryz.underlying23 (by rw [show Tryz.prog.cellsOf 3 = 1 from by kernel_rfl]; decide) (ReadsB.int Tryz.underlying3)).map (fun l => l) (fun l => by rw [encI_flat]) (fun l hl => ⟨by have := hl.1; simp [maxLen] at this; omega, hl.2⟩) (fun l => by show l.length ≤ (l.map fun _ => 1).sum + 1; rw [sum_one]; omega)
theorem reads_strs (n : Nat) : ReadsB Tryz.prog 22 n (fun l : List ByteArray => [D.sl (encS l) l.length false none]) (fun l => l.length ≤ 9223372036854775807) (fun l => l.length) := by
 cases n with
 | zero => exact .zero
 | succ m =>
  exact (ReadsB.slice Tryz.underlying22 (by rw [show Tryz.prog.cellsOf 9 = 1 from by kernel_rfl]; decide) (ReadsB.str Tryz.underlying9)).map (fun l => l) (fun l => by rw [encS_flat]) (fun l hl => by have := hl.1; simp [maxLen] at this; omega) (fun l => by show l.length ≤ (l.map fun _ => 1).sum + 1; rw [sum_one]; omega)
theorem reads_sign (n : Nat) : ReadsB Tryz.prog 25 n Sg.enc Sg.ok (fun _ => 0) := by
 cases n with
 | zero => exact .zero
 | succ m =>
  exact (ReadsB.struct2 (s0 := 1) (s1 := 1) Tryz.underlying25 (by kernel_rfl) ⟨by kernel_rfl, rfl⟩ ⟨by kernel_rfl, rfl⟩ (reads_strs m) (reads_ints m)).map (fun x => ⟨x.1, x.2⟩) (fun x => rfl) (fun x hx => ⟨hx.1, hx.2.1⟩) (fun x => by simp)
section
variable {P : Program} {t : TypeId} {n : Nat} {α : Type}
theorem ReadsB.sliceN {e0 : TypeId} {enc : α → List D} {wf : α → Prop} {sz : α → Nat} (ht : P.underlying t = some (.slice e0)) (hsz : 0 < P.cellsOf e0) (h : ReadsB P e0 n enc wf sz) :
  ReadsB P t (n + 1) (fun xs : List α × Bool => [D.sl (xs.1.flatMap enc) xs.1.length false (some xs.2)]) (fun xs => xs.1.length ≤ maxLen ∧ (∀ x ∈ xs.1, wf x) ∧ (xs.2 = true → xs.1 = [])) (fun xs => (xs.1.map sz).sum + 1) := by
 intro H e w base sp held fuel hf cs d hd
 rcases DataW.trod_slice ht hd with ⟨rfl, rfl⟩ | ⟨a, len, cap, elems, rest, m, rfl, rfl, rfl, hba, hlc, hcm, hel, hat, _⟩
 ·exact ⟨([], true), .one1 (.sl [] 0 0 false (some true) none (fun _ => undef) (Nat.le_refl _) (fun _ => rfl) (fun j hj => by simp at hj) (fun j x hx => by simp at hx) (fun hne => absurd rfl hne) (fun b hb => by cases hb; rfl)) rfl, by simp [maxLen], bulk_pos _⟩
 ·have hone : ∀ i, i < len → ∃ x, (wf x ∧ ∀ y, elems[i]? = some y → sz x ≤ Rows.uptoBulk y.1) ∧ (enc x).length = P.cellsOf e0 ∧ ∀ k d, (enc x)[k]? = some d → ∃ v, w.cell? (a.add (i * P.cellsOf e0 + k)) = some v ∧ v.oneCell' = true ∧ RepD (· < w.heap.size) w d v := by
   intro i hi
   obtain ⟨y, hy⟩ : ∃ y, elems[i]? = some y := ⟨elems[i]'(by omega), by simp [hel, hi]⟩
   have hb := hat i hi
   rw [hy, Option.bind_eq_some_iff] at hb
   obtain ⟨cs', hc, htr⟩ := hb
   obtain ⟨x, hx, hwf, hbk⟩ := h H e w base sp held m (by omega) cs' y htr
   have hcell : cs'.length = P.cellsOf e0 ∧ ∀ k, k < P.cellsOf e0 → w.cell? ((a.add (i * P.cellsOf e0)).add k) = cs'[k]? := by
    unfold World.cells? at hc
    split at hc
    ·exact ⟨by simpa using mapM_some_length hc, fun k hk => mapM_some_get hc k k (by simp [hk])⟩
    ·cases hc
   refine ⟨x, ⟨hwf, fun y' hy' => by rw [hy] at hy'; cases hy'; exact hbk⟩, by rw [← hx.len]; exact hcell.1, fun k d hd => ?_⟩
   have hk : k < cs'.length := by rw [hx.len]; exact (List.getElem?_eq_some_iff.1 hd).1
   have hv : cs'[k]? = some (cs'.getD k undef) := by rw [List.getD_eq_getElem?_getD, List.getElem?_eq_getElem hk]; rfl
   refine ⟨cs'.getD k undef, ?_, hx.one k hk, hx.rep k d hd⟩
   rw [← add_add, hcell.2 k (by omega), hv]
  obtain ⟨xs, hxl, hx⟩ := choose_list len hone
  have hxsz : ∀ x ∈ xs, (enc x).length = P.cellsOf e0 := fun x hm => by
   obtain ⟨i, hi⟩ := List.mem_iff_getElem?.1 hm
   exact (hx i x hi).2.1
  have hget : ∀ j d, (xs.flatMap enc)[j]? = some d → ∃ v, w.cell? (a.add j) = some v ∧ v.oneCell' = true ∧ RepD (· < w.heap.size) w d v := fun j d hj => by
   obtain ⟨i, k, x, rfl, hk, hxi, hd⟩ := flatMap_at xs hxsz j d hj
   exact (hx i x hxi).2.2 k d hd
  have hgd : ∀ j, j < (xs.flatMap enc).length → ∃ v, w.cell? (a.add j) = some v ∧ v.oneCell' = true := fun j hj => by
   obtain ⟨v, h1, h2, _⟩ := hget j _ (List.getElem?_eq_getElem hj)
   exact ⟨v, h1, h2⟩
  refine ⟨(xs, false), .one1 ?_ rfl, ⟨by simp only; omega, (fun x hm => by
   obtain ⟨i, hi⟩ := List.mem_iff_getElem?.1 hm
   exact (hx i x hi).1.1), fun h => by cases h⟩, ?_⟩
  ·simp only
   rw [← hxl] at hlc ⊢
   refine .sl _ _ cap false (some false) (some a) (fun j => (w.cell? (a.add j)).getD undef) hlc (fun h => by cases h) (fun j hj => ?_) (fun j d hj => ?_) (fun hne => ?_) (fun b hb => by cases hb; rfl)
   ·obtain ⟨v, h1, h2⟩ := hgd j hj
    rw [h1]; exact h2
   ·obtain ⟨v, h1, _, h3⟩ := hget j d hj
    rw [h1]; exact h3
   ·refine ⟨a, rfl, ?_, fun j hj => ?_⟩
    ·obtain ⟨v, h1, _⟩ := hgd 0 (by cases hq : xs.flatMap enc with | nil => exact absurd hq hne | cons => simp)
     have := lt_of_cell h1
     rwa [add_block] at this
    ·obtain ⟨v, h1, _⟩ := hgd j hj
     rw [h1]; rfl
  ·have := sum_le (sz := sz) xs (elems.map (·.1)) (by simp; omega) (fun i x d h1 h2 => by
    simp only [List.getElem?_map, Option.map_eq_some_iff] at h2
    obtain ⟨y, hy, rfl⟩ := h2
    exact (hx i x h1).1.2 y hy)
   simp only [Rows.uptoBulk]; omega
end
theorem ReadsB.bool {P : Program} {t : TypeId} {n : Nat} (ht : P.underlying t = some .bool) : ReadsB P t n (fun x : Bool => [D.bool x]) (fun _ => True) (fun _ => 1) := by
 intro H e w base sp held fuel hf cs d h
 obtain ⟨b, rfl, _⟩ := DataW.trod_bool ht h
 exact ⟨b, .one1 (.bool _) rfl, trivial, bulk_pos _⟩
theorem reads_order (n : Nat) : ReadsB Tryz.prog 27 n Od.enc (fun o => o.g.ok) (fun _ => 0) := by
 cases n with
 | zero => exact .zero
 | succ m =>
  exact (ReadsB.struct2 (s0 := 1) (s1 := 2) Tryz.underlying27 (by kernel_rfl) ⟨by kernel_rfl, rfl⟩ ⟨by kernel_rfl, rfl⟩ (ReadsB.bool Tryz.underlying4) (reads_sign m)).map (fun x => ⟨x.1, x.2⟩) (fun x => rfl) (fun x hx => hx.2) (fun x => by simp)
theorem reads_lit (m : Nat) : ReadsB Tryz.prog 45 m Lt.enc Lt.ok (fun x => x.l.size + x.r.size) := by
 cases m with
 | zero => exact .zero
 | succ k =>
  exact (ReadsB.struct3 (s0 := 1) (s1 := 3) (s2 := 3) Tryz.underlying45 (by kernel_rfl) ⟨by kernel_rfl, rfl⟩ ⟨by kernel_rfl, rfl⟩ ⟨by kernel_rfl, rfl⟩ (ReadsB.bool Tryz.underlying4) (reads_term k) (reads_term k)).map (fun x => ⟨x.1, x.2.1, x.2.2⟩)
   (fun x => by simp [Lt.enc]) (fun x hx => ⟨hx.2.1, hx.2.2⟩) (fun x => by simp only []; omega)
theorem encC_flat (l : List Lt) : encC l = l.flatMap Lt.enc := by induction l <;> simp_all [encC]
theorem reads_clause (n : Nat) : ReadsB Tryz.prog 29 n (fun c : List Lt => [D.sl (encC c) c.length false none]) okC (fun c => (c.map fun x => x.l.size + x.r.size).sum + 1) := by
 cases n with
 | zero => exact .zero
 | succ m =>
  exact (ReadsB.slice Tryz.underlying29 (by rw [show Tryz.prog.cellsOf 45 = 7 from by kernel_rfl]; decide) (reads_lit m)).map (fun xs => xs) (fun xs => by rw [encC_flat]) (fun xs hx => ⟨by have := hx.1; simp [maxLen] at this; omega, hx.2⟩) (fun xs => Nat.le_refl _)
theorem clause_len {c : List Lt} {n : Nat} (h : (c.map fun x => x.l.size + x.r.size).sum ≤ n) : c.length ≤ n := by
 have : c.length ≤ (c.map fun x => x.l.size + x.r.size).sum := by
  clear h
  induction c with
  | nil => simp
  | cons b r ih =>
   have h1 : 1 ≤ b.l.size := by obtain ⟨_, ⟨_, _, _⟩, _⟩ := b; simp [Am.Term.size]
   simp only [List.map_cons, List.sum_cons, List.length_cons]; omega
 omega
theorem clause_le {c : List Lt} {n : Nat} (h : (c.map fun x => x.l.size + x.r.size).sum ≤ n) : ∀ x ∈ c, x.l.size ≤ n ∧ x.r.size ≤ n := by
 induction c with
 | nil => intro x hx; simp at hx
 | cons b r ih =>
  intro x hx
  simp only [List.map_cons, List.sum_cons] at h
  rcases List.mem_cons.1 hx with rfl | hx
  ·omega
  ·have := ih (by omega) x hx; omega
theorem reads_clausen (n : Nat) : ReadsB Tryz.prog 29 n (fun c : List Lt × Bool => [D.sl (encC c.1) c.1.length false (some c.2)]) (fun c => okC c.1 ∧ (c.2 = true → c.1 = [])) (fun c => (c.1.map fun x => x.l.size + x.r.size).sum + 1) := by
 cases n with
 | zero => exact .zero
 | succ m =>
  exact (ReadsB.sliceN Tryz.underlying29 (by rw [show Tryz.prog.cellsOf 45 = 7 from by kernel_rfl]; decide) (reads_lit m)).map (fun xs => xs) (fun xs => by rw [encC_flat]) (fun xs hx => ⟨⟨by have := hx.1; simp [maxLen] at this; omega, hx.2.1⟩, hx.2.2⟩) (fun xs => Nat.le_refl _)
theorem arg_slice {w : World} {a : Option Addr} {l c : Nat} {x : D} (h : CD w [x] (Value.slice a l c).cells.toList) : RepD (· < w.heap.size) w x (.slice a l c) := by
 have := h.rep 0 x rfl
 simpa [Value.cells] using this
theorem arg_agg {w : World} {cs : Array Value} {ds : List D} (h : CD w ds (Value.agg cs).cells.toList) : RepD (· < w.heap.size) w (.agg ds) (.agg cs) := by
 have hl := h.len
 simp only [Value.cells, Array.length_toList] at hl
 refine .agg ds cs hl (fun j hj => ?_) (fun j x hx => ?_)
 ·have := h.one j (by simpa [Value.cells] using hj)
  simpa [Value.cells] using this
 ·have := h.rep j x hx
  simpa [Value.cells] using this
end Go.Proofs.YtajilkmepjhkdaaGreat.Am

/-
 Multisets with marks: what is left of a list, as the document takes it away. No condition.
-/
namespace Go.Proofs.YtajilkmepjhkdaaGreat.Am
open Go Go.Proofs
set_option linter.unusedSimpArgs false
set_option linter.unusedVariables false
section
variable {α : Type} (same : α → α → Bool)
def unused : List α → List Bool → List α
 | y :: m, u :: us => if u then unused m us else y :: unused m us
 | _, _ => []
def stepU (x : α) : List α → List Bool → Option (List Bool)
 | y :: m, u :: us => if u = false ∧ same x y = true then some (true :: us) else (stepU x m us).map (u :: ·)
 | _, _ => none
def restU : List α → List α → List Bool → List α
 | [], _, _ => []
 | x :: r, m, us => match stepU same x m us with
  | none => x :: restU r m us
  | some us' => restU r m us'
variable {same}
theorem stepU_len {x : α} : ∀ {m : List α} {us us' : List Bool}, stepU same x m us = some us' → us'.length = us.length
 | [], _, _, h => by simp [stepU] at h
 | _ :: _, [], _, h => by simp [stepU] at h
 | y :: m, u :: us, us', h => by
  simp only [stepU] at h
  split at h
  ·cases h; rfl
  ·obtain ⟨w, hw, rfl⟩ := Option.map_eq_some_iff.1 h
   simp [stepU_len hw]
theorem stepU_none {x : α} : ∀ {m : List α} {us : List Bool}, us.length = m.length → stepU same x m us = none → (unused m us).findIdx? (same x) = none
 | [], us, _, _ => by cases us <;> rfl
 | y :: m, [], h, _ => by simp at h
 | y :: m, u :: us, hl, h => by
  simp only [stepU] at h
  split at h
  ·cases h
  ·rename_i hn
   have ih := stepU_none (by simpa using hl) (by simpa using h)
   cases u
   ·simp only [unused, Bool.false_eq_true, if_false, List.findIdx?_cons, ih]
    cases hs : same x y
    ·rfl
    ·exact absurd ⟨rfl, hs⟩ hn
   ·simpa [unused] using ih
theorem stepU_some {x : α} : ∀ {m : List α} {us us' : List Bool}, us.length = m.length → stepU same x m us = some us' → ∃ i, (unused m us).findIdx? (same x) = some i ∧ unused m us' = (unused m us).eraseIdx i
 | [], us, us', _, h => by simp [stepU] at h
 | y :: m, [], us', h, _ => by simp at h
 | y :: m, u :: us, us', hl, h => by
  simp only [stepU] at h
  split at h
  ·rename_i hy
   cases h
   refine ⟨0, ?_, ?_⟩
   ·simp [unused, hy.1, List.findIdx?_cons, hy.2]
   ·simp [unused, hy.1]
  ·rename_i hn
   obtain ⟨w, hw, rfl⟩ := Option.map_eq_some_iff.1 h
   obtain ⟨i, h1, h2⟩ := stepU_some (by simpa using hl) hw
   cases u
   ·refine ⟨i + 1, ?_, ?_⟩
    ·simp only [unused, Bool.false_eq_true, if_false, List.findIdx?_cons, h1]
     cases hs : same x y
     ·rfl
     ·exact absurd ⟨rfl, hs⟩ hn
    ·simp [unused, h2]
   ·exact ⟨i, by simpa [unused] using h1, by simpa [unused] using h2⟩
theorem restU_eq : ∀ (l m : List α) (us : List Bool), us.length = m.length → restU same l m us = restF same l (unused m us)
 | [], _, _, _ => rfl
 | x :: r, m, us, hl => by
  simp only [restU, restF]
  cases h : stepU same x m us with
  | none => rw [stepU_none hl h]; simp only [restU_eq r m us hl]
  | some us' =>
   obtain ⟨i, h1, h2⟩ := stepU_some hl h
   rw [h1]
   simp only [restU_eq r m us' (by rw [stepU_len h, hl]), h2]
theorem unused_all : ∀ (m : List α), unused m (List.replicate m.length false) = m
 | [] => rfl
 | y :: m => by simp [unused, List.replicate_succ, unused_all m]
theorem rest_replicate (l m : List α) : restU same l m (List.replicate m.length false) = restF same l m := by
 rw [restU_eq _ _ _ (by simp), unused_all]
end
theorem rest_len {α : Type} {same : α → α → Bool} : ∀ (l m : List α), (restF same l m).length ≤ l.length
 | [], _ => by simp [restF]
 | x :: r, m => by
  simp only [restF]
  cases m.findIdx? (same x) with
  | none => have := rest_len (same := same) r m; simp; exact this
  | some i => have := rest_len (same := same) r (m.eraseIdx i); simp; omega
theorem isNil_sl (xs : List D) (n : Nat) (nl : Option Bool) : isNil (.d (.sl xs n false nl)) = false := by unfold isNil; split <;> simp_all
theorem isNil_nilfn : isNil (.d .nilfn) = false := rfl
theorem isNil_int (k : IntKind) (n : Int) : isNil (.d (.int k n)) = false := rfl
theorem isNil_bool (b : Bool) : isNil (.d (.bool b)) = false := rfl
theorem isNil_str (b : ByteArray) : isNil (.d (.str b)) = false := rfl
theorem isNil_agg (l : List D) : isNil (.d (.agg l)) = false := rfl
theorem isNil_dptr (l : List D) : isNil (.d (.dptr l)) = false := rfl
theorem isNil_fn (f : FuncId) (l : List D) : isNil (.d (.fn f l)) = false := rfl
theorem isNil_fna (f : FuncId) (l : List AV) : isNil (.fn f l) = false := rfl
theorem isNil_osl (o : Oid) (a b c d : Nat) : isNil (.osl o a b c d) = false := rfl
theorem isNil_ptr (o : Oid) (a b : Nat) : isNil (.ptr o a b) = false := rfl
theorem isNil_agga (l : List AV) : isNil (.agg l) = false := rfl
theorem allD_mapD : ∀ l : List D, allD (l.map .d) = some l
 | [] => rfl
 | x :: r => by simp [allD, allD_mapD r]
theorem uold {o : Oid} {i : Nat} (h : o.1 < i) (j : Nat) (x : Am.Obj) (H : Hp) : upd H (i, j) x o = H o := by
 simp only [upd]; rw [if_neg]; intro e; rw [e] at h; simp at h
theorem une {H : Hp} {o p : Oid} {x : Am.Obj} (h : p ≠ o) : Am.upd H o x p = H p := by simp only [Am.upd]; rw [if_neg h]
theorem blt {k : Nat} {H : Hp} {p : Oid} (h : p.1 < k) : below k H p = H p := by simp only [below]; rw [if_pos h]
end Go.Proofs.YtajilkmepjhkdaaGreat.Am

/-
 Rows of things asked one by one, by a function with what it captured. No condition.
-/
namespace Go.Proofs.YtajilkmepjhkdaaGreat.Am
open Go Go.Proofs
set_option maxHeartbeats 4000000
set_option maxRecDepth 20000
set_option linter.unusedSimpArgs false
set_option linter.unusedVariables false
theorem idxL_loop (g : FuncId) (caps : List D) (fl : Bool) (nl : Option Bool) (p : Lt → Bool) (ts : List Lt) (hn : ts.length ≤ 9223372036854775807) (hg : plc.raw g = false ∧ plc.weak g = false ∧ g < 1000000000) (hrec : ∀ x ∈ ts, pcl Cp g (.agg x.enc :: caps) = some (.bool (p x))) :
  ∃ e t, aloop Tryz.prog plc b59_0 ⟨[true, true, false, false, true, false, false, true, true, false, false, false, false, false, false, false, false, false, false], some 4⟩ ⟨[.d (.sl (encC ts) ts.length fl nl), .d (.fn g caps), .junk, .junk, .d (.int .i64 0), .junk, .junk, .d (.int .i64 ts.length), .d (.int .i64 0), .junk, .junk, .junk, .junk, .junk, .junk, .junk, .junk, .junk, .junk], fun _ => none, 4⟩ = some (e, t) ∧
   (match fromI p ts 0 with | some k => AtRet 4 (.d (.int .i64 k)) e t | none => AtExit 0 [.d (.sl (encC ts) ts.length fl nl), .d (.fn g caps), .junk, .junk, .d (.int .i64 0), .junk, .junk, .d (.int .i64 ts.length), .d (.int .i64 ts.length), .junk, .junk, .junk, .junk, .junk, .junk, .junk, .junk, .junk, .junk] (fun _ => none) e t) := by
 refine loop_rule (b := 4) (tm := fun (i : Nat) => [.d (.sl (encC ts) ts.length fl nl), .d (.fn g caps), .junk, .junk, .d (.int .i64 0), .junk, .junk, .d (.int .i64 ts.length), .d (.int .i64 i), .junk, .junk, .junk, .junk, .junk, .junk, .junk, .junk, .junk, .junk]) (Hf := fun _ => fun _ => none)
  (I := fun i => i ≤ ts.length) (μ := fun i => ts.length - i) (res := fun i => fromI p ts i) (R := fun o e t => match o with | some k => AtRet 4 (.d (.int .i64 k)) e t | none => AtExit 0 [.d (.sl (encC ts) ts.length fl nl), .d (.fn g caps), .junk, .junk, .d (.int .i64 0), .junk, .junk, .d (.int .i64 ts.length), .d (.int .i64 ts.length), .junk, .junk, .junk, .junk, .junk, .junk, .junk, .junk, .junk, .junk] (fun _ => none) e t)
  (fun i nx hi => ?_) 0 (Nat.zero_le _)
 rcases Nat.lt_or_ge i ts.length with hl | hl
 ·obtain ⟨n, v, fn, args, v2, fn2, args2, a⟩ := atC_ok hn hl
  have hcall := hrec _ a.mem
  have hget : ts[i] = .mk n (.mk v fn args) (.mk v2 fn2 args2) := a.get
  simp [Lt.enc, Term.enc] at hcall
  conv => arg 9; arg 4; unfold b59_0
  cases hp : p (.mk n (.mk v fn args) (.mk v2 fn2 args2)) <;> rw [hp] at hcall <;> simp [a.lti, a.sz, a.ltm, a.cells, a.le7, hg.1, hg.2.1, hg.2.2, -plc_weak, hcall, a.w, mapD_encT]
  ·exact .next (i + 1) (by omega) rfl rfl hl (by omega) (by rw [fromI_step hl, hget, hp]; rfl)
  ·exact .fin _ _ (by rw [fromI_step hl, hget, hp]; exact ⟨rfl, rfl⟩)
 ·obtain rfl : i = ts.length := Nat.le_antisymm hi hl
  simp [b59_0]
  exact .fin _ _ (by rw [fromI_end]; exact .mk)
theorem idxL_ok {g : FuncId} {caps : List D} {fl : Bool} {nl : Option Bool} {p : Lt → Bool} {ts : List Lt} (hn : ts.length ≤ 9223372036854775807) (hg : plc.raw g = false ∧ plc.weak g = false ∧ g < 1000000000) (hrec : ∀ x ∈ ts, pcl Cp g (.agg x.enc :: caps) = some (.bool (p x))) :
  pcl Cp 59 [.sl (encC ts) ts.length fl nl, .fn g caps] = some (.int .i64 (match ts.findIdx? p with | some k => k | none => -1)) := by
 obtain ⟨e, t, h1, h2⟩ := idxL_loop g caps fl nl p ts hn hg hrec
 refine pcl_body code59 ?_
 simp [fromI_zero] at h1 h2
 simp [h1]
 revert h2
 cases ts.findIdx? p with
 | some k => rintro ⟨rfl, h⟩; simp [h]
 | none => rintro ⟨rfl, nx, rfl⟩; simp
theorem conL_ok {g : FuncId} {caps : List D} {fl : Bool} {nl : Option Bool} {p : Lt → Bool} {ts : List Lt} (hn : ts.length ≤ 9223372036854775807) (hg : plc.raw g = false ∧ plc.weak g = false ∧ g < 1000000000) (hrec : ∀ x ∈ ts, pcl Cp g (.agg x.enc :: caps) = some (.bool (p x))) :
  pcl Cp 36 [.sl (encC ts) ts.length fl nl, .fn g caps] = some (.bool (ts.any p)) := by
 refine pcl_body code36 ?_
 have h := idxL_ok (fl := fl) (nl := nl) hn hg hrec
 rw [any_findIdx]
 cases hq : ts.findIdx? p <;> rw [hq] at h <;> simp [plc_raw, h]
end Go.Proofs.YtajilkmepjhkdaaGreat.Am

/-
 Rows of things copied, and taken away from. No condition.
-/
namespace Go.Proofs.YtajilkmepjhkdaaGreat.Am
open Go Go.Proofs
set_option maxHeartbeats 4000000
set_option maxRecDepth 20000
set_option linter.unusedSimpArgs false
set_option linter.unusedVariables false
theorem takeL : ∀ (l : List Lt) (n : Nat), (encC l).take (n * 7) = encC (l.take n)
 | [], n => by simp [encC]
 | x :: r, 0 => by simp [encC]
 | x :: r, n + 1 => by
  have := x.enc_len
  simp only [encC, List.take_succ_cons]
  rw [List.take_append, List.take_of_length_le (by omega), show (n + 1) * 7 - x.enc.length = n * 7 by omega, takeL r n]
theorem dropL : ∀ (l : List Lt) (n : Nat), (encC l).drop (n * 7) = encC (l.drop n)
 | [], n => by simp [encC]
 | x :: r, 0 => by simp
 | x :: r, n + 1 => by
  have := x.enc_len
  simp only [encC, List.drop_succ_cons]
  rw [List.drop_append, List.drop_eq_nil_of_le (by omega), List.nil_append, show (n + 1) * 7 - x.enc.length = n * 7 by omega, dropL r n]
inductive RowL (H : Hp) : AV → List Lt → Oid → Prop
 | vn (o : Oid) (h : H o = some .vnil) : RowL H (.osl o 0 0 1 0) [] o
 | row (o : Oid) (l : List Lt) (cs : List D) (h : H o = some (.grow (cs.map .d))) (hv : l.length * 7 ≤ cs.length) (ht : cs.take (l.length * 7) = encC l) (hb : cs.length ≤ 68719476736) : RowL H (.osl o 0 l.length 7 cs.length) l o
theorem RowL.keep {H H' : Hp} {v : AV} {l : List Lt} {o : Oid} (h : RowL H v l o) (k : H' o = H o) : RowL H' v l o := by
 cases h with
 | vn o h => exact .vn o (k.trans h)
 | row o l cs h hv ht hb => exact .row o l cs (k.trans h) hv ht hb
theorem cloL_ok (H : Hp) (nx : Nat) (fl b : Bool) (l : List Lt) (hl : l.length ≤ 1048576) (hb : b = true → l = []) : ∃ v H' nx' o, acall Tryz.prog plc 58 [.d (.sl (encC l) l.length fl (some b))] H nx = some (v, H', nx') ∧ RowL H' v l o ∧ nx ≤ nx' ∧ nx ≤ o.1 ∧ o.1 < nx' ∧ ∀ p : Oid, p.1 < nx → H' p = H p := by
 cases b with
 | true =>
  rw [hb rfl]
  refine ⟨.osl (nx + 3, 1) 0 0 1 0, upd (upd H (nx, 1) .vnil) (nx + 3, 1) .vnil, nx + 4, (nx + 3, 1), acall_body code58 ?_, .vn _ (upd_same _ _ _), by omega, by simp only; omega, by simp only; omega, fun p hp => by rw [uold (by omega), uold hp]⟩
  simp [encC]
 | false =>
  have hs : ∀ H' : Hp, srcCells Tryz.prog H' 7 28 (.d (.sl (encC l) l.length fl (some false))) = some (encC l, l.length, []) := fun H' => by simp [srcCells, srcRaw, encC_len]
  have i10 : (encC l).length = l.length * 7 := encC_len l
  have i11 : ¬ 68719476736 < l.length * 7 := by omega
  have hrow := RowL.row (H := upd (upd H (nx, 1) .vnil) (nx + 3, 0) (.grow ((encC l).map .d))) (nx + 3, 0) l (encC l) (upd_same _ _ _) (by omega) (List.take_of_length_le (by omega)) (by omega)
  rw [i10] at hrow
  refine ⟨_, _, nx + 7, (nx + 3, 0), acall_body code58 ?_, hrow, by omega, by simp only; omega, by simp only; omega, fun p hp => by rw [uold (by omega), uold hp]⟩
  by_cases hr : l = []
  ·subst hr
   simp [encC] at hs
   simp [Nat.add_assoc, appendO, growO, hs, encC]
  ·have i12 : ¬ l.length = 0 := fun e => hr (List.length_eq_zero_iff.1 e)
   have i13 : ¬ encC l = [] := fun e => by rw [e] at i10; simp at i10; omega
   simp [Nat.add_assoc, appendO, growO, hs, i10, i11, i12, i13, hr]
theorem delL_ok {H : Hp} {o : Oid} {a b : List Lt} {q : Lt} {cs : List D} (hc : H o = some (.grow (cs.map .d))) (hv : (a ++ q :: b).length * 7 ≤ cs.length) (ht : cs.take ((a ++ q :: b).length * 7) = encC (a ++ q :: b)) (hb : cs.length ≤ 68719476736) (nx : Nat) (ho : o.1 < nx) (n : Nat) (hn : n = a.length + b.length) :
  ∃ (cs' : List D) (H' : Hp) (nx' : Nat), acall Tryz.prog plc 61 [.osl o 0 (n + 1) 7 cs.length, .d (.int .i64 a.length), .d (.int .i64 (a.length + 1))] H nx = some (.osl o 0 n 7 cs.length, H', nx') ∧ nx ≤ nx' ∧ H' o = some (.grow (cs'.map .d)) ∧ (∀ p : Oid, p.1 < nx → p ≠ o → H' p = H p) ∧ cs'.length = cs.length ∧ cs'.take ((a ++ b).length * 7) = encC (a ++ b) := by
 have hL : (a ++ q :: b).length = a.length + b.length + 1 := by simp; omega
 rw [hL] at hv ht
 obtain ⟨cs1, hcs1⟩ : ∃ cs1, cs1 = cs.take (a.length * 7) ++ (encC b ++ cs.drop (a.length * 7 + b.length * 7)) := ⟨_, rfl⟩
 have hl1 : cs1.length = cs.length := by rw [hcs1]; simp [encC_len]; omega
 obtain ⟨cs2, hcs2⟩ : ∃ cs2, cs2 = cs1.take (n * 7) ++ ([D.bool false, .int .i64 0, .str (ByteArray.mk #[]), .sl [] 0 true (some true), .int .i64 0, .str (ByteArray.mk #[]), .sl [] 0 true (some true)] ++ cs1.drop (n * 7 + 7)) := ⟨_, rfl⟩
 have hl2 : cs2.length = cs.length := by rw [hcs2]; simp [hl1]; omega
 have hta : cs.take (a.length * 7) = encC a := by
  have := congrArg (List.take (a.length * 7)) ht
  rw [List.take_take, Nat.min_eq_left (by omega), takeL] at this
  simpa using this
 have htb : (cs.drop ((a.length + 1) * 7)).take (b.length * 7) = encC b := by
  have := congrArg (List.drop ((a.length + 1) * 7)) ht
  rw [List.drop_take, dropL] at this
  rw [show (a.length + b.length + 1) * 7 - (a.length + 1) * 7 = b.length * 7 by omega] at this
  rw [this]; simp
 have hsrc : ∀ H' : Hp, H' o = some (.grow (cs.map .d)) → srcCells Tryz.prog H' 7 28 (.osl o ((a.length + 1) * 7) b.length 7 cs.length) = some (encC b, b.length, []) := fun H' hc => by
  have hall : allD (((cs.map AV.d).drop ((a.length + 1) * 7)).take (b.length * 7)) = some (encC b) := by
   rw [← List.map_drop, ← List.map_take, htb]; exact allD_mapD _
  have h5 : (a.length + 1) * 7 + b.length * 7 ≤ cs.length := by omega
  simp [srcCells, srcRaw, hc, hall, h5, -allD]
 have happ : ∀ (H' : Hp) (id : Nat), H' o = some (.grow (cs.map .d)) → appendO Tryz.prog H' id 28 28 (.osl o 0 a.length 7 cs.length) (.osl o ((a.length + 1) * 7) b.length 7 cs.length) = some (.osl o 0 n 7 cs.length, upd H' o (.grow (cs1.map .d))) := fun H' id hc => by
  have hs := hsrc H' hc
  have i7 : a.length * 7 ≤ cs.length := by omega
  have i8 : a.length * 7 + b.length * 7 ≤ cs.length := by omega
  have i10 : (encC b).length = b.length * 7 := encC_len b
  have i11 : ¬ 68719476736 < b.length * 7 := by omega
  by_cases hbn : b = []
  ·have e1 : cs1 = cs := by rw [hcs1, hbn]; simp [encC]
   have e2 : upd H' o (.grow (cs.map .d)) = H' := by
    funext p; simp only [upd]; split
    ·rename_i h; rw [h, hc]
    ·rfl
   have e3 : n = a.length := by rw [hn, hbn]; simp
   rw [e1, e2, e3]
   rw [hbn] at hs
   simp only [List.length_nil, encC] at hs
   simp [appendO, hs, hc, i7, hb, hbn]
  ·rw [hcs1, hn]
   simp [appendO, growO, hs, hc, i7, i8, hb, i10, i11, hbn]
 have f0 : ∀ j x, upd H (nx, j) x o = H o := fun j x => uold ho _ _ _
 have f1 : ∀ k j x H', upd H' (nx + k, j) x o = H' o := fun k j x H' => uold (by omega) _ _ _
 refine ⟨cs2, upd (upd H (nx, 1) .vnil) o (.grow (cs2.map .d)), nx + 29, acall_body code61 ?_, by omega, upd_same _ _ _, fun p hp hq => by rw [une hq, uold hp], hl2, ?_⟩
 ·have i1 : ¬ ((a.length : Int) = (a.length : Int) + 1) := by omega
  have i2 : (0 : Int) ≤ (a.length : Int) + 1 := by omega
  have i3 : (0 : Int) ≤ (n : Int) + 1 := by omega
  have i5 : a.length ≤ n := by omega
  have i6 : ¬ a.length = n + 1 := by omega
  have i7 : a.length * 7 ≤ cs.length := by omega
  have i8 : n - a.length = b.length := by omega
  have i9 : (n + 1) * 7 ≤ cs.length := by omega
  have i10 : n * 7 + 7 ≤ cs.length := by omega
  rw [hcs2]
  simp [plc_raw, Nat.add_assoc, hc, f0, f1, i1, i2, i3, i5, i6, i7, i8, i9, i10, happ, hl1]
 ·have e1 : (encC (a ++ b)).length = n * 7 := by rw [encC_len]; simp [hn]
  have e2 : (a ++ b).length * 7 = n * 7 := by simp [hn]
  rw [hcs2, e2, List.take_append_of_le_length (by simp [hl1]; omega), List.take_take, Nat.min_self, hcs1, hta, ← List.append_assoc, ← encC_append, List.take_append_of_le_length (by omega), List.take_of_length_le (by omega)]
theorem splitL {l : List Lt} {p : Lt → Bool} {i : Nat} (h : l.findIdx? p = some i) : ∃ a q b, l = a ++ q :: b ∧ a.length = i ∧ l.eraseIdx i = a ++ b := by
 have hi : i < l.length := (List.findIdx?_eq_some_iff_findIdx_eq.1 h).1
 refine ⟨l.take i, l[i], l.drop (i + 1), ?_, by simp; omega, ?_⟩
 ·rw [← List.drop_eq_getElem_cons hi, List.take_append_drop]
 ·rw [List.eraseIdx_eq_take_drop_succ]
theorem rest1L_ok {x y : Lt} {b : Bool} (h : pcl Cp 16 [.agg x.enc, .agg y.enc] = some (.bool b)) : pcl Cp 60 [.agg y.enc, .dptr [.fn 16 []], .dptr x.enc] = some (.bool b) := by
 refine pcl_body code60 ?_
 obtain ⟨n, ⟨v, fn, args⟩, ⟨v2, fn2, args2⟩⟩ := x
 obtain ⟨m, ⟨w, fm, brgs⟩, ⟨w2, fm2, brgs2⟩⟩ := y
 simp [Lt.enc, Term.enc] at h
 simp [Lt.enc, Term.enc, plc_raw, h]
end Go.Proofs.YtajilkmepjhkdaaGreat.Am

/-
 What is left of a row behind taking away another one. No condition.
-/
namespace Go.Proofs.YtajilkmepjhkdaaGreat.Am
open Go Go.Proofs
set_option maxHeartbeats 4000000
set_option maxRecDepth 20000
set_option linter.unusedSimpArgs false
set_option linter.unusedVariables false
def gOL (l : List Lt) : Am.Obj := if l = [] then .vnil else .grow ((encC l).map .d)
def gVL (o : Oid) (l : List Lt) : AV := if l = [] then .osl o 0 0 1 0 else .osl o 0 l.length 7 (l.length * 7)
theorem gVL_app (o : Oid) (l : List Lt) (x : Lt) : gVL o (l ++ [x]) = .osl o 0 (l.length + 1) 7 ((l.length + 1) * 7) := by simp [gVL]
theorem append_gL {H : Hp} {id : Nat} {o o2 : Oid} {l : List Lt} {x : Lt} (h : H o = some (gOL l)) (h2 : H o2 = some (.cells (x.enc.map .d))) (hl : l.length ≤ 1048576) :
  appendO Tryz.prog H id 28 28 (gVL o l) (.osl o2 0 1 7 7) = some (gVL o (l ++ [x]), upd H o (gOL (l ++ [x]))) := by
 have hx := x.enc_len
 have e1 : encC [x] = x.enc := by simp [encC]
 cases l with
 | nil =>
  simp only [gOL, if_true] at h
  have hs : srcCells Tryz.prog H 7 28 (.osl o2 0 1 7 7) = some (x.enc, 1, []) := by
   have h3 : List.take 7 (x.enc.map AV.d) = x.enc.map AV.d := List.take_of_length_le (by simp [hx])
   simp [srcCells, srcRaw, h2, hx, h3, allD_mapD, -allD]
  simp [appendO, hs, h, gVL, gOL, growO, e1, hx]
 | cons y r =>
  simp [gOL] at h
  have hs : srcCells Tryz.prog H 7 28 (.osl o2 0 1 7 7) = some (x.enc, 1, []) := by
   have h3 : List.take 7 (x.enc.map AV.d) = x.enc.map AV.d := List.take_of_length_le (by simp [hx])
   simp [srcCells, srcRaw, h2, hx, h3, allD_mapD, -allD]
  have hel2 : (encC (y :: r)).length = (r.length + 1) * 7 := by simpa using encC_len (y :: r)
  have hle : ¬ ((r.length + 1) * 7 + 7 ≤ (r.length + 1) * 7) := by omega
  simp only [List.length_cons] at hl
  have h4 : (r.length + 1) * 7 ≤ 68719476736 := by omega
  have h5 : encC (y :: (r ++ [x])) = encC (y :: r) ++ x.enc := by rw [show y :: (r ++ [x]) = (y :: r) ++ [x] from rfl, encC_append, e1]
  have i5 : ¬ (r.length + 2) * 7 ≤ (r.length + 1) * 7 := by omega
  have i4 : (r.length + 1) * 7 + 7 = (r.length + 2) * 7 := by omega
  have h6 : List.take ((r.length + 1) * 7) ((encC (y :: r)).map AV.d) = (encC (y :: r)).map AV.d := List.take_of_length_le (by simp [hel2])
  generalize encC (y :: r) = EE at *
  simp [appendO, hs, h, gVL, gOL, growO, hel2, hle, h4, h5, hx, i4, i5, h6]
theorem reify_rowL {H : Hp} {v : AV} {l : List Lt} {o : Oid} (h : RowL H v l o) : ∃ nl is, ∀ n, reify H (n + 1) v = some (.sl (encC l) l.length false nl, is) := by
 cases h with
 | vn o h => exact ⟨_, _, fun n => by simp [reify, h, Am.Obj.isRow, Am.Obj.cs, mapD, encC, nlOf]; exact ⟨rfl, rfl⟩⟩
 | row o l cs h hv ht hb =>
  have : List.take (l.length * 7) (cs.map AV.d) = (encC l).map .d := by rw [← List.map_take, ht]
  exact ⟨_, _, fun n => by simp [reify, h, Am.Obj.isRow, Am.Obj.cs, hv, this, mapD_encT, nlOf]; exact ⟨rfl, rfl⟩⟩
end Go.Proofs.YtajilkmepjhkdaaGreat.Am

/-
 What is left of a row, as the document takes it away: marks. No condition.
-/
namespace Go.Proofs.YtajilkmepjhkdaaGreat.Am
open Go Go.Proofs
set_option maxHeartbeats 4000000
set_option maxRecDepth 20000
set_option linter.unusedSimpArgs false
set_option linter.unusedVariables false
structure WiL where
 k : Nat
 us : List Bool
 gone : Bool
 Hs : Hp
structure WiIL (N : Nat) (H : Hp) (oU : Oid) (m : List Lt) (us : List Bool) (s : WiL) : Prop where
 k : s.k ≤ m.length
 u : s.us.length = m.length
 e : s.gone = false → s.us = us
 h : ∀ p : Oid, p.1 < N → s.Hs p = upd H oU (.cells (s.us.map fun b => .d (.bool b))) p
abbrev woTmL (l m : List Lt) (f1 f2 : Bool) (n1 n2 : Option Bool) (v4 v5 v6 : AV) (i : Nat) (gone : AV) (k : AV) : List AV := [.d (.sl (encC l) l.length f1 n1), .d (.sl (encC m) m.length f2 n2), .junk, .junk, v4, v5, v6, .d (.int .i64 i), gone, k, .junk, .junk, .junk, .junk, .junk, .junk, .junk, .junk, .junk, .junk, .junk, .junk, .junk, .junk, .junk, .junk, .junk, .junk, .junk, .junk, .junk, .junk, .junk, .junk, .junk, .junk, .junk, .junk, .junk, .junk, .junk, .junk, .junk, .junk, .junk, .junk, .junk, .junk, .junk, .junk, .junk, .junk, .junk, .junk, .junk, .junk, .junk, .junk]
abbrev usOL (us : List Bool) : Am.Obj := .cells (us.map fun b => .d (.bool b))
def woResL (same : Lt → Lt → Bool) (x : Lt) (m : List Lt) (s : WiL) : Option (List Bool) :=
 if s.gone then some s.us else match stepU same x (m.drop s.k) (s.us.drop s.k) with | none => none | some w => some (s.us.take s.k ++ w)
def woEndL (N : Nat) (H : Hp) (oU : Oid) (tm : AV → AV → List AV) (us : List Bool) (r : Option (List Bool)) (e : Ex) (st : St) : Prop :=
 N ≤ st.nx ∧ e = .exit 2 ∧ (∀ p : Oid, p.1 < N → st.hp p = upd H oU (usOL (r.getD us)) p) ∧ ∃ k, st.tm = tm (.d (.bool r.isSome)) (.d (.int .i64 k))
theorem woL_in (same : Lt → Lt → Bool) (hsame : ∀ x y : Lt, x.ok → y.ok → pcl Cp 41 [.agg x.enc, .agg y.enc] = some (.bool (same x y))) {l m : List Lt} (hll : l.length ≤ 1048576) (hml : m.length ≤ 1048576) (hlo : ∀ x ∈ l, x.ok) (hmo : ∀ x ∈ m, x.ok) (f1 f2 : Bool) (n1 n2 : Option Bool) {N i : Nat} {oU : Oid} (hU : oU.1 < N) (H : Hp) (v4 v5 : AV) (hi : i < l.length) (us : List Bool) (hus : us.length = m.length) :
  ∃ e st, aloop Tryz.prog plc b19_0 ⟨[true, true, false, false, true, true, true, true, true, true, false, false, false, false, false, false, false, true, true, false, false, false, false, false, false, false, false, false, false, false, false, false, false, false, false, false, false, false, false, false, false, false, false, false, false, false, false, false, true, true, true, true, true, true, true, true, true, true], some N⟩ ⟨woTmL l m f1 f2 n1 n2 v4 v5 (.osl oU 0 m.length 1 m.length) i (.d (.bool false)) (.d (.int .i64 0)), upd H oU (usOL us), N⟩ = some (e, st) ∧
   woEndL N H oU (woTmL l m f1 f2 n1 n2 v4 v5 (.osl oU 0 m.length 1 m.length) i) us (stepU same l[i] m us) e st := by
 have h := loop_rule (P := Tryz.prog) (pol := plc) (c := b19_0) (m := ⟨[true, true, false, false, true, true, true, true, true, true, false, false, false, false, false, false, false, true, true, false, false, false, false, false, false, false, false, false, false, false, false, false, false, false, false, false, false, false, false, false, false, false, false, false, false, false, false, false, true, true, true, true, true, true, true, true, true, true], some N⟩)
  (b := N) (tm := fun (s : WiL) => woTmL l m f1 f2 n1 n2 v4 v5 (.osl oU 0 m.length 1 m.length) i (.d (.bool s.gone)) (.d (.int .i64 s.k))) (Hf := fun s => s.Hs)
  (I := WiIL N H oU m us) (μ := fun s => m.length - s.k + (if s.gone then 0 else 1)) (res := woResL same l[i] m) (R := woEndL N H oU (woTmL l m f1 f2 n1 n2 v4 v5 (.osl oU 0 m.length 1 m.length) i) us)
  (fun s nx1 hI => by
   obtain ⟨hk, hu, hus, hH⟩ := hI
   have hHu : s.Hs oU = some (usOL s.us) := by rw [hH _ hU]; exact upd_same _ _ _
   cases hg : s.gone with
   | true =>
    have hr : woResL same l[i] m s = some s.us := by simp [woResL, hg]
    rcases Nat.lt_or_ge s.k m.length with hl | hl
    ·simp [b19_0, hg, hl]
     refine .fin _ _ ⟨by simp only; omega, rfl, fun p hp => ?_, s.k, ?_⟩
     ·rw [hr]; simp only [Option.getD_some]; rw [blt hp]; exact hH p hp
     ·rw [hr]; rfl
    ·simp [b19_0, hg, Nat.not_lt.2 hl]
     refine .fin _ _ ⟨by simp only; omega, rfl, fun p hp => ?_, s.k, ?_⟩
     ·rw [hr]; simp only [Option.getD_some]; rw [blt hp]; exact hH p hp
     ·rw [hr]; rfl
   | false =>
    obtain rfl := hus hg
    rcases Nat.lt_or_ge s.k m.length with hl | hl
    ·have hku : s.k < s.us.length := by omega
     have hdu : s.us.drop s.k = s.us[s.k] :: s.us.drop (s.k + 1) := List.drop_eq_getElem_cons hku
     have hmd : m.drop s.k = m[s.k] :: m.drop (s.k + 1) := List.drop_eq_getElem_cons hl
     have hru : List.take 1 (List.drop s.k (s.us.map fun b => AV.d (.bool b))) = [.d (.bool s.us[s.k])] := by
      rw [← List.map_drop, hdu]; rfl
     have hst : woResL same l[i] m s = (if s.us[s.k] = false ∧ same l[i] m[s.k] = true then some (s.us.take s.k ++ true :: s.us.drop (s.k + 1)) else woResL same l[i] m { s with k := s.k + 1 }) := by
      simp only [woResL, hg, Bool.false_eq_true, if_false]
      rw [hmd, hdu]
      simp only [stepU]
      by_cases hc : s.us[s.k] = false ∧ same l[i] m[s.k] = true
      ·rw [if_pos hc, if_pos hc]
      ·rw [if_neg hc, if_neg hc]
       have ht : s.us.take (s.k + 1) = s.us.take s.k ++ [s.us[s.k]] := (List.take_append_getElem hku).symm
       rw [ht]
       cases stepU same l[i] (m.drop (s.k + 1)) (s.us.drop (s.k + 1)) <;> simp only [Option.map_some, Option.map_none, List.append_assoc, List.cons_append, List.nil_append]
     obtain ⟨ub, hub⟩ : ∃ ub, ub = s.us[s.k] := ⟨_, rfl⟩
     rw [← hub] at hru hst
     have hkw : IntKind.i64.wrap ((s.k : Int) + 1) = (s.k : Int) + 1 := wrap_i64 (by omega) (by omega)
     have hk1 : s.k + 1 ≤ m.length := hl
     have hcall := hsame l[i] m[s.k] (hlo _ (List.getElem_mem hi)) (hmo _ (List.getElem_mem hl))
     obtain ⟨n, v, fn, args, v2, fn2, args2, a⟩ := atC_ok (c := l) (by omega) hi
     obtain ⟨n2, w, fm, brgs, w2, fm2, brgs2, a2⟩ := atC_ok (c := m) (by omega) hl
     have e1 : l[i] = .mk n (.mk v fn args) (.mk v2 fn2 args2) := a.get
     have e2 : m[s.k] = .mk n2 (.mk w fm brgs) (.mk w2 fm2 brgs2) := a2.get
     obtain ⟨b, hb⟩ : ∃ b, b = same l[i] m[s.k] := ⟨_, rfl⟩
     rw [← hb] at hcall hst
     rw [e1, e2] at hcall
     simp [Lt.enc, Term.enc] at hcall
     have hwr : List.take s.k (s.us.map fun b => AV.d (.bool b)) ++ AV.d (.bool true) :: List.drop (s.k + 1) (s.us.map fun b => AV.d (.bool b)) = (s.us.take s.k ++ true :: s.us.drop (s.k + 1)).map fun b => AV.d (.bool b) := by simp
     conv => arg 9; arg 4; unfold b19_0
     cases ub
     ·cases b
      ·simp [hg, hHu, hl, hku, hu, hub.symm, a.lti, a.sz, a.ltm, a.cells, a.le7, a2.lti, a2.sz, a2.ltm, a2.cells, a2.le7, hkw, hk1, hcall, plc_raw]
       refine .next (WiL.mk (s.k + 1) s.us false (below N s.Hs)) (by omega) (by simp) rfl ⟨hl, hu, fun _ => rfl, fun p hp => (blt hp).trans (hH p hp)⟩ (by simp [hg]; omega) (by rw [hst]; simp [woResL, hg])
      ·simp [hg, hHu, hl, hku, hu, hub.symm, a.lti, a.sz, a.ltm, a.cells, a.le7, a2.lti, a2.sz, a2.ltm, a2.cells, a2.le7, hkw, hk1, hcall, plc_raw]
       refine .next (WiL.mk (s.k + 1) (s.us.take s.k ++ true :: s.us.drop (s.k + 1)) true (below N (upd s.Hs oU (usOL (s.us.take s.k ++ true :: s.us.drop (s.k + 1)))))) (by omega) (by simp) (by simp [usOL]) ⟨hl, by simp; omega, (fun h => by cases h), fun p hp => ?_⟩ (by simp [hg]; omega) (by rw [hst]; simp [woResL])
       simp only; rw [blt hp]; simp only [upd]; split
       ·rfl
       ·rename_i hne; rw [hH p hp, une hne]
     ·simp [hg, hHu, hl, hku, hu, hub.symm, a.lti, a.sz, a.ltm, a.cells, a.le7, a2.lti, a2.sz, a2.ltm, a2.cells, a2.le7, hkw, hk1, plc_raw]
      refine .next (WiL.mk (s.k + 1) s.us false (below N s.Hs)) (by omega) (by simp) rfl ⟨hl, hu, fun _ => rfl, fun p hp => (blt hp).trans (hH p hp)⟩ (by simp [hg]; omega) (by rw [hst]; simp [woResL, hg])
    ·have hkl : s.k = m.length := Nat.le_antisymm hk hl
     have hr : woResL same l[i] m s = none := by
      simp only [woResL, hg, Bool.false_eq_true, if_false, hkl, List.drop_length, stepU]
     simp [b19_0, hg, hkl]
     refine .fin _ _ ⟨by simp only; omega, rfl, fun p hp => ?_, m.length, ?_⟩
     ·rw [hr]; simp only [Option.getD_none]; rw [blt hp]; exact hH p hp
     ·rw [hr]; rfl) ⟨0, us, false, upd H oU (usOL us)⟩ ⟨Nat.zero_le _, hus, fun _ => rfl, fun _ _ => rfl⟩
 have e0 : woResL same l[i] m ⟨0, us, false, upd H oU (usOL us)⟩ = stepU same l[i] m us := by
  simp only [woResL, Bool.false_eq_true, if_false, List.drop_zero, List.take_zero, List.nil_append]
  cases stepU same l[i] m us <;> rfl
 rw [e0] at h
 exact h
end Go.Proofs.YtajilkmepjhkdaaGreat.Am

/-
 What is left of a row, as the document takes it away. No condition.
-/
namespace Go.Proofs.YtajilkmepjhkdaaGreat.Am
open Go Go.Proofs
set_option maxHeartbeats 4000000
set_option maxRecDepth 20000
set_option linter.unusedSimpArgs false
set_option linter.unusedVariables false
theorem append_kL {H : Hp} {id : Nat} {o o2 : Oid} {l : List Lt} {x : Lt} (h : H o = some (gOL l)) (h2 : H o2 = some (.cells (x.enc.map .d))) (hl : l.length ≤ 1048576) :
  appendO Tryz.prog H id 29 29 (gVL o l) (.osl o2 0 1 7 7) = some (gVL o (l ++ [x]), upd H o (gOL (l ++ [x]))) := by
 have hx := x.enc_len
 have e1 : encC [x] = x.enc := by simp [encC]
 cases l with
 | nil =>
  simp only [gOL, if_true] at h
  have hs : srcCells Tryz.prog H 7 29 (.osl o2 0 1 7 7) = some (x.enc, 1, []) := by
   have h3 : List.take 7 (x.enc.map AV.d) = x.enc.map AV.d := List.take_of_length_le (by simp [hx])
   simp [srcCells, srcRaw, h2, hx, h3, allD_mapD, -allD]
  simp [appendO, hs, h, gVL, gOL, growO, e1, hx]
 | cons y r =>
  simp [gOL] at h
  have hs : srcCells Tryz.prog H 7 29 (.osl o2 0 1 7 7) = some (x.enc, 1, []) := by
   have h3 : List.take 7 (x.enc.map AV.d) = x.enc.map AV.d := List.take_of_length_le (by simp [hx])
   simp [srcCells, srcRaw, h2, hx, h3, allD_mapD, -allD]
  have hel2 : (encC (y :: r)).length = (r.length + 1) * 7 := by simpa using encC_len (y :: r)
  have hle : ¬ ((r.length + 1) * 7 + 7 ≤ (r.length + 1) * 7) := by omega
  simp only [List.length_cons] at hl
  have h4 : (r.length + 1) * 7 ≤ 68719476736 := by omega
  have h5 : encC (y :: (r ++ [x])) = encC (y :: r) ++ x.enc := by rw [show y :: (r ++ [x]) = (y :: r) ++ [x] from rfl, encC_append, e1]
  have i5 : ¬ (r.length + 2) * 7 ≤ (r.length + 1) * 7 := by omega
  have i4 : (r.length + 1) * 7 + 7 = (r.length + 2) * 7 := by omega
  have h6 : List.take ((r.length + 1) * 7) ((encC (y :: r)).map AV.d) = (encC (y :: r)).map AV.d := List.take_of_length_le (by simp [hel2])
  generalize encC (y :: r) = EE at *
  simp [appendO, hs, h, gVL, gOL, growO, hel2, hle, h4, h5, hx, i4, i5, h6]
structure WoL where
 i : Nat
 out : List Lt
 us : List Bool
 Hs : Hp
structure WoIL (l m : List Lt) (oo oU : Oid) (s : WoL) : Prop where
 i : s.i ≤ l.length
 u : s.us.length = m.length
 hU : s.Hs oU = some (.cells (s.us.map fun b => .d (.bool b)))
 ho : s.Hs oo = some (gOL s.out)
 ol : s.out.length ≤ s.i
abbrev woToL (l m : List Lt) (f1 f2 : Bool) (n1 n2 : Option Bool) (v5 v6 : AV) (i : Nat) : List AV := [.d (.sl (encC l) l.length f1 n1), .d (.sl (encC m) m.length f2 n2), .junk, .junk, .osl (0, 1) 0 0 1 0, v5, v6, .d (.int .i64 i), .junk, .junk, .junk, .junk, .junk, .junk, .junk, .junk, .junk, .junk, .junk, .junk, .junk, .junk, .junk, .junk, .junk, .junk, .junk, .junk, .junk, .junk, .junk, .junk, .junk, .junk, .junk, .junk, .junk, .junk, .junk, .junk, .junk, .junk, .junk, .junk, .junk, .junk, .junk, .junk, .junk, .junk, .junk, .junk, .junk, .junk, .junk, .junk, .junk, .junk]
def WoEL (N : Nat) (l m : List Lt) (f1 f2 : Bool) (n1 n2 : Option Bool) (oo : Oid) (v6 : AV) (r : List Lt) (e : Ex) (st : St) : Prop :=
 N ≤ st.nx ∧ e = .exit 0 ∧ st.hp oo = some (gOL r) ∧ st.tm = woToL l m f1 f2 n1 n2 (gVL oo r) v6 l.length
theorem woL_loop {same : Lt → Lt → Bool} (hsame : ∀ x y : Lt, x.ok → y.ok → pcl Cp 41 [.agg x.enc, .agg y.enc] = some (.bool (same x y))) {l m : List Lt} (hll : l.length ≤ 1048576) (hml : m.length ≤ 1048576) (hlo : ∀ x ∈ l, x.ok) (hmo : ∀ x ∈ m, x.ok) (f1 f2 : Bool) (n1 n2 : Option Bool) {N : Nat} {oo oU : Oid} (hU : oU.1 < N) (ho : oo.1 < N) (hne : oo ≠ oU) (s0 : WoL) (hI0 : WoIL l m oo oU s0) :
  ∃ e st, aloop Tryz.prog plc b19_1 ⟨[true, true, false, false, true, true, true, true, false, false, false, false, false, false, false, false, false, false, false, false, false, false, false, false, false, false, false, false, false, false, false, false, false, false, false, false, false, false, false, false, false, false, false, false, false, false, false, false, false, false, false, false, false, false, false, false, false, true], some N⟩ ⟨woToL l m f1 f2 n1 n2 (gVL oo s0.out) (.osl oU 0 m.length 1 m.length) s0.i, s0.Hs, N⟩ = some (e, st) ∧ WoEL N l m f1 f2 n1 n2 oo (.osl oU 0 m.length 1 m.length) (s0.out ++ restU same (l.drop s0.i) m s0.us) e st :=
 loop_rule (P := Tryz.prog) (pol := plc) (c := b19_1) (m := ⟨[true, true, false, false, true, true, true, true, false, false, false, false, false, false, false, false, false, false, false, false, false, false, false, false, false, false, false, false, false, false, false, false, false, false, false, false, false, false, false, false, false, false, false, false, false, false, false, false, false, false, false, false, false, false, false, false, false, true], some N⟩)
  (b := N) (tm := fun (s : WoL) => woToL l m f1 f2 n1 n2 (gVL oo s.out) (.osl oU 0 m.length 1 m.length) s.i) (Hf := fun s => s.Hs)
  (I := WoIL l m oo oU) (μ := fun s => l.length - s.i) (res := fun s => s.out ++ restU same (l.drop s.i) m s.us) (R := WoEL N l m f1 f2 n1 n2 oo (.osl oU 0 m.length 1 m.length))
  (fun s nx1 hI => by
   have hHo := hI.ho
   have hHU := hI.hU
   rcases Nat.lt_or_ge s.i l.length with hl | hl
   ·have hHe : upd s.Hs oU (usOL s.us) = s.Hs := by
     funext p; simp only [upd]; split
     ·rename_i h; rw [h, hHU]
     ·rfl
    obtain ⟨e, st, hrun, hN, rfl, hst, k, htm⟩ := woL_in same hsame hll hml hlo hmo f1 f2 n1 n2 (N := nx1 + N + 6) (i := s.i) (oU := oU) (by omega) s.Hs (.osl (0, 1) 0 0 1 0) (gVL oo s.out) hl s.us hI.u
    rw [hHe] at hrun
    obtain ⟨tm, Hi, ni⟩ := st
    simp only at htm hst hN
    subst htm
    have hrd : restU same (l.drop s.i) m s.us = (match stepU same l[s.i] m s.us with | none => l[s.i] :: restU same (l.drop (s.i + 1)) m s.us | some us' => restU same (l.drop (s.i + 1)) m us') := by rw [List.drop_eq_getElem_cons hl]; rfl
    have hiw : IntKind.i64.wrap ((s.i : Int) + 1) = (s.i : Int) + 1 := wrap_i64 (by omega) (by omega)
    have hil : (s.i : Int) < (l.length : Int) := by omega
    obtain ⟨n, v, fn, args, v2, fn2, args2, a⟩ := atC_ok (c := l) (by omega) hl
    have e1 : l[s.i] = .mk n (.mk v fn args) (.mk v2 fn2 args2) := a.get
    have hio : Hi oo = some (gOL s.out) := by rw [hst _ (by omega), une hne]; exact hHo
    have hol := hI.ol
    conv => arg 9; arg 4; unfold b19_1
    cases hq : stepU same l[s.i] m s.us with
    | none =>
     rw [hq] at hrun hrd hst
     simp only [Option.isSome_none, Option.getD_none] at hrun hst
     have hiU : Hi oU = some (usOL s.us) := by rw [hst _ (by omega)]; exact upd_same _ _ _
     have happ := append_kL (H := upd Hi (ni + 7, 0) (.cells [.d (.bool n), .d (.int .i64 v), .d (.str fn), .d (.sl (encL args) args.length false none), .d (.int .i64 v2), .d (.str fn2), .d (.sl (encL args2) args2.length false none)])) (id := ni + 8) (o := oo) (o2 := (ni + 7, 0)) (l := s.out) (x := .mk n (.mk v fn args) (.mk v2 fn2 args2)) (by rw [uold (by omega)]; exact hio) (by rw [upd_same]; simp [Lt.enc, Term.enc]) (by omega)
     rw [gVL_app] at happ
     simp [hil, Nat.add_assoc] at hrun ⊢
     simp [hrun, a.lti, a.sz, a.ltm, a.cells, a.le7, a.w, plc_raw, Nat.add_assoc, happ]
     refine .next (WoL.mk (s.i + 1) (s.out ++ [.mk n (.mk v fn args) (.mk v2 fn2 args2)]) s.us (below N (upd (upd Hi (ni + 7, 0) (.cells [.d (.bool n), .d (.int .i64 v), .d (.str fn), .d (.sl (encL args) args.length false none), .d (.int .i64 v2), .d (.str fn2), .d (.sl (encL args2) args2.length false none)])) oo (gOL (s.out ++ [.mk n (.mk v fn args) (.mk v2 fn2 args2)]))))) (by omega) (by simp [gVL_app]) rfl ⟨hl, hI.u, ?_, ?_, by simp; omega⟩ (by simp only; omega) ?_
     ·simp only; rw [blt hU, une (Ne.symm hne), uold (by omega)]; exact hiU
     ·simp only; rw [blt ho, upd_same]
     ·simp only; rw [hrd, e1]; simp
    | some us' =>
     rw [hq] at hrun hrd hst
     simp only [Option.isSome_some, Option.getD_some] at hrun hst
     have hiU : Hi oU = some (usOL us') := by rw [hst _ (by omega)]; exact upd_same _ _ _
     have hul := stepU_len hq
     simp [hil, Nat.add_assoc] at hrun ⊢
     simp [hrun, a.lti, a.sz, a.ltm, a.cells, a.le7, a.w, plc_raw, Nat.add_assoc]
     refine .next (WoL.mk (s.i + 1) s.out us' (below N Hi)) (by omega) (by simp) rfl ⟨hl, by rw [hul]; exact hI.u, ?_, ?_, by simp only; omega⟩ (by simp only; omega) ?_
     ·simp only; rw [blt hU]; exact hiU
     ·simp only; rw [blt ho]; exact hio
     ·simp only; rw [hrd]
   ·have hie : s.i = l.length := Nat.le_antisymm hI.i hl
    simp [b19_1, hie]
    refine .fin _ _ ⟨by simp only; omega, rfl, ?_, ?_⟩
    ·simp only [hie, List.drop_length, restU, List.append_nil]; rw [blt ho]; exact hHo
    ·simp only [hie, List.drop_length, restU, List.append_nil]) s0 hI0
theorem woL_ok {same : Lt → Lt → Bool} (hsame : ∀ x y : Lt, x.ok → y.ok → pcl Cp 41 [.agg x.enc, .agg y.enc] = some (.bool (same x y))) {l m : List Lt} (hll : l.length ≤ 1048576) (hml : m.length ≤ 1048576) (hlo : ∀ x ∈ l, x.ok) (hmo : ∀ x ∈ m, x.ok) (f1 f2 : Bool) (n1 n2 : Option Bool) :
  ∃ nl : Bool, pcl Cp 19 [.sl (encC l) l.length f1 n1, .sl (encC m) m.length f2 n2] = some (.sl (encC (restF same l m)) (restF same l m).length false (some nl)) := by
 obtain ⟨H0, hH0⟩ : ∃ H0 : Hp, H0 = upd (upd (upd (fun _ => none) (0, 1) .vnil) (1, 1) .vnil) (4, 0) (.cells (List.replicate m.length (.d (.bool false)))) := ⟨_, rfl⟩
 obtain ⟨e, st, hrun, hN2, rfl, hout, htm⟩ := woL_loop hsame hll hml hlo hmo f1 f2 n1 n2 (N := 7) (oo := (1, 1)) (oU := (4, 0)) (by decide) (by decide) (by decide) ⟨0, [], List.replicate m.length false, H0⟩
  ⟨Nat.zero_le _, by simp, by rw [hH0]; simp, by rw [hH0]; simp [upd, gOL], Nat.le_refl _⟩
 obtain ⟨tm, Hs, ns⟩ := st
 simp only [List.nil_append, List.drop_zero] at htm hout hrun
 rw [rest_replicate] at htm hout
 subst htm
 have hrl := encC_len (restF same l m)
 have hfin : restF same l m ≠ [] → mapD (reify Hs 5) (List.take ((restF same l m).length * 7) ((encC (restF same l m)).map AV.d)) = some (encC (restF same l m), []) := fun _ => by
  rw [List.take_of_length_le (by simp [hrl])]; exact mapD_encT _ _ _
 have hm : (m.length : Int) ≤ 1099511627776 := by omega
 refine ⟨decide (restF same l m = []), pcl_body code19 ?_⟩
 generalize restF same l m = rr at *
 have hz : ¬ rr = [] → ¬ rr.length = 0 := fun h e => h (List.length_eq_zero_iff.1 e)
 by_cases hr : rr = []
 ·subst hr
  simp [woToL, gVL, gOL] at hrun hout
  simp [plc_raw, hm, ← hH0, hrun, hout, encC]
 ·have hfin := hfin hr
  have hz := hz hr
  simp [woToL, gVL, gOL, hr] at hrun hout
  simp [plc_raw, hm, ← hH0, hrun, hout, hr, hrl, hfin]
end Go.Proofs.YtajilkmepjhkdaaGreat.Am

/-
 Rows of things asked one by one, by a function with what it captured. No condition.
-/
namespace Go.Proofs.YtajilkmepjhkdaaGreat.Am
open Go Go.Proofs
set_option maxHeartbeats 4000000
set_option maxRecDepth 20000
set_option linter.unusedSimpArgs false
set_option linter.unusedVariables false
theorem idxT_loop (g : FuncId) (caps : List D) (fl : Bool) (nl : Option Bool) (p : Term → Bool) (ts : List Term) (hn : ts.length ≤ 9223372036854775807) (hg : plc.raw g = false ∧ plc.weak g = false ∧ g < 1000000000) (hrec : ∀ x ∈ ts, pcl Cp g (.agg x.enc :: caps) = some (.bool (p x))) :
  ∃ e t, aloop Tryz.prog plc b71_0 ⟨[true, true, false, false, true, false, false, true, true, false, false, false, false, false, false, false, false, false, false], some 4⟩ ⟨[.d (.sl (encL ts) ts.length fl nl), .d (.fn g caps), .junk, .junk, .d (.int .i64 0), .junk, .junk, .d (.int .i64 ts.length), .d (.int .i64 0), .junk, .junk, .junk, .junk, .junk, .junk, .junk, .junk, .junk, .junk], fun _ => none, 4⟩ = some (e, t) ∧
   (match fromI p ts 0 with | some k => AtRet 4 (.d (.int .i64 k)) e t | none => AtExit 0 [.d (.sl (encL ts) ts.length fl nl), .d (.fn g caps), .junk, .junk, .d (.int .i64 0), .junk, .junk, .d (.int .i64 ts.length), .d (.int .i64 ts.length), .junk, .junk, .junk, .junk, .junk, .junk, .junk, .junk, .junk, .junk] (fun _ => none) e t) := by
 refine loop_rule (b := 4) (tm := fun (i : Nat) => [.d (.sl (encL ts) ts.length fl nl), .d (.fn g caps), .junk, .junk, .d (.int .i64 0), .junk, .junk, .d (.int .i64 ts.length), .d (.int .i64 i), .junk, .junk, .junk, .junk, .junk, .junk, .junk, .junk, .junk, .junk]) (Hf := fun _ => fun _ => none)
  (I := fun i => i ≤ ts.length) (μ := fun i => ts.length - i) (res := fun i => fromI p ts i) (R := fun o e t => match o with | some k => AtRet 4 (.d (.int .i64 k)) e t | none => AtExit 0 [.d (.sl (encL ts) ts.length fl nl), .d (.fn g caps), .junk, .junk, .d (.int .i64 0), .junk, .junk, .d (.int .i64 ts.length), .d (.int .i64 ts.length), .junk, .junk, .junk, .junk, .junk, .junk, .junk, .junk, .junk, .junk] (fun _ => none) e t)
  (fun i nx hi => ?_) 0 (Nat.zero_le _)
 rcases Nat.lt_or_ge i ts.length with hl | hl
 ·obtain ⟨v, fn, args, a⟩ := at_ok hn hl
  have hcall := hrec _ a.mem
  have hget : ts[i] = .mk v fn args := a.get
  simp [Term.enc] at hcall
  conv => arg 9; arg 4; unfold b71_0
  cases hp : p (.mk v fn args) <;> rw [hp] at hcall <;> simp [a.lti, a.sz, a.ltm, a.cells, a.le3, hg.1, hg.2.1, hg.2.2, -plc_weak, hcall, a.w, mapD_encT]
  ·exact .next (i + 1) (by omega) rfl rfl hl (by omega) (by rw [fromI_step hl, hget, hp]; rfl)
  ·exact .fin _ _ (by rw [fromI_step hl, hget, hp]; exact ⟨rfl, rfl⟩)
 ·obtain rfl : i = ts.length := Nat.le_antisymm hi hl
  simp [b71_0]
  exact .fin _ _ (by rw [fromI_end]; exact .mk)
theorem idxT_ok {g : FuncId} {caps : List D} {fl : Bool} {nl : Option Bool} {p : Term → Bool} {ts : List Term} (hn : ts.length ≤ 9223372036854775807) (hg : plc.raw g = false ∧ plc.weak g = false ∧ g < 1000000000) (hrec : ∀ x ∈ ts, pcl Cp g (.agg x.enc :: caps) = some (.bool (p x))) :
  pcl Cp 71 [.sl (encL ts) ts.length fl nl, .fn g caps] = some (.int .i64 (match ts.findIdx? p with | some k => k | none => -1)) := by
 obtain ⟨e, t, h1, h2⟩ := idxT_loop g caps fl nl p ts hn hg hrec
 refine pcl_body code71 ?_
 simp [fromI_zero] at h1 h2
 simp [h1]
 revert h2
 cases ts.findIdx? p with
 | some k => rintro ⟨rfl, h⟩; simp [h]
 | none => rintro ⟨rfl, nx, rfl⟩; simp
theorem conT_ok {g : FuncId} {caps : List D} {fl : Bool} {nl : Option Bool} {p : Term → Bool} {ts : List Term} (hn : ts.length ≤ 9223372036854775807) (hg : plc.raw g = false ∧ plc.weak g = false ∧ g < 1000000000) (hrec : ∀ x ∈ ts, pcl Cp g (.agg x.enc :: caps) = some (.bool (p x))) :
  pcl Cp 49 [.sl (encL ts) ts.length fl nl, .fn g caps] = some (.bool (ts.any p)) := by
 refine pcl_body code49 ?_
 have h := idxT_ok (fl := fl) (nl := nl) hn hg hrec
 rw [any_findIdx]
 cases hq : ts.findIdx? p <;> rw [hq] at h <;> simp [plc_raw, h]
end Go.Proofs.YtajilkmepjhkdaaGreat.Am

/-
 Rows of things copied, and taken away from. No condition.
-/
namespace Go.Proofs.YtajilkmepjhkdaaGreat.Am
open Go Go.Proofs
set_option maxHeartbeats 4000000
set_option maxRecDepth 20000
set_option linter.unusedSimpArgs false
set_option linter.unusedVariables false
theorem takeT : ∀ (l : List Term) (n : Nat), (encL l).take (n * 3) = encL (l.take n)
 | [], n => by simp [encL]
 | x :: r, 0 => by simp [encL]
 | x :: r, n + 1 => by
  have := x.enc_len
  simp only [encL, List.take_succ_cons]
  rw [List.take_append, List.take_of_length_le (by omega), show (n + 1) * 3 - x.enc.length = n * 3 by omega, takeT r n]
theorem dropT : ∀ (l : List Term) (n : Nat), (encL l).drop (n * 3) = encL (l.drop n)
 | [], n => by simp [encL]
 | x :: r, 0 => by simp
 | x :: r, n + 1 => by
  have := x.enc_len
  simp only [encL, List.drop_succ_cons]
  rw [List.drop_append, List.drop_eq_nil_of_le (by omega), List.nil_append, show (n + 1) * 3 - x.enc.length = n * 3 by omega, dropT r n]
inductive RowT (H : Hp) : AV → List Term → Oid → Prop
 | vn (o : Oid) (h : H o = some .vnil) : RowT H (.osl o 0 0 1 0) [] o
 | row (o : Oid) (l : List Term) (cs : List D) (h : H o = some (.grow (cs.map .d))) (hv : l.length * 3 ≤ cs.length) (ht : cs.take (l.length * 3) = encL l) (hb : cs.length ≤ 68719476736) : RowT H (.osl o 0 l.length 3 cs.length) l o
theorem RowT.keep {H H' : Hp} {v : AV} {l : List Term} {o : Oid} (h : RowT H v l o) (k : H' o = H o) : RowT H' v l o := by
 cases h with
 | vn o h => exact .vn o (k.trans h)
 | row o l cs h hv ht hb => exact .row o l cs (k.trans h) hv ht hb
theorem cloT_ok (H : Hp) (nx : Nat) (fl b : Bool) (l : List Term) (hl : l.length ≤ 1048576) (hb : b = true → l = []) : ∃ v H' nx' o, acall Tryz.prog plc 70 [.d (.sl (encL l) l.length fl (some b))] H nx = some (v, H', nx') ∧ RowT H' v l o ∧ nx ≤ nx' ∧ nx ≤ o.1 ∧ o.1 < nx' ∧ ∀ p : Oid, p.1 < nx → H' p = H p := by
 cases b with
 | true =>
  rw [hb rfl]
  refine ⟨.osl (nx + 3, 1) 0 0 1 0, upd (upd H (nx, 1) .vnil) (nx + 3, 1) .vnil, nx + 4, (nx + 3, 1), acall_body code70 ?_, .vn _ (upd_same _ _ _), by omega, by simp only; omega, by simp only; omega, fun p hp => by rw [uold (by omega), uold hp]⟩
  simp [encL]
 | false =>
  have hs : ∀ H' : Hp, srcCells Tryz.prog H' 3 40 (.d (.sl (encL l) l.length fl (some false))) = some (encL l, l.length, []) := fun H' => by simp [srcCells, srcRaw, encL_len]
  have i10 : (encL l).length = l.length * 3 := encL_len l
  have i11 : ¬ 68719476736 < l.length * 3 := by omega
  have hrow := RowT.row (H := upd (upd H (nx, 1) .vnil) (nx + 3, 0) (.grow ((encL l).map .d))) (nx + 3, 0) l (encL l) (upd_same _ _ _) (by omega) (List.take_of_length_le (by omega)) (by omega)
  rw [i10] at hrow
  refine ⟨_, _, nx + 7, (nx + 3, 0), acall_body code70 ?_, hrow, by omega, by simp only; omega, by simp only; omega, fun p hp => by rw [uold (by omega), uold hp]⟩
  by_cases hr : l = []
  ·subst hr
   simp [encL] at hs
   simp [Nat.add_assoc, appendO, growO, hs, encL]
  ·have i12 : ¬ l.length = 0 := fun e => hr (List.length_eq_zero_iff.1 e)
   have i13 : ¬ encL l = [] := fun e => by rw [e] at i10; simp at i10; omega
   simp [Nat.add_assoc, appendO, growO, hs, i10, i11, i12, i13, hr]
theorem delT_ok {H : Hp} {o : Oid} {a b : List Term} {q : Term} {cs : List D} (hc : H o = some (.grow (cs.map .d))) (hv : (a ++ q :: b).length * 3 ≤ cs.length) (ht : cs.take ((a ++ q :: b).length * 3) = encL (a ++ q :: b)) (hb : cs.length ≤ 68719476736) (nx : Nat) (ho : o.1 < nx) (n : Nat) (hn : n = a.length + b.length) :
  ∃ (cs' : List D) (H' : Hp) (nx' : Nat), acall Tryz.prog plc 73 [.osl o 0 (n + 1) 3 cs.length, .d (.int .i64 a.length), .d (.int .i64 (a.length + 1))] H nx = some (.osl o 0 n 3 cs.length, H', nx') ∧ nx ≤ nx' ∧ H' o = some (.grow (cs'.map .d)) ∧ (∀ p : Oid, p.1 < nx → p ≠ o → H' p = H p) ∧ cs'.length = cs.length ∧ cs'.take ((a ++ b).length * 3) = encL (a ++ b) := by
 have hL : (a ++ q :: b).length = a.length + b.length + 1 := by simp; omega
 rw [hL] at hv ht
 obtain ⟨cs1, hcs1⟩ : ∃ cs1, cs1 = cs.take (a.length * 3) ++ (encL b ++ cs.drop (a.length * 3 + b.length * 3)) := ⟨_, rfl⟩
 have hl1 : cs1.length = cs.length := by rw [hcs1]; simp [encL_len]; omega
 obtain ⟨cs2, hcs2⟩ : ∃ cs2, cs2 = cs1.take (n * 3) ++ ([D.int .i64 0, .str (ByteArray.mk #[]), .sl [] 0 true (some true)] ++ cs1.drop (n * 3 + 3)) := ⟨_, rfl⟩
 have hl2 : cs2.length = cs.length := by rw [hcs2]; simp [hl1]; omega
 have hta : cs.take (a.length * 3) = encL a := by
  have := congrArg (List.take (a.length * 3)) ht
  rw [List.take_take, Nat.min_eq_left (by omega), takeT] at this
  simpa using this
 have htb : (cs.drop ((a.length + 1) * 3)).take (b.length * 3) = encL b := by
  have := congrArg (List.drop ((a.length + 1) * 3)) ht
  rw [List.drop_take, dropT] at this
  rw [show (a.length + b.length + 1) * 3 - (a.length + 1) * 3 = b.length * 3 by omega] at this
  rw [this]; simp
 have hsrc : ∀ H' : Hp, H' o = some (.grow (cs.map .d)) → srcCells Tryz.prog H' 3 40 (.osl o ((a.length + 1) * 3) b.length 3 cs.length) = some (encL b, b.length, []) := fun H' hc => by
  have hall : allD (((cs.map AV.d).drop ((a.length + 1) * 3)).take (b.length * 3)) = some (encL b) := by
   rw [← List.map_drop, ← List.map_take, htb]; exact allD_mapD _
  have h5 : (a.length + 1) * 3 + b.length * 3 ≤ cs.length := by omega
  simp [srcCells, srcRaw, hc, hall, h5, -allD]
 have happ : ∀ (H' : Hp) (id : Nat), H' o = some (.grow (cs.map .d)) → appendO Tryz.prog H' id 40 40 (.osl o 0 a.length 3 cs.length) (.osl o ((a.length + 1) * 3) b.length 3 cs.length) = some (.osl o 0 n 3 cs.length, upd H' o (.grow (cs1.map .d))) := fun H' id hc => by
  have hs := hsrc H' hc
  have i7 : a.length * 3 ≤ cs.length := by omega
  have i8 : a.length * 3 + b.length * 3 ≤ cs.length := by omega
  have i10 : (encL b).length = b.length * 3 := encL_len b
  have i11 : ¬ 68719476736 < b.length * 3 := by omega
  by_cases hbn : b = []
  ·have e1 : cs1 = cs := by rw [hcs1, hbn]; simp [encL]
   have e2 : upd H' o (.grow (cs.map .d)) = H' := by
    funext p; simp only [upd]; split
    ·rename_i h; rw [h, hc]
    ·rfl
   have e3 : n = a.length := by rw [hn, hbn]; simp
   rw [e1, e2, e3]
   rw [hbn] at hs
   simp only [List.length_nil, encL] at hs
   simp [appendO, hs, hc, i7, hb, hbn]
  ·rw [hcs1, hn]
   simp [appendO, growO, hs, hc, i7, i8, hb, i10, i11, hbn]
 have f0 : ∀ j x, upd H (nx, j) x o = H o := fun j x => uold ho _ _ _
 have f1 : ∀ k j x H', upd H' (nx + k, j) x o = H' o := fun k j x H' => uold (by omega) _ _ _
 refine ⟨cs2, upd (upd H (nx, 1) .vnil) o (.grow (cs2.map .d)), nx + 29, acall_body code73 ?_, by omega, upd_same _ _ _, fun p hp hq => by rw [une hq, uold hp], hl2, ?_⟩
 ·have i1 : ¬ ((a.length : Int) = (a.length : Int) + 1) := by omega
  have i2 : (0 : Int) ≤ (a.length : Int) + 1 := by omega
  have i3 : (0 : Int) ≤ (n : Int) + 1 := by omega
  have i5 : a.length ≤ n := by omega
  have i6 : ¬ a.length = n + 1 := by omega
  have i7 : a.length * 3 ≤ cs.length := by omega
  have i8 : n - a.length = b.length := by omega
  have i9 : (n + 1) * 3 ≤ cs.length := by omega
  have i10 : n * 3 + 3 ≤ cs.length := by omega
  rw [hcs2]
  simp [plc_raw, Nat.add_assoc, hc, f0, f1, i1, i2, i3, i5, i6, i7, i8, i9, i10, happ, hl1]
 ·have e1 : (encL (a ++ b)).length = n * 3 := by rw [encL_len]; simp [hn]
  have e2 : (a ++ b).length * 3 = n * 3 := by simp [hn]
  rw [hcs2, e2, List.take_append_of_le_length (by simp [hl1]; omega), List.take_take, Nat.min_self, hcs1, hta, ← List.append_assoc, ← encL_append, List.take_append_of_le_length (by omega), List.take_of_length_le (by omega)]
theorem splitT {l : List Term} {p : Term → Bool} {i : Nat} (h : l.findIdx? p = some i) : ∃ a q b, l = a ++ q :: b ∧ a.length = i ∧ l.eraseIdx i = a ++ b := by
 have hi : i < l.length := (List.findIdx?_eq_some_iff_findIdx_eq.1 h).1
 refine ⟨l.take i, l[i], l.drop (i + 1), ?_, by simp; omega, ?_⟩
 ·rw [← List.drop_eq_getElem_cons hi, List.take_append_drop]
 ·rw [List.eraseIdx_eq_take_drop_succ]
theorem rest1T_ok {x y : Term} {b : Bool} (h : pcl Cp 26 [.agg x.enc, .agg y.enc] = some (.bool b)) : pcl Cp 72 [.agg y.enc, .dptr [.fn 26 []], .dptr x.enc] = some (.bool b) := by
 refine pcl_body code72 ?_
 obtain ⟨v, fn, args⟩ := x
 obtain ⟨w, fm, brgs⟩ := y
 simp [Term.enc] at h
 simp [Term.enc, plc_raw, h]
end Go.Proofs.YtajilkmepjhkdaaGreat.Am

/-
 What is left of a row behind taking away another one. No condition.
-/
namespace Go.Proofs.YtajilkmepjhkdaaGreat.Am
open Go Go.Proofs
set_option maxHeartbeats 4000000
set_option maxRecDepth 20000
set_option linter.unusedSimpArgs false
set_option linter.unusedVariables false
def gOT (l : List Term) : Am.Obj := if l = [] then .vnil else .grow ((encL l).map .d)
def gVT (o : Oid) (l : List Term) : AV := if l = [] then .osl o 0 0 1 0 else .osl o 0 l.length 3 (l.length * 3)
theorem gVT_app (o : Oid) (l : List Term) (x : Term) : gVT o (l ++ [x]) = .osl o 0 (l.length + 1) 3 ((l.length + 1) * 3) := by simp [gVT]
theorem append_gT {H : Hp} {id : Nat} {o o2 : Oid} {l : List Term} {x : Term} (h : H o = some (gOT l)) (h2 : H o2 = some (.cells (x.enc.map .d))) (hl : l.length ≤ 1048576) :
  appendO Tryz.prog H id 40 40 (gVT o l) (.osl o2 0 1 3 3) = some (gVT o (l ++ [x]), upd H o (gOT (l ++ [x]))) := by
 have hx := x.enc_len
 have e1 : encL [x] = x.enc := by simp [encL]
 cases l with
 | nil =>
  simp only [gOT, if_true] at h
  have hs : srcCells Tryz.prog H 3 40 (.osl o2 0 1 3 3) = some (x.enc, 1, []) := by
   have h3 : List.take 3 (x.enc.map AV.d) = x.enc.map AV.d := List.take_of_length_le (by simp [hx])
   simp [srcCells, srcRaw, h2, hx, h3, allD_mapD, -allD]
  simp [appendO, hs, h, gVT, gOT, growO, e1, hx]
 | cons y r =>
  simp [gOT] at h
  have hs : srcCells Tryz.prog H 3 40 (.osl o2 0 1 3 3) = some (x.enc, 1, []) := by
   have h3 : List.take 3 (x.enc.map AV.d) = x.enc.map AV.d := List.take_of_length_le (by simp [hx])
   simp [srcCells, srcRaw, h2, hx, h3, allD_mapD, -allD]
  have hel2 : (encL (y :: r)).length = (r.length + 1) * 3 := by simpa using encL_len (y :: r)
  have hle : ¬ ((r.length + 1) * 3 + 3 ≤ (r.length + 1) * 3) := by omega
  simp only [List.length_cons] at hl
  have h4 : (r.length + 1) * 3 ≤ 68719476736 := by omega
  have h5 : encL (y :: (r ++ [x])) = encL (y :: r) ++ x.enc := by rw [show y :: (r ++ [x]) = (y :: r) ++ [x] from rfl, encL_append, e1]
  have i5 : ¬ (r.length + 2) * 3 ≤ (r.length + 1) * 3 := by omega
  have i4 : (r.length + 1) * 3 + 3 = (r.length + 2) * 3 := by omega
  have h6 : List.take ((r.length + 1) * 3) ((encL (y :: r)).map AV.d) = (encL (y :: r)).map AV.d := List.take_of_length_le (by simp [hel2])
  generalize encL (y :: r) = EE at *
  simp [appendO, hs, h, gVT, gOT, growO, hel2, hle, h4, h5, hx, i4, i5, h6]
theorem reify_rowT {H : Hp} {v : AV} {l : List Term} {o : Oid} (h : RowT H v l o) : ∃ nl is, ∀ n, reify H (n + 1) v = some (.sl (encL l) l.length false nl, is) := by
 cases h with
 | vn o h => exact ⟨_, _, fun n => by simp [reify, h, Am.Obj.isRow, Am.Obj.cs, mapD, encL, nlOf]; exact ⟨rfl, rfl⟩⟩
 | row o l cs h hv ht hb =>
  have : List.take (l.length * 3) (cs.map AV.d) = (encL l).map .d := by rw [← List.map_take, ht]
  exact ⟨_, _, fun n => by simp [reify, h, Am.Obj.isRow, Am.Obj.cs, hv, this, mapD_encT, nlOf]; exact ⟨rfl, rfl⟩⟩
end Go.Proofs.YtajilkmepjhkdaaGreat.Am

/-
 What is left of a row, as the document takes it away: marks. No condition.
-/
namespace Go.Proofs.YtajilkmepjhkdaaGreat.Am
open Go Go.Proofs
set_option maxHeartbeats 4000000
set_option maxRecDepth 20000
set_option linter.unusedSimpArgs false
set_option linter.unusedVariables false
structure WiT where
 k : Nat
 us : List Bool
 gone : Bool
 Hs : Hp
structure WiIT (N : Nat) (H : Hp) (oU : Oid) (m : List Term) (us : List Bool) (s : WiT) : Prop where
 k : s.k ≤ m.length
 u : s.us.length = m.length
 e : s.gone = false → s.us = us
 h : ∀ p : Oid, p.1 < N → s.Hs p = upd H oU (.cells (s.us.map fun b => .d (.bool b))) p
abbrev woTmT (l m : List Term) (f1 f2 : Bool) (n1 n2 : Option Bool) (v4 v5 v6 : AV) (i : Nat) (gone : AV) (k : AV) : List AV := [.d (.sl (encL l) l.length f1 n1), .d (.sl (encL m) m.length f2 n2), .junk, .junk, v4, v5, v6, .d (.int .i64 i), gone, k, .junk, .junk, .junk, .junk, .junk, .junk, .junk, .junk, .junk, .junk, .junk, .junk, .junk, .junk, .junk, .junk, .junk, .junk, .junk, .junk, .junk, .junk, .junk, .junk, .junk, .junk, .junk, .junk, .junk, .junk, .junk, .junk, .junk, .junk, .junk, .junk, .junk, .junk, .junk, .junk, .junk, .junk, .junk, .junk, .junk, .junk, .junk, .junk]
abbrev usOT (us : List Bool) : Am.Obj := .cells (us.map fun b => .d (.bool b))
def woResT (same : Term → Term → Bool) (x : Term) (m : List Term) (s : WiT) : Option (List Bool) :=
 if s.gone then some s.us else match stepU same x (m.drop s.k) (s.us.drop s.k) with | none => none | some w => some (s.us.take s.k ++ w)
def woEndT (N : Nat) (H : Hp) (oU : Oid) (tm : AV → AV → List AV) (us : List Bool) (r : Option (List Bool)) (e : Ex) (st : St) : Prop :=
 N ≤ st.nx ∧ e = .exit 2 ∧ (∀ p : Oid, p.1 < N → st.hp p = upd H oU (usOT (r.getD us)) p) ∧ ∃ k, st.tm = tm (.d (.bool r.isSome)) (.d (.int .i64 k))
theorem woT_in (same : Term → Term → Bool) (hsame : ∀ x y : Term, x.ok → y.ok → pcl Cp 63 [.agg x.enc, .agg y.enc] = some (.bool (same x y))) {l m : List Term} (hll : l.length ≤ 1048576) (hml : m.length ≤ 1048576) (hlo : ∀ x ∈ l, x.ok) (hmo : ∀ x ∈ m, x.ok) (f1 f2 : Bool) (n1 n2 : Option Bool) {N i : Nat} {oU : Oid} (hU : oU.1 < N) (H : Hp) (v4 v5 : AV) (hi : i < l.length) (us : List Bool) (hus : us.length = m.length) :
  ∃ e st, aloop Tryz.prog plc b65_0 ⟨[true, true, false, false, true, true, true, true, true, true, false, false, false, false, false, false, false, true, true, false, false, false, false, false, false, false, false, false, false, false, false, false, false, false, false, false, false, false, false, false, false, false, false, false, false, false, false, false, true, true, true, true, true, true, true, true, true, true], some N⟩ ⟨woTmT l m f1 f2 n1 n2 v4 v5 (.osl oU 0 m.length 1 m.length) i (.d (.bool false)) (.d (.int .i64 0)), upd H oU (usOT us), N⟩ = some (e, st) ∧
   woEndT N H oU (woTmT l m f1 f2 n1 n2 v4 v5 (.osl oU 0 m.length 1 m.length) i) us (stepU same l[i] m us) e st := by
 have h := loop_rule (P := Tryz.prog) (pol := plc) (c := b65_0) (m := ⟨[true, true, false, false, true, true, true, true, true, true, false, false, false, false, false, false, false, true, true, false, false, false, false, false, false, false, false, false, false, false, false, false, false, false, false, false, false, false, false, false, false, false, false, false, false, false, false, false, true, true, true, true, true, true, true, true, true, true], some N⟩)
  (b := N) (tm := fun (s : WiT) => woTmT l m f1 f2 n1 n2 v4 v5 (.osl oU 0 m.length 1 m.length) i (.d (.bool s.gone)) (.d (.int .i64 s.k))) (Hf := fun s => s.Hs)
  (I := WiIT N H oU m us) (μ := fun s => m.length - s.k + (if s.gone then 0 else 1)) (res := woResT same l[i] m) (R := woEndT N H oU (woTmT l m f1 f2 n1 n2 v4 v5 (.osl oU 0 m.length 1 m.length) i) us)
  (fun s nx1 hI => by
   obtain ⟨hk, hu, hus, hH⟩ := hI
   have hHu : s.Hs oU = some (usOT s.us) := by rw [hH _ hU]; exact upd_same _ _ _
   cases hg : s.gone with
   | true =>
    have hr : woResT same l[i] m s = some s.us := by simp [woResT, hg]
    rcases Nat.lt_or_ge s.k m.length with hl | hl
    ·simp [b65_0, hg, hl]
     refine .fin _ _ ⟨by simp only; omega, rfl, fun p hp => ?_, s.k, ?_⟩
     ·rw [hr]; simp only [Option.getD_some]; rw [blt hp]; exact hH p hp
     ·rw [hr]; rfl
    ·simp [b65_0, hg, Nat.not_lt.2 hl]
     refine .fin _ _ ⟨by simp only; omega, rfl, fun p hp => ?_, s.k, ?_⟩
     ·rw [hr]; simp only [Option.getD_some]; rw [blt hp]; exact hH p hp
     ·rw [hr]; rfl
   | false =>
    obtain rfl := hus hg
    rcases Nat.lt_or_ge s.k m.length with hl | hl
    ·have hku : s.k < s.us.length := by omega
     have hdu : s.us.drop s.k = s.us[s.k] :: s.us.drop (s.k + 1) := List.drop_eq_getElem_cons hku
     have hmd : m.drop s.k = m[s.k] :: m.drop (s.k + 1) := List.drop_eq_getElem_cons hl
     have hru : List.take 1 (List.drop s.k (s.us.map fun b => AV.d (.bool b))) = [.d (.bool s.us[s.k])] := by
      rw [← List.map_drop, hdu]; rfl
     have hst : woResT same l[i] m s = (if s.us[s.k] = false ∧ same l[i] m[s.k] = true then some (s.us.take s.k ++ true :: s.us.drop (s.k + 1)) else woResT same l[i] m { s with k := s.k + 1 }) := by
      simp only [woResT, hg, Bool.false_eq_true, if_false]
      rw [hmd, hdu]
      simp only [stepU]
      by_cases hc : s.us[s.k] = false ∧ same l[i] m[s.k] = true
      ·rw [if_pos hc, if_pos hc]
      ·rw [if_neg hc, if_neg hc]
       have ht : s.us.take (s.k + 1) = s.us.take s.k ++ [s.us[s.k]] := (List.take_append_getElem hku).symm
       rw [ht]
       cases stepU same l[i] (m.drop (s.k + 1)) (s.us.drop (s.k + 1)) <;> simp only [Option.map_some, Option.map_none, List.append_assoc, List.cons_append, List.nil_append]
     obtain ⟨ub, hub⟩ : ∃ ub, ub = s.us[s.k] := ⟨_, rfl⟩
     rw [← hub] at hru hst
     have hkw : IntKind.i64.wrap ((s.k : Int) + 1) = (s.k : Int) + 1 := wrap_i64 (by omega) (by omega)
     have hk1 : s.k + 1 ≤ m.length := hl
     have hcall := hsame l[i] m[s.k] (hlo _ (List.getElem_mem hi)) (hmo _ (List.getElem_mem hl))
     obtain ⟨v, fn, args, a⟩ := at_ok (ts := l) (by omega) hi
     obtain ⟨w, fm, brgs, a2⟩ := at_ok (ts := m) (by omega) hl
     have e1 : l[i] = .mk v fn args := a.get
     have e2 : m[s.k] = .mk w fm brgs := a2.get
     obtain ⟨b, hb⟩ : ∃ b, b = same l[i] m[s.k] := ⟨_, rfl⟩
     rw [← hb] at hcall hst
     rw [e1, e2] at hcall
     simp [Term.enc] at hcall
     have hwr : List.take s.k (s.us.map fun b => AV.d (.bool b)) ++ AV.d (.bool true) :: List.drop (s.k + 1) (s.us.map fun b => AV.d (.bool b)) = (s.us.take s.k ++ true :: s.us.drop (s.k + 1)).map fun b => AV.d (.bool b) := by simp
     conv => arg 9; arg 4; unfold b65_0
     cases ub
     ·cases b
      ·simp [hg, hHu, hl, hku, hu, hub.symm, a.lti, a.sz, a.ltm, a.cells, a.le3, a2.lti, a2.sz, a2.ltm, a2.cells, a2.le3, hkw, hk1, hcall, plc_raw]
       refine .next (WiT.mk (s.k + 1) s.us false (below N s.Hs)) (by omega) (by simp) rfl ⟨hl, hu, fun _ => rfl, fun p hp => (blt hp).trans (hH p hp)⟩ (by simp [hg]; omega) (by rw [hst]; simp [woResT, hg])
      ·simp [hg, hHu, hl, hku, hu, hub.symm, a.lti, a.sz, a.ltm, a.cells, a.le3, a2.lti, a2.sz, a2.ltm, a2.cells, a2.le3, hkw, hk1, hcall, plc_raw]
       refine .next (WiT.mk (s.k + 1) (s.us.take s.k ++ true :: s.us.drop (s.k + 1)) true (below N (upd s.Hs oU (usOT (s.us.take s.k ++ true :: s.us.drop (s.k + 1)))))) (by omega) (by simp) (by simp [usOT]) ⟨hl, by simp; omega, (fun h => by cases h), fun p hp => ?_⟩ (by simp [hg]; omega) (by rw [hst]; simp [woResT])
       simp only; rw [blt hp]; simp only [upd]; split
       ·rfl
       ·rename_i hne; rw [hH p hp, une hne]
     ·simp [hg, hHu, hl, hku, hu, hub.symm, a.lti, a.sz, a.ltm, a.cells, a.le3, a2.lti, a2.sz, a2.ltm, a2.cells, a2.le3, hkw, hk1, plc_raw]
      refine .next (WiT.mk (s.k + 1) s.us false (below N s.Hs)) (by omega) (by simp) rfl ⟨hl, hu, fun _ => rfl, fun p hp => (blt hp).trans (hH p hp)⟩ (by simp [hg]; omega) (by rw [hst]; simp [woResT, hg])
    ·have hkl : s.k = m.length := Nat.le_antisymm hk hl
     have hr : woResT same l[i] m s = none := by
      simp only [woResT, hg, Bool.false_eq_true, if_false, hkl, List.drop_length, stepU]
     simp [b65_0, hg, hkl]
     refine .fin _ _ ⟨by simp only; omega, rfl, fun p hp => ?_, m.length, ?_⟩
     ·rw [hr]; simp only [Option.getD_none]; rw [blt hp]; exact hH p hp
     ·rw [hr]; rfl) ⟨0, us, false, upd H oU (usOT us)⟩ ⟨Nat.zero_le _, hus, fun _ => rfl, fun _ _ => rfl⟩
 have e0 : woResT same l[i] m ⟨0, us, false, upd H oU (usOT us)⟩ = stepU same l[i] m us := by
  simp only [woResT, Bool.false_eq_true, if_false, List.drop_zero, List.take_zero, List.nil_append]
  cases stepU same l[i] m us <;> rfl
 rw [e0] at h
 exact h
end Go.Proofs.YtajilkmepjhkdaaGreat.Am

/-
 What is left of a row, as the document takes it away. No condition.
-/
namespace Go.Proofs.YtajilkmepjhkdaaGreat.Am
open Go Go.Proofs
set_option maxHeartbeats 4000000
set_option maxRecDepth 20000
set_option linter.unusedSimpArgs false
set_option linter.unusedVariables false
theorem append_kT {H : Hp} {id : Nat} {o o2 : Oid} {l : List Term} {x : Term} (h : H o = some (gOT l)) (h2 : H o2 = some (.cells (x.enc.map .d))) (hl : l.length ≤ 1048576) :
  appendO Tryz.prog H id 40 40 (gVT o l) (.osl o2 0 1 3 3) = some (gVT o (l ++ [x]), upd H o (gOT (l ++ [x]))) := by
 have hx := x.enc_len
 have e1 : encL [x] = x.enc := by simp [encL]
 cases l with
 | nil =>
  simp only [gOT, if_true] at h
  have hs : srcCells Tryz.prog H 3 40 (.osl o2 0 1 3 3) = some (x.enc, 1, []) := by
   have h3 : List.take 3 (x.enc.map AV.d) = x.enc.map AV.d := List.take_of_length_le (by simp [hx])
   simp [srcCells, srcRaw, h2, hx, h3, allD_mapD, -allD]
  simp [appendO, hs, h, gVT, gOT, growO, e1, hx]
 | cons y r =>
  simp [gOT] at h
  have hs : srcCells Tryz.prog H 3 40 (.osl o2 0 1 3 3) = some (x.enc, 1, []) := by
   have h3 : List.take 3 (x.enc.map AV.d) = x.enc.map AV.d := List.take_of_length_le (by simp [hx])
   simp [srcCells, srcRaw, h2, hx, h3, allD_mapD, -allD]
  have hel2 : (encL (y :: r)).length = (r.length + 1) * 3 := by simpa using encL_len (y :: r)
  have hle : ¬ ((r.length + 1) * 3 + 3 ≤ (r.length + 1) * 3) := by omega
  simp only [List.length_cons] at hl
  have h4 : (r.length + 1) * 3 ≤ 68719476736 := by omega
  have h5 : encL (y :: (r ++ [x])) = encL (y :: r) ++ x.enc := by rw [show y :: (r ++ [x]) = (y :: r) ++ [x] from rfl, encL_append, e1]
  have i5 : ¬ (r.length + 2) * 3 ≤ (r.length + 1) * 3 := by omega
  have i4 : (r.length + 1) * 3 + 3 = (r.length + 2) * 3 := by omega
  have h6 : List.take ((r.length + 1) * 3) ((encL (y :: r)).map AV.d) = (encL (y :: r)).map AV.d := List.take_of_length_le (by simp [hel2])
  generalize encL (y :: r) = EE at *
  simp [appendO, hs, h, gVT, gOT, growO, hel2, hle, h4, h5, hx, i4, i5, h6]
structure WoT where
 i : Nat
 out : List Term
 us : List Bool
 Hs : Hp
structure WoIT (l m : List Term) (oo oU : Oid) (s : WoT) : Prop where
 i : s.i ≤ l.length
 u : s.us.length = m.length
 hU : s.Hs oU = some (.cells (s.us.map fun b => .d (.bool b)))
 ho : s.Hs oo = some (gOT s.out)
 ol : s.out.length ≤ s.i
abbrev woToT (l m : List Term) (f1 f2 : Bool) (n1 n2 : Option Bool) (v5 v6 : AV) (i : Nat) : List AV := [.d (.sl (encL l) l.length f1 n1), .d (.sl (encL m) m.length f2 n2), .junk, .junk, .osl (0, 1) 0 0 1 0, v5, v6, .d (.int .i64 i), .junk, .junk, .junk, .junk, .junk, .junk, .junk, .junk, .junk, .junk, .junk, .junk, .junk, .junk, .junk, .junk, .junk, .junk, .junk, .junk, .junk, .junk, .junk, .junk, .junk, .junk, .junk, .junk, .junk, .junk, .junk, .junk, .junk, .junk, .junk, .junk, .junk, .junk, .junk, .junk, .junk, .junk, .junk, .junk, .junk, .junk, .junk, .junk, .junk, .junk]
def WoET (N : Nat) (l m : List Term) (f1 f2 : Bool) (n1 n2 : Option Bool) (oo : Oid) (v6 : AV) (r : List Term) (e : Ex) (st : St) : Prop :=
 N ≤ st.nx ∧ e = .exit 0 ∧ st.hp oo = some (gOT r) ∧ st.tm = woToT l m f1 f2 n1 n2 (gVT oo r) v6 l.length
theorem woT_loop {same : Term → Term → Bool} (hsame : ∀ x y : Term, x.ok → y.ok → pcl Cp 63 [.agg x.enc, .agg y.enc] = some (.bool (same x y))) {l m : List Term} (hll : l.length ≤ 1048576) (hml : m.length ≤ 1048576) (hlo : ∀ x ∈ l, x.ok) (hmo : ∀ x ∈ m, x.ok) (f1 f2 : Bool) (n1 n2 : Option Bool) {N : Nat} {oo oU : Oid} (hU : oU.1 < N) (ho : oo.1 < N) (hne : oo ≠ oU) (s0 : WoT) (hI0 : WoIT l m oo oU s0) :
  ∃ e st, aloop Tryz.prog plc b65_1 ⟨[true, true, false, false, true, true, true, true, false, false, false, false, false, false, false, false, false, false, false, false, false, false, false, false, false, false, false, false, false, false, false, false, false, false, false, false, false, false, false, false, false, false, false, false, false, false, false, false, false, false, false, false, false, false, false, false, false, true], some N⟩ ⟨woToT l m f1 f2 n1 n2 (gVT oo s0.out) (.osl oU 0 m.length 1 m.length) s0.i, s0.Hs, N⟩ = some (e, st) ∧ WoET N l m f1 f2 n1 n2 oo (.osl oU 0 m.length 1 m.length) (s0.out ++ restU same (l.drop s0.i) m s0.us) e st :=
 loop_rule (P := Tryz.prog) (pol := plc) (c := b65_1) (m := ⟨[true, true, false, false, true, true, true, true, false, false, false, false, false, false, false, false, false, false, false, false, false, false, false, false, false, false, false, false, false, false, false, false, false, false, false, false, false, false, false, false, false, false, false, false, false, false, false, false, false, false, false, false, false, false, false, false, false, true], some N⟩)
  (b := N) (tm := fun (s : WoT) => woToT l m f1 f2 n1 n2 (gVT oo s.out) (.osl oU 0 m.length 1 m.length) s.i) (Hf := fun s => s.Hs)
  (I := WoIT l m oo oU) (μ := fun s => l.length - s.i) (res := fun s => s.out ++ restU same (l.drop s.i) m s.us) (R := WoET N l m f1 f2 n1 n2 oo (.osl oU 0 m.length 1 m.length))
  (fun s nx1 hI => by
   have hHo := hI.ho
   have hHU := hI.hU
   rcases Nat.lt_or_ge s.i l.length with hl | hl
   ·have hHe : upd s.Hs oU (usOT s.us) = s.Hs := by
     funext p; simp only [upd]; split
     ·rename_i h; rw [h, hHU]
     ·rfl
    obtain ⟨e, st, hrun, hN, rfl, hst, k, htm⟩ := woT_in same hsame hll hml hlo hmo f1 f2 n1 n2 (N := nx1 + N + 6) (i := s.i) (oU := oU) (by omega) s.Hs (.osl (0, 1) 0 0 1 0) (gVT oo s.out) hl s.us hI.u
    rw [hHe] at hrun
    obtain ⟨tm, Hi, ni⟩ := st
    simp only at htm hst hN
    subst htm
    have hrd : restU same (l.drop s.i) m s.us = (match stepU same l[s.i] m s.us with | none => l[s.i] :: restU same (l.drop (s.i + 1)) m s.us | some us' => restU same (l.drop (s.i + 1)) m us') := by rw [List.drop_eq_getElem_cons hl]; rfl
    have hiw : IntKind.i64.wrap ((s.i : Int) + 1) = (s.i : Int) + 1 := wrap_i64 (by omega) (by omega)
    have hil : (s.i : Int) < (l.length : Int) := by omega
    obtain ⟨v, fn, args, a⟩ := at_ok (ts := l) (by omega) hl
    have e1 : l[s.i] = .mk v fn args := a.get
    have hio : Hi oo = some (gOT s.out) := by rw [hst _ (by omega), une hne]; exact hHo
    have hol := hI.ol
    conv => arg 9; arg 4; unfold b65_1
    cases hq : stepU same l[s.i] m s.us with
    | none =>
     rw [hq] at hrun hrd hst
     simp only [Option.isSome_none, Option.getD_none] at hrun hst
     have hiU : Hi oU = some (usOT s.us) := by rw [hst _ (by omega)]; exact upd_same _ _ _
     have happ := append_kT (H := upd Hi (ni + 7, 0) (.cells [.d (.int .i64 v), .d (.str fn), .d (.sl (encL args) args.length false none)])) (id := ni + 8) (o := oo) (o2 := (ni + 7, 0)) (l := s.out) (x := .mk v fn args) (by rw [uold (by omega)]; exact hio) (by rw [upd_same]; simp [Term.enc]) (by omega)
     rw [gVT_app] at happ
     simp [hil, Nat.add_assoc] at hrun ⊢
     simp [hrun, a.lti, a.sz, a.ltm, a.cells, a.le3, a.w, plc_raw, Nat.add_assoc, happ]
     refine .next (WoT.mk (s.i + 1) (s.out ++ [.mk v fn args]) s.us (below N (upd (upd Hi (ni + 7, 0) (.cells [.d (.int .i64 v), .d (.str fn), .d (.sl (encL args) args.length false none)])) oo (gOT (s.out ++ [.mk v fn args]))))) (by omega) (by simp [gVT_app]) rfl ⟨hl, hI.u, ?_, ?_, by simp; omega⟩ (by simp only; omega) ?_
     ·simp only; rw [blt hU, une (Ne.symm hne), uold (by omega)]; exact hiU
     ·simp only; rw [blt ho, upd_same]
     ·simp only; rw [hrd, e1]; simp
    | some us' =>
     rw [hq] at hrun hrd hst
     simp only [Option.isSome_some, Option.getD_some] at hrun hst
     have hiU : Hi oU = some (usOT us') := by rw [hst _ (by omega)]; exact upd_same _ _ _
     have hul := stepU_len hq
     simp [hil, Nat.add_assoc] at hrun ⊢
     simp [hrun, a.lti, a.sz, a.ltm, a.cells, a.le3, a.w, plc_raw, Nat.add_assoc]
     refine .next (WoT.mk (s.i + 1) s.out us' (below N Hi)) (by omega) (by simp) rfl ⟨hl, by rw [hul]; exact hI.u, ?_, ?_, by simp only; omega⟩ (by simp only; omega) ?_
     ·simp only; rw [blt hU]; exact hiU
     ·simp only; rw [blt ho]; exact hio
     ·simp only; rw [hrd]
   ·have hie : s.i = l.length := Nat.le_antisymm hI.i hl
    simp [b65_1, hie]
    refine .fin _ _ ⟨by simp only; omega, rfl, ?_, ?_⟩
    ·simp only [hie, List.drop_length, restU, List.append_nil]; rw [blt ho]; exact hHo
    ·simp only [hie, List.drop_length, restU, List.append_nil]) s0 hI0
theorem woT_ok {same : Term → Term → Bool} (hsame : ∀ x y : Term, x.ok → y.ok → pcl Cp 63 [.agg x.enc, .agg y.enc] = some (.bool (same x y))) {l m : List Term} (hll : l.length ≤ 1048576) (hml : m.length ≤ 1048576) (hlo : ∀ x ∈ l, x.ok) (hmo : ∀ x ∈ m, x.ok) (f1 f2 : Bool) (n1 n2 : Option Bool) :
  ∃ nl : Bool, pcl Cp 65 [.sl (encL l) l.length f1 n1, .sl (encL m) m.length f2 n2] = some (.sl (encL (restF same l m)) (restF same l m).length false (some nl)) := by
 obtain ⟨H0, hH0⟩ : ∃ H0 : Hp, H0 = upd (upd (upd (fun _ => none) (0, 1) .vnil) (1, 1) .vnil) (4, 0) (.cells (List.replicate m.length (.d (.bool false)))) := ⟨_, rfl⟩
 obtain ⟨e, st, hrun, hN2, rfl, hout, htm⟩ := woT_loop hsame hll hml hlo hmo f1 f2 n1 n2 (N := 7) (oo := (1, 1)) (oU := (4, 0)) (by decide) (by decide) (by decide) ⟨0, [], List.replicate m.length false, H0⟩
  ⟨Nat.zero_le _, by simp, by rw [hH0]; simp, by rw [hH0]; simp [upd, gOT], Nat.le_refl _⟩
 obtain ⟨tm, Hs, ns⟩ := st
 simp only [List.nil_append, List.drop_zero] at htm hout hrun
 rw [rest_replicate] at htm hout
 subst htm
 have hrl := encL_len (restF same l m)
 have hfin : restF same l m ≠ [] → mapD (reify Hs 5) (List.take ((restF same l m).length * 3) ((encL (restF same l m)).map AV.d)) = some (encL (restF same l m), []) := fun _ => by
  rw [List.take_of_length_le (by simp [hrl])]; exact mapD_encT _ _ _
 have hm : (m.length : Int) ≤ 1099511627776 := by omega
 refine ⟨decide (restF same l m = []), pcl_body code65 ?_⟩
 generalize restF same l m = rr at *
 have hz : ¬ rr = [] → ¬ rr.length = 0 := fun h e => h (List.length_eq_zero_iff.1 e)
 by_cases hr : rr = []
 ·subst hr
  simp [woToT, gVT, gOT] at hrun hout
  simp [plc_raw, hm, ← hH0, hrun, hout, encL]
 ·have hfin := hfin hr
  have hz := hz hr
  simp [woToT, gVT, gOT, hr] at hrun hout
  simp [plc_raw, hm, ← hH0, hrun, hout, hr, hrl, hfin]
end Go.Proofs.YtajilkmepjhkdaaGreat.Am

/-
 What is left of a row behind taking away another one. No condition.
-/
namespace Go.Proofs.YtajilkmepjhkdaaGreat.Am
open Go Go.Proofs
set_option maxHeartbeats 4000000
set_option maxRecDepth 20000
set_option linter.unusedSimpArgs false
set_option linter.unusedVariables false
theorem delRowT_ok {H : Hp} {v : AV} {a b : List Term} {q : Term} {o : Oid} (h : RowT H v (a ++ q :: b) o) (nx : Nat) (ho : o.1 < nx) :
  ∃ (n ver : Nat) (H' : Hp) (nx' : Nat), acall Tryz.prog plc 73 [v, .d (.int .i64 a.length), .d (.int .i64 (a.length + 1))] H nx = some (.osl o 0 n 3 ver, H', nx') ∧ nx ≤ nx' ∧ RowT H' (.osl o 0 n 3 ver) (a ++ b) o ∧ ∀ p : Oid, p.1 < nx → p ≠ o → H' p = H p := by
 generalize hmq : a ++ q :: b = mq at h
 cases h with
 | vn o h => simp at hmq
 | row o _ cs hc hv ht hb =>
  subst hmq
  have hlen1 : (a ++ q :: b).length = a.length + b.length + 1 := by simp; omega
  obtain ⟨cs', H1, N1, hdel, hN1, hc1, hk1, hcl, htk⟩ := delT_ok hc hv ht hb nx ho (a.length + b.length) rfl
  have hrow' := RowT.row (H := H1) o (a ++ b) cs' hc1 (by rw [hcl]; simp only [List.length_append, List.length_cons] at hv ⊢; omega) htk (by omega)
  rw [hcl, show (a ++ b).length = a.length + b.length by simp] at hrow'
  rw [hlen1]
  exact ⟨_, _, H1, N1, hdel, hN1, hrow', hk1⟩
structure RsT where
 i : Nat
 out : List Term
 m : List Term
 mv : AV
 H : Hp
abbrev restTmT (l : List Term) (f1 : Bool) (n1 : Option Bool) (mv out : AV) (i : Nat) : List AV := [.junk, mv, .junk, .junk, .junk, .ptr (0, 0) 0 1, .osl (1, 1) 0 0 1 0, out, .junk, .junk, .junk, .junk, .junk, .d (.sl (encL l) l.length f1 n1), .d (.int .i64 l.length), .d (.int .i64 i), .junk, .junk, .junk, .junk, .junk, .junk, .junk, .junk, .junk, .junk, .junk, .junk, .junk, .junk, .junk, .junk, .junk, .junk, .junk]
structure RsIT (l : List Term) (om oo : Oid) (s : RsT) : Prop where
 il : s.i ≤ l.length
 row : RowT s.H s.mv s.m om
 out : s.H oo = some (gOT s.out)
 ol : s.out.length ≤ s.i
 sm : s.H (0, 0) = some (.cells [.d (.fn 26 [])])
 mm : ∀ x ∈ s.m, x.ok
 ml : s.m.length ≤ 1048576
def RsET (N : Nat) (l : List Term) (f1 : Bool) (n1 : Option Bool) (oo : Oid) (r : List Term) (e : Ex) (st : St) : Prop :=
 N ≤ st.nx ∧ e = .exit 0 ∧ st.hp oo = some (gOT r) ∧ ∃ mv, st.tm = restTmT l f1 n1 mv (gVT oo r) l.length
theorem restT_loop (same : Term → Term → Bool) (hsame : ∀ x y : Term, x.ok → y.ok → pcl Cp 26 [.agg x.enc, .agg y.enc] = some (.bool (same x y))) (l : List Term) (hll : l.length ≤ 1048576) (hlo : ∀ x ∈ l, x.ok) (f1 : Bool) (n1 : Option Bool) {om oo : Oid} {N : Nat} (h1 : 0 < om.1) (h2 : om.1 < oo.1) (h3 : oo.1 < N) (s0 : RsT) (hI0 : RsIT l om oo s0) :
  ∃ e st, aloop Tryz.prog plc b47_0 ⟨[false, true, false, false, false, true, true, true, false, false, false, false, false, true, true, true, false, false, false, false, false, false, false, false, false, false, false, false, false, false, false, false, false, false, true], some N⟩ ⟨restTmT l f1 n1 s0.mv (gVT oo s0.out) s0.i, s0.H, N⟩ = some (e, st) ∧ RsET N l f1 n1 oo (s0.out ++ restF same (l.drop s0.i) s0.m) e st :=
 loop_rule (P := Tryz.prog) (pol := plc) (c := b47_0) (m := ⟨[false, true, false, false, false, true, true, true, false, false, false, false, false, true, true, true, false, false, false, false, false, false, false, false, false, false, false, false, false, false, false, false, false, false, true], some N⟩)
  (b := N) (tm := fun (s : RsT) => restTmT l f1 n1 s.mv (gVT oo s.out) s.i) (Hf := fun s => s.H)
  (I := RsIT l om oo) (μ := fun s => l.length - s.i) (res := fun s => s.out ++ restF same (l.drop s.i) s.m) (R := RsET N l f1 n1 oo)
  (fun s nx1 hI => by
   have hrow := hI.row
   have hout := hI.out
   have hsm := hI.sm
   have hn : l.length ≤ 9223372036854775807 := by omega
   rcases Nat.lt_or_ge s.i l.length with hl | hl
   ·obtain ⟨v, fn, args, a⟩ := at_ok hn hl
    have hx := hlo _ a.mem
    have hget : l[s.i] = .mk v fn args := a.get
    obtain ⟨Hb, hHb⟩ : ∃ Hb : Hp, Hb = upd (upd s.H (nx1 + (N + 3), 3) .vnil) (nx1 + (N + 3), 0) (.cells [.d (.int .i64 v), .d (.str fn), .d (.sl (encL args) args.length false none)]) := ⟨_, rfl⟩
    have hbk : ∀ p : Oid, p.1 < N → Hb p = s.H p := fun p hp => by rw [hHb]; simp only [uold (show p.1 < nx1 + (N + 3) by omega)]
    have hbs : Hb (nx1 + (N + 3), 0) = some (.cells [.d (.int .i64 v), .d (.str fn), .d (.sl (encL args) args.length false none)]) := by rw [hHb]; exact upd_same _ _ _
    have hb0 : Hb (0, 0) = some (.cells [.d (.fn 26 [])]) := (hbk _ (by simp only; omega)).trans hsm
    have hrb : RowT Hb s.mv s.m om := hrow.keep (hbk _ (by omega))
    have hbo : Hb oo = some (gOT s.out) := (hbk _ h3).trans hout
    obtain ⟨nl, is, hre⟩ := reify_rowT hrb
    have hre6 := hre 5
    simp only [Nat.reduceAdd] at hre6
    have hidx := idxT_ok (g := 72) (caps := [.dptr [.fn 26 []], .dptr (Term.mk v fn args).enc]) (fl := false) (nl := nl) (p := same (.mk v fn args)) (ts := s.m) (by have := hI.ml; omega) ⟨rfl, rfl, by decide⟩ (fun y hy => rest1T_ok (hsame _ _ hx (hI.mm y hy)))
    simp [Term.enc] at hidx
    have hol := hI.ol
    have hdr := a.dr
    have hfr : restF same (l.drop s.i) s.m = (match s.m.findIdx? (same (.mk v fn args)) with | none => .mk v fn args :: restF same (l.drop (s.i + 1)) s.m | some k => restF same (l.drop (s.i + 1)) (s.m.eraseIdx k)) := by rw [hdr]; rfl
    cases hq : s.m.findIdx? (same (.mk v fn args)) with
    | none =>
     rw [hq] at hidx hfr
     simp only at hidx hfr
     have happ := append_gT (H := upd Hb (nx1 + (N + 13), 0) (.cells [.d (.int .i64 v), .d (.str fn), .d (.sl (encL args) args.length false none)])) (id := nx1 + (N + 14)) (o := oo) (o2 := (nx1 + (N + 13), 0)) (l := s.out) (x := .mk v fn args) (by rw [uold (by omega)]; exact hbo) (by rw [upd_same]; simp [Term.enc]) (by omega)
     rw [gVT_app] at happ
     conv => arg 9; arg 4; unfold b47_0
     simp [a.lti, a.sz, a.ltm, a.cells, a.le3, a.w, plc_raw, Nat.add_assoc, ← hHb, hb0, hbs, hre6, hidx, happ]
     refine .next (RsT.mk (s.i + 1) (s.out ++ [.mk v fn args]) s.m s.mv (below N (upd (upd Hb (nx1 + (N + 13), 0) (.cells [.d (.int .i64 v), .d (.str fn), .d (.sl (encL args) args.length false none)])) oo (gOT (s.out ++ [.mk v fn args]))))) (by omega) (by simp [gVT_app]) rfl ⟨hl, ?_, ?_, by simp; omega, ?_, hI.mm, hI.ml⟩ (by simp only; omega) ?_
     ·exact hrb.keep (by simp only; rw [blt (by omega), une (fun e => by rw [e] at h2; omega), uold (by omega)])
     ·simp only; rw [blt h3, upd_same]
     ·simp only; rw [blt (by simp only; omega), une (fun e => by rw [← e] at h2; simp at h2), uold (by simp only; omega)]; exact hb0
     ·simp only; rw [hfr]; simp
    | some k =>
     rw [hq] at hidx hfr
     simp only at hidx hfr
     obtain ⟨aa, q, bb, e1, e2, e3⟩ := splitT hq
     have hml := hI.ml
     have hmm := hI.mm
     rw [e3] at hfr
     rw [e1] at hml hmm
     have hk0 : ¬ ((k : Int) < 0) := by omega
     have hkw : IntKind.i64.wrap ((k : Int) + 1) = (k : Int) + 1 := wrap_i64 (by simp at hml; omega) (by simp at hml; omega)
     rw [e1] at hrb
     obtain ⟨n', ver', H1, N1, hdel, hN1, hrow', hk1⟩ := delRowT_ok hrb (nx1 + (N + 17)) (by omega)
     rw [e2] at hdel
     conv => arg 9; arg 4; unfold b47_0
     simp [a.lti, a.sz, a.ltm, a.cells, a.le3, a.w, plc_raw, Nat.add_assoc, ← hHb, hb0, hbs, hre6, hidx, hk0, hkw, hdel]
     refine .next (RsT.mk (s.i + 1) s.out (aa ++ bb) (.osl om 0 n' 3 ver') (below N H1)) (by omega) (by simp) rfl ⟨hl, ?_, ?_, by simp only; omega, ?_, fun x hx => hmm x (by simp only [List.mem_append, List.mem_cons] at hx ⊢; rcases hx with h | h; exact .inl h; exact .inr (.inr h)), by simp at hml ⊢; omega⟩ (by simp only; omega) ?_
     ·exact hrow'.keep (by simp only; rw [blt (by omega)])
     ·simp only; rw [blt h3, hk1 _ (by omega) (fun e => by rw [e] at h2; omega)]; exact hbo
     ·simp only; rw [blt (by simp only; omega), hk1 _ (by simp only; omega) (fun e => by rw [← e] at h1; simp at h1)]; exact hb0
     ·simp only; rw [hfr]
   ·have hie : s.i = l.length := Nat.le_antisymm hI.il hl
    simp [b47_0, hie]
    refine .fin _ _ ⟨by simp only; omega, rfl, ?_, s.mv, ?_⟩
    ·simp only [hie, List.drop_length, restF, List.append_nil]; rw [blt h3]; exact hout
    ·simp only [hie, List.drop_length, restF, List.append_nil]) s0 hI0
end Go.Proofs.YtajilkmepjhkdaaGreat.Am

/-
 What is left of a row behind taking away another one: the whole function. No condition.
-/
namespace Go.Proofs.YtajilkmepjhkdaaGreat.Am
open Go Go.Proofs
set_option maxHeartbeats 4000000
set_option maxRecDepth 20000
set_option linter.unusedSimpArgs false
set_option linter.unusedVariables false
theorem restT_ok {same : Term → Term → Bool} (hsame : ∀ x y : Term, x.ok → y.ok → pcl Cp 26 [.agg x.enc, .agg y.enc] = some (.bool (same x y))) {l m : List Term} (hll : l.length ≤ 1048576) (hml : m.length ≤ 1048576) (hlo : ∀ x ∈ l, x.ok) (hmo : ∀ x ∈ m, x.ok) (f1 f2 b : Bool) (n1 : Option Bool) (hb : b = true → m = []) :
  ∃ nl : Bool, pcl Cp 47 [.sl (encL l) l.length f1 n1, .sl (encL m) m.length f2 (some b), .fn 26 []] = some (.sl (encL (restF same l m)) (restF same l m).length false (some nl)) ∧ (nl = true → restF same l m = []) := by
 obtain ⟨H0, hH0⟩ : ∃ H0 : Hp, H0 = upd (upd (fun _ => none) (0, 0) (.cells [.d (.fn 26 [])])) (1, 1) .vnil := ⟨_, rfl⟩
 obtain ⟨v, H1, N1, om, hclo, hrow, hN, ho1, ho2, hk⟩ := cloT_ok H0 5 f2 b m hml hb
 have hnv : isNil v = false := by cases hrow <;> rfl
 have h00 : H1 (0, 0) = some (.cells [.d (.fn 26 [])]) := by rw [hk _ (by decide), hH0]; simp [upd]
 obtain ⟨e, st, hrun, hN2, rfl, hout, mv', htm⟩ := restT_loop same hsame l hll hlo f1 n1 (om := om) (oo := (N1, 1)) (N := N1 + 4) (by omega) (by simp only; omega) (by simp only; omega) ⟨0, [], m, v, upd H1 (N1, 1) .vnil⟩
  ⟨Nat.zero_le _, hrow.keep (uold ho2 _ _ _), by simp [gOT], Nat.le_refl _, (uold (by simp only; omega) _ _ _).trans h00, hmo, hml⟩
 obtain ⟨tm, Hs, ns⟩ := st
 simp only [List.nil_append, List.drop_zero] at htm hout hrun
 subst htm
 refine ⟨decide (restF same l m = []), pcl_body code47 ?_, fun h => by simpa using h⟩
 have hrl := encL_len (restF same l m)
 have hfin : restF same l m ≠ [] → mapD (reify Hs 5) (List.take ((restF same l m).length * 3) ((encL (restF same l m)).map AV.d)) = some (encL (restF same l m), []) := fun _ => by
  rw [List.take_of_length_le (by simp [hrl])]; exact mapD_encT _ _ _
 generalize restF same l m = rr at *
 have hz : ¬ rr = [] → ¬ rr.length = 0 := fun h e => h (List.length_eq_zero_iff.1 e)
 cases hrow with
 | vn o h =>
  simp only [List.length_nil, encL] at hclo
  by_cases hr : rr = []
  ·subst hr
   simp [restTmT, gVT, gOT] at hrun hout
   simp [plc_raw, ← hH0, hclo, hrun, hout, encL]
  ·have hfin := hfin hr
   have hz := hz hr
   simp [restTmT, gVT, gOT, hr] at hrun hout
   simp [plc_raw, ← hH0, hclo, hrun, hout, hr, hrl, hfin, encL]
 | row o _ cs h hv ht hb2 =>
  by_cases hr : rr = []
  ·subst hr
   simp [restTmT, gVT, gOT] at hrun hout
   simp [plc_raw, ← hH0, hclo, hrun, hout, encL]
  ·have hfin := hfin hr
   have hz := hz hr
   simp [restTmT, gVT, gOT, hr] at hrun hout
   simp [plc_raw, ← hH0, hclo, hrun, hout, hr, hrl, hfin, encL]
end Go.Proofs.YtajilkmepjhkdaaGreat.Am

/-
 The program's extension of an order to multisets. No condition.
-/
namespace Go.Proofs.YtajilkmepjhkdaaGreat.Am
open Go Go.Proofs
set_option maxHeartbeats 4000000
set_option maxRecDepth 20000
set_option linter.unusedSimpArgs false
set_option linter.unusedVariables false
theorem ext111T_ok {os : List D} (hos : wkL os = os) {s t : Term} {k : Int} (h : pcl Cp 12 [.agg os, .agg s.enc, .agg t.enc] = some (.int .i64 k)) : pcl Cp 51 [.agg s.enc, .dptr [.fn (12 + 1000000001) [.agg os]], .dptr t.enc] = some (.bool (decide (k = 1))) := by
 refine pcl_body code51 ?_
 obtain ⟨v, fn, args⟩ := s
 obtain ⟨w, fm, brgs⟩ := t
 simp [Term.enc] at h
 simp [Term.enc, plc_raw, h, hos]
theorem ext11T_ok {os : List D} (hos : wkL os = os) {t : Term} {a : List Term} {tc : Term → Term → Int} (hn : a.length ≤ 1048576) (fl : Bool) (nl : Option Bool) (h : ∀ s ∈ a, pcl Cp 12 [.agg os, .agg s.enc, .agg t.enc] = some (.int .i64 (tc s t))) :
  pcl Cp 50 [.agg t.enc, .dptr [.sl (encL a) a.length fl nl], .dptr [.fn (12 + 1000000001) [.agg os]]] = some (.bool (!a.any fun s => decide (tc s t = 1))) := by
 have hc := conT_ok (g := 51) (caps := [.dptr [.fn (12 + 1000000001) [.agg os]], .dptr t.enc]) (fl := fl) (nl := nl) (p := fun s => decide (tc s t = 1)) (ts := a) (by omega) ⟨rfl, rfl, by decide⟩ (fun s hs => ext111T_ok hos (h s hs))
 refine pcl_body code50 ?_
 generalize (a.any fun s => decide (tc s t = 1)) = r at *
 obtain ⟨v, fn, args⟩ := t
 simp [Term.enc] at hc
 simp [Term.enc, plc_raw, hc]
theorem ext1T_ok {os : List D} (hos : wkL os = os) {a b : List Term} {tc : Term → Term → Int} (hn : a.length ≤ 1048576) (hm : b.length ≤ 1048576) (fl2 : Bool) (nl nl2 : Option Bool) (h : ∀ s ∈ a, ∀ t ∈ b, pcl Cp 12 [.agg os, .agg s.enc, .agg t.enc] = some (.int .i64 (tc s t))) :
  pcl Cp 48 [.sl (encL a) a.length false nl, .sl (encL b) b.length fl2 nl2, .dptr [.fn (12 + 1000000001) [.agg os]]] = some (.bool (coversF (fun s t => decide (tc s t = 1)) a b)) := by
 have hc := conT_ok (g := 50) (caps := [.dptr [.sl (encL a) a.length false nl], .dptr [.fn (12 + 1000000001) [.agg os]]]) (fl := fl2) (nl := nl2) (p := fun t => !a.any fun s => decide (tc s t = 1)) (ts := b) (by omega) ⟨rfl, rfl, by decide⟩ (fun t ht => ext11T_ok hos hn false nl (fun s hs => h s hs t ht))
 have he : coversF (fun s t => decide (tc s t = 1)) a b = (decide (0 < a.length) && !(b.any fun t => !a.any fun s => decide (tc s t = 1))) := by
  unfold coversF
  congr 1
  ·cases a <;> rfl
  ·rw [List.not_any_eq_all_not]; simp
 rw [he]
 refine pcl_body code48 ?_
 generalize (b.any fun t => !a.any fun s => decide (tc s t = 1)) = r at *
 simp at hc
 by_cases ha : 0 < a.length
 ·have ha' : (0 : Int) < (a.length : Int) := by omega
  simp [-isNil, isNil_sl, isNil_int, isNil_bool, isNil_str, isNil_agg, isNil_dptr, isNil_fn, isNil_fna, isNil_osl, isNil_ptr, isNil_agga, plc_raw, ha, ha', hc]
 ·have ha' : ¬ (0 : Int) < (a.length : Int) := by omega
  simp [-isNil, isNil_sl, isNil_int, isNil_bool, isNil_str, isNil_agg, isNil_dptr, isNil_fn, isNil_fna, isNil_osl, isNil_ptr, isNil_agga, plc_raw, ha, ha']
theorem extT_ok {os : List D} (hos : wkL os = os) {same : Term → Term → Bool} (hsame : ∀ x y : Term, x.ok → y.ok → pcl Cp 26 [.agg x.enc, .agg y.enc] = some (.bool (same x y))) {l m : List Term} {tc : Term → Term → Int} (hll : l.length ≤ 1048576) (hml : m.length ≤ 1048576) (hlo : ∀ x ∈ l, x.ok) (hmo : ∀ x ∈ m, x.ok)
  (h1 : ∀ s ∈ l, ∀ t ∈ m, pcl Cp 12 [.agg os, .agg s.enc, .agg t.enc] = some (.int .i64 (tc s t))) (h2 : ∀ s ∈ m, ∀ t ∈ l, pcl Cp 12 [.agg os, .agg s.enc, .agg t.enc] = some (.int .i64 (tc s t))) (f1 f2 b1 b2 : Bool) (hb1 : b1 = true → l = []) (hb2 : b2 = true → m = []) :
  pcl Cp 24 [.sl (encL l) l.length f1 (some b1), .sl (encL m) m.length f2 (some b2), .fn 26 [], .fn (12 + 1000000001) [.agg os]] = some (.int .i64 (extF same (fun s t => decide (tc s t = 1)) l m)) := by
 obtain ⟨nx, hx, _⟩ := restT_ok hsame hll hml hlo hmo f1 f2 b2 (some b1) hb2
 obtain ⟨ny, hy, _⟩ := restT_ok hsame hml hll hmo hlo f2 f1 b1 (some b2) hb1
 have mx := rest_mem (same := same) l m
 have my := rest_mem (same := same) m l
 have lx : (restF same l m).length ≤ 1048576 := Nat.le_trans (rest_len l m) hll
 have ly : (restF same m l).length ≤ 1048576 := Nat.le_trans (rest_len m l) hml
 have c1 := ext1T_ok hos (a := restF same l m) (b := restF same m l) (tc := tc) lx ly false (some nx) (some ny) (fun s hs t ht => h1 s (mx s hs) t (my t ht))
 have c2 := ext1T_ok hos (a := restF same m l) (b := restF same l m) (tc := tc) ly lx false (some ny) (some nx) (fun s hs t ht => h2 s (my s hs) t (mx t ht))
 refine pcl_body code24 ?_
 unfold extF
 generalize restF same l m = x at *
 generalize restF same m l = y at *
 generalize coversF (fun s t => decide (tc s t = 1)) x y = r1 at *
 generalize coversF (fun s t => decide (tc s t = 1)) y x = r2 at *
 have hw : IntKind.i64.wrap ((x.length : Int) + (y.length : Int)) = (x.length : Int) + (y.length : Int) := wrap_i64 (by omega) (by omega)
 simp at c1 c2
 have hw0 : IntKind.i64.wrap 0 = 0 := by decide
 by_cases h0 : x.length + y.length = 0
 ·have h0' : (x.length : Int) + (y.length : Int) = 0 := by omega
  simp [-isNil, isNil_sl, isNil_int, isNil_bool, isNil_str, isNil_agg, isNil_dptr, isNil_fn, isNil_fna, isNil_osl, isNil_ptr, isNil_agga, plc_raw, hx, hy, hw, hw0, h0, h0']
 ·have h0' : ¬ (x.length : Int) + (y.length : Int) = 0 := by omega
  have h00 : x = [] → ¬ y = [] := fun e1 e2 => h0 (by rw [e1, e2]; rfl)
  cases r1
  ·cases r2 <;> simp [hw0, -isNil, isNil_sl, isNil_int, isNil_bool, isNil_str, isNil_agg, isNil_dptr, isNil_fn, isNil_fna, isNil_osl, isNil_ptr, isNil_agga, plc_raw, hx, hy, hw, h0, h0', c1, c2] <;> exact h00
  ·simp [hw0, -isNil, isNil_sl, isNil_int, isNil_bool, isNil_str, isNil_agg, isNil_dptr, isNil_fn, isNil_fna, isNil_osl, isNil_ptr, isNil_agga, plc_raw, hx, hy, hw, h0, h0', c1]; exact h00
end Go.Proofs.YtajilkmepjhkdaaGreat.Am

/-
 Literals: when two are the same, their sides, both programs'. No condition.
-/
namespace Go.Proofs.YtajilkmepjhkdaaGreat.Am
open Go Go.Proofs
set_option maxHeartbeats 4000000
set_option maxRecDepth 20000
set_option linter.unusedSimpArgs false
set_option linter.unusedVariables false
theorem lSame_ok (x y : Lt) (hx : x.ok) (hy : y.ok) : pcl Cp 16 [.agg x.enc, .agg y.enc] = some (.bool (x.same y)) := by
 have h1 := same_ok x.l hx.1 y.l hy.1
 have h2 := same_ok x.r hx.2 y.r hy.2
 have h3 := same_ok x.l hx.1 y.r hy.2
 have h4 := same_ok x.r hx.2 y.l hy.1
 refine pcl_body code16 ?_
 unfold Lt.same
 obtain ⟨n, ⟨v, fn, args⟩, ⟨v2, fn2, args2⟩⟩ := x
 obtain ⟨m, ⟨w, fm, brgs⟩, ⟨w2, fm2, brgs2⟩⟩ := y
 simp only at h1 h2 h3 h4 ⊢
 generalize (Term.mk v fn args).sameB (.mk w fm brgs) = b1 at *
 generalize (Term.mk v2 fn2 args2).sameB (.mk w2 fm2 brgs2) = b2 at *
 generalize (Term.mk v fn args).sameB (.mk w2 fm2 brgs2) = b3 at *
 generalize (Term.mk v2 fn2 args2).sameB (.mk w fm brgs) = b4 at *
 simp [Term.enc] at h1 h2 h3 h4
 by_cases hnm : n = m
 ·subst hnm
  cases b1
  ·cases b3 <;> simp [Lt.enc, Term.enc, plc_raw, h1, h3, h4]
  ·cases b2
   ·cases b3 <;> simp [Lt.enc, Term.enc, plc_raw, h1, h2, h3, h4]
   ·simp [Lt.enc, Term.enc, plc_raw, h1, h2]
 ·simp [Lt.enc, Term.enc, plc_raw, hnm]
theorem rlSame_ok (x y : Lt) (hx : x.ok) (hy : y.ok) : pcl Cp 41 [.agg x.enc, .agg y.enc] = some (.bool (x.same y)) := by
 have h1 := rsame_ok x.l hx.1 y.l hy.1
 have h2 := rsame_ok x.r hx.2 y.r hy.2
 have h3 := rsame_ok x.l hx.1 y.r hy.2
 have h4 := rsame_ok x.r hx.2 y.l hy.1
 refine pcl_body code41 ?_
 unfold Lt.same
 obtain ⟨n, ⟨v, fn, args⟩, ⟨v2, fn2, args2⟩⟩ := x
 obtain ⟨m, ⟨w, fm, brgs⟩, ⟨w2, fm2, brgs2⟩⟩ := y
 simp only at h1 h2 h3 h4 ⊢
 generalize (Term.mk v fn args).sameB (.mk w fm brgs) = b1 at *
 generalize (Term.mk v2 fn2 args2).sameB (.mk w2 fm2 brgs2) = b2 at *
 generalize (Term.mk v fn args).sameB (.mk w2 fm2 brgs2) = b3 at *
 generalize (Term.mk v2 fn2 args2).sameB (.mk w fm brgs) = b4 at *
 simp [Term.enc] at h1 h2 h3 h4
 by_cases hnm : n = m
 ·subst hnm
  cases b1
  ·cases b3 <;> simp [Lt.enc, Term.enc, plc_raw, h1, h3, h4]
  ·cases b2
   ·cases b3 <;> simp [Lt.enc, Term.enc, plc_raw, h1, h2, h3, h4]
   ·simp [Lt.enc, Term.enc, plc_raw, h1, h2]
 ·simp [Lt.enc, Term.enc, plc_raw, hnm]
def Lt.sidesP (x : Lt) : List Term := if x.neg then [x.l, x.r, x.l, x.r] else [x.l, x.r]
theorem sides_ok (x : Lt) : pcl Cp 25 [.agg x.enc] = some (.sl (encL x.sidesP) x.sidesP.length false (some false)) := by
 refine pcl_body code25 ?_
 obtain ⟨n, ⟨v, fn, args⟩, ⟨v2, fn2, args2⟩⟩ := x
 cases n <;> simp [Lt.enc, Term.enc, Lt.sidesP, encL, appendO, growO, srcCells, srcRaw]
theorem rsides_ok (x : Lt) : pcl Cp 66 [.agg x.enc] = some (.sl (encL x.sides) x.sides.length false (some false)) := by
 refine pcl_body code66 ?_
 obtain ⟨n, ⟨v, fn, args⟩, ⟨v2, fn2, args2⟩⟩ := x
 cases n <;> simp [Lt.enc, Term.enc, Lt.sides, encL]
def Lt.rightB (x : Lt) : Bool := decide (x.l.rightE = 0) && decide (x.r.rightE = 0)
theorem Lt.rightB_iff (x : Lt) : x.rightB = true ↔ x.right := by simp [Lt.rightB, Lt.right]
theorem each_ok (x : Lt) (hx : x.ok) : pcl Cp 64 [.agg x.enc] = some (.bool x.rightB) := by
 have h1 := rright_ok x.l hx.1
 have h2 := rright_ok x.r hx.2
 refine pcl_body code64 ?_
 unfold Lt.rightB
 obtain ⟨n, ⟨v, fn, args⟩, ⟨v2, fn2, args2⟩⟩ := x
 simp only at h1 h2 ⊢
 generalize (Term.mk v fn args).rightE = z1 at *
 generalize (Term.mk v2 fn2 args2).rightE = z2 at *
 simp [Term.enc] at h1 h2
 by_cases e1 : z1 = 0
 ·by_cases e2 : z2 = 0 <;> simp [Lt.enc, Term.enc, plc_raw, h1, h2, e1, e2]
 ·simp [Lt.enc, Term.enc, plc_raw, h1, h2, e1]
end Go.Proofs.YtajilkmepjhkdaaGreat.Am

/-
 The program's order of terms and of literals. No condition.
-/
namespace Go.Proofs.YtajilkmepjhkdaaGreat.Am
open Go Go.Proofs
set_option maxHeartbeats 4000000
set_option maxRecDepth 20000
set_option linter.unusedSimpArgs false
set_option linter.unusedVariables false
@[simp] theorem wkL_encO (o : Od) : wkL o.enc = o.enc := by
 obtain ⟨p, g⟩ := o
 simp [Od.enc, Sg.enc]
@[simp] theorem wkL_encT (t : Term) : wkL t.enc = t.enc := by obtain ⟨v, fn, args⟩ := t; simp [Term.enc]
@[simp] theorem wkL_encLt (x : Lt) : wkL x.enc = x.enc := by obtain ⟨n, ⟨v, fn, args⟩, ⟨v2, fn2, args2⟩⟩ := x; simp [Lt.enc, Term.enc]
def Lt.sm (x : Lt) : Prop := x.l.size ≤ 1048576 ∧ x.r.size ≤ 1048576
theorem mTerms_ok (o : Od) (hg : o.g.ok) {s t : Term} (hs : s.ok) (ht : t.ok) (zs : s.size ≤ 1048576) (zt : t.size ≤ 1048576) : pcl Cp 12 [.agg o.enc, .agg s.enc, .agg t.enc] = some (.int .i64 (o.cmp s t)) := by
 have h1 := kCompare_ok o.g hg s hs t ht
 have h2 := lCompare_ok o.g hg s hs zs t ht zt
 rw [o.cmp_small zs zt]
 refine pcl_body code12 ?_
 generalize o.g.kCmp s t = a at *
 generalize o.g.lCmp s t = b at *
 obtain ⟨p, g⟩ := o
 obtain ⟨v, fn, args⟩ := s
 obtain ⟨v2, fn2, args2⟩ := t
 simp [Sg.enc, Term.enc] at h1 h2
 cases p <;> simp [Od.enc, Sg.enc, Term.enc, plc_raw, h1, h2]
theorem rTerms_ok (o : Od) (hg : o.g.ok) {s t : Term} (hs : s.ok) (ht : t.ok) (zs : s.size ≤ 1048576) (zt : t.size ≤ 1048576) : pcl Cp 88 [.agg o.enc, .agg s.enc, .agg t.enc] = some (.int .i64 (o.cmp s t)) := by
 have h1 := rCompare_ok o.g hg s hs zs t ht zt
 have h2 := rlCompare_ok o.g hg s hs zs t ht zt
 rw [← kCmp_rCmp _ _ _ zs zt] at h1
 rw [o.cmp_small zs zt]
 refine pcl_body code88 ?_
 generalize o.g.kCmp s t = a at *
 generalize o.g.lCmp s t = b at *
 obtain ⟨p, g⟩ := o
 obtain ⟨v, fn, args⟩ := s
 obtain ⟨v2, fn2, args2⟩ := t
 simp [Sg.enc, Term.enc] at h1 h2
 cases p <;> simp [Od.enc, Sg.enc, Term.enc, plc_raw, h1, h2]
theorem cnt_sidesP (x : Lt) : cnt id x.sidesP = x.key := by
 funext k
 unfold Lt.key Lt.sides Lt.sidesP
 cases x.neg <;> simp [cnt] <;> omega
theorem litsF_P (gr : Bool) (tc : Term → Term → Int) (a b : Lt) : litsF gr tc a b = if (gr && (a.rightB && b.rightB)) = true then extF Term.sameB (fun s t => decide (tc s t = 1)) a.sidesP b.sidesP else 2 := by
 have hi : (gr = true ∧ a.right ∧ b.right) ↔ (gr && (a.rightB && b.rightB)) = true := by rw [Bool.and_eq_true, Bool.and_eq_true, Lt.rightB_iff, Lt.rightB_iff]
 rw [litsF_M]
 by_cases h : gr = true ∧ a.right ∧ b.right
 ·rw [if_pos h, if_pos (hi.1 h), extF_M (key := id) (gk := fun s t => tc s t = 1) sameB_id (fun x y => by simp) a.sidesP b.sidesP, cnt_sidesP, cnt_sidesP]
 ·rw [if_neg h, if_neg (mt hi.2 h)]
theorem litsF_R (gr : Bool) (tc : Term → Term → Int) (a b : Lt) : litsF gr tc a b = if (gr && (a.rightB && b.rightB)) = true then extF Term.sameB (fun s t => decide (tc s t = 1)) a.sides b.sides else 2 := by
 have hi : (gr = true ∧ a.right ∧ b.right) ↔ (gr && (a.rightB && b.rightB)) = true := by rw [Bool.and_eq_true, Bool.and_eq_true, Lt.rightB_iff, Lt.rightB_iff]
 unfold litsF
 by_cases h : gr = true ∧ a.right ∧ b.right
 ·rw [if_pos h, if_pos (hi.1 h)]
 ·rw [if_neg h, if_neg (mt hi.2 h)]
def lowE (ts : List Term) : Bool := ts.all fun t => decide (t.rightE = 0)
abbrev ltTm (p8 : AV) (ts : List Term) (o : Oid) (i : Nat) : List AV := [.junk, .junk, .junk, .ptr (0, 0) 0 3, .ptr (1, 0) 0 7, .ptr (2, 0) 0 7, .d (.int .i64 0), .junk, .junk, .junk, .junk, .junk, .junk, .junk, .junk, .junk, .junk, .osl o 0 ts.length 3 (ts.length * 3), .d (.int .i64 ts.length), .d (.int .i64 i), .junk, .junk, .junk, .junk, .junk, .junk, .junk, .junk, .junk, .junk, .junk, .junk, .junk, .junk, .junk, .junk, .junk, .junk]
theorem lits_loop (ts : List Term) (hn : ts.length ≤ 1048576) (hto : ∀ x ∈ ts, x.ok) {o : Oid} {N : Nat} (ho : o.1 < N) (H : Hp) (hH : below N H = H) (hHo : H o = some (.cells ((encL ts).map .d))) (p8 : AV) :
  ∃ e t, aloop Tryz.prog plc b10_0 ⟨[false, false, false, true, true, true, true, false, false, false, false, false, false, false, false, false, false, true, true, true, false, false, false, false, false, false, false, true, true, true, true, true, true, true, true, true, true, true], some N⟩ ⟨ltTm p8 ts o 0, H, N⟩ = some (e, t) ∧ (if lowE ts then AtExit 0 (ltTm p8 ts o ts.length) H e t else AtRet 6 (.d (.int .i64 2)) e t) := by
 refine loop_rule (b := N) (tm := fun (i : Nat) => ltTm p8 ts o i) (Hf := fun _ => H)
  (I := fun i => i ≤ ts.length) (μ := fun i => ts.length - i) (res := fun i => lowE (ts.drop i)) (R := fun b e t => if b then AtExit 0 (ltTm p8 ts o ts.length) H e t else AtRet 6 (.d (.int .i64 2)) e t)
  (fun i nx hi => ?_) 0 (Nat.zero_le _)
 rcases Nat.lt_or_ge i ts.length with hl | hl
 ·obtain ⟨v, fn, args, a⟩ := at_ok (by omega) hl
  have hcall := tright_ok _ (hto _ a.mem)
  have hd := a.dr
  have hcells : ((((encL ts).map AV.d).drop (i * 3)).take 3) = [.d (.int .i64 v), .d (.str fn), .d (.sl (encL args) args.length false none)] := by rw [← List.map_drop, ← List.map_take, a.cells]; rfl
  have hsz := a.sz
  have e1 : i * 3 + 3 ≤ ts.length * 3 := by omega
  have e2 : i * 3 ≤ ts.length * 3 := by omega
  have hle : ∀ k, N ≤ nx + (N + k) := fun k => by omega
  generalize hz : (Term.mk v fn args).rightE = z at hcall
  simp [Term.enc] at hcall
  conv => arg 9; arg 4; unfold b10_0
  by_cases h0 : z = 0
  ·simp [a.lti, hHo, hsz, a.ltm, hcells, e1, e2, plc_raw, hcall, a.w, hH, h0, Nat.add_assoc, hle]
   exact .next (i + 1) (by omega) (by simp) rfl hl (by omega) (by simp [hd, lowE, hz, h0])
  ·simp [a.lti, hHo, hsz, a.ltm, hcells, e1, e2, plc_raw, hcall, a.w, hH, h0, Nat.add_assoc, hle]
   exact .fin _ _ (by simp [hd, lowE, hz, h0]; exact ⟨rfl, rfl⟩)
 ·obtain rfl : i = ts.length := Nat.le_antisymm hi hl
  simp [b10_0, hH]
  exact .fin _ _ (by simp [lowE]; exact .mk)
theorem lowE_sides (x y : Lt) : lowE [x.l, x.r, y.l, y.r] = (x.rightB && y.rightB) := by simp [lowE, Lt.rightB, Bool.and_assoc]
theorem mem_sidesP {x : Lt} {t : Term} (h : t ∈ x.sidesP) : t = x.l ∨ t = x.r := by
 unfold Lt.sidesP at h
 cases hn : x.neg <;> simp [hn] at h
 ·exact h
 ·rcases h with h | h | h | h <;> simp [h]
theorem sidesP_len (x : Lt) : x.sidesP.length ≤ 1048576 := by unfold Lt.sidesP; cases x.neg <;> simp
theorem sidesP_ne (x : Lt) : x.sidesP ≠ [] := by unfold Lt.sidesP; cases x.neg <;> simp
theorem mLits_ok (o : Od) (hg : o.g.ok) {x y : Lt} (hx : x.ok) (hy : y.ok) (zx : x.sm) (zy : y.sm) : pcl Cp 10 [.agg o.enc, .agg x.enc, .agg y.enc] = some (.int .i64 (litsF o.g.right o.cmp x y)) := by
 have h1 := gright_ok o.g hg
 have h2 := sides_ok x
 have h3 := sides_ok y
 have ok1 : ∀ t ∈ x.sidesP, t.ok ∧ t.size ≤ 1048576 := fun t ht => by rcases mem_sidesP ht with rfl | rfl; exact ⟨hx.1, zx.1⟩; exact ⟨hx.2, zx.2⟩
 have ok2 : ∀ t ∈ y.sidesP, t.ok ∧ t.size ≤ 1048576 := fun t ht => by rcases mem_sidesP ht with rfl | rfl; exact ⟨hy.1, zy.1⟩; exact ⟨hy.2, zy.2⟩
 have h4 := extT_ok (os := o.enc) (wkL_encO o) (same := Term.sameB) (fun s t hs ht => same_ok s hs t ht) (l := x.sidesP) (m := y.sidesP) (tc := o.cmp) (sidesP_len x) (sidesP_len y) (fun t ht => (ok1 t ht).1) (fun t ht => (ok2 t ht).1)
  (fun s hs t ht => mTerms_ok o hg (ok1 s hs).1 (ok2 t ht).1 (ok1 s hs).2 (ok2 t ht).2) (fun s hs t ht => mTerms_ok o hg (ok2 s hs).1 (ok1 t ht).1 (ok2 s hs).2 (ok1 t ht).2) false false false false (fun h => by cases h) (fun h => by cases h)
 have hF := litsF_P o.g.right o.cmp x y
 have hlow := lowE_sides x y
 obtain ⟨H0, hH0⟩ : ∃ H0 : Hp, H0 = upd (upd (upd (upd (fun _ => none) (0, 0) (.cells (o.enc.map .d))) (1, 0) (.cells (x.enc.map .d))) (2, 0) (.cells (y.enc.map .d))) (12, 0) (.cells ((encL [x.l, x.r, y.l, y.r]).map .d)) := ⟨_, rfl⟩
 have g0 : H0 (0, 0) = some (.cells (o.enc.map .d)) := by rw [hH0]; simp
 have g1 : H0 (1, 0) = some (.cells (x.enc.map .d)) := by rw [hH0]; simp
 have g2 : H0 (2, 0) = some (.cells (y.enc.map .d)) := by rw [hH0]; simp
 obtain ⟨e, t, hrun, hR⟩ := lits_loop [x.l, x.r, y.l, y.r] (by simp) (fun t ht => by simp at ht; rcases ht with rfl | rfl | rfl | rfl; exact hx.1; exact hx.2; exact hy.1; exact hy.2) (o := (12, 0)) (N := 15) (by decide) H0 (by rw [hH0]; simp) (by rw [hH0]; simp) .junk
 refine pcl_body code10 ?_
 rw [hF]
 rw [hlow] at hR
 generalize extF Term.sameB _ x.sidesP y.sidesP = ex at *
 generalize x.rightB = b1 at *
 generalize y.rightB = b2 at *
 generalize x.sidesP = sx at *
 generalize y.sidesP = sy at *
 obtain ⟨p, g⟩ := o
 obtain ⟨n, ⟨v, fn, args⟩, ⟨v2, fn2, args2⟩⟩ := x
 obtain ⟨m, ⟨w, fm, brgs⟩, ⟨w2, fm2, brgs2⟩⟩ := y
 simp [ltTm, Sg.enc, Lt.enc, Term.enc, Od.enc, encL] at h1 h2 h3 h4 hrun hH0 g0 g1 g2
 cases b1
 ·obtain ⟨rfl, hv⟩ := hR
  simp [Od.enc, Sg.enc, Lt.enc, Term.enc, plc_raw, ← hH0, hrun, hv]
 ·cases b2
  ·obtain ⟨rfl, hv⟩ := hR
   simp [Od.enc, Sg.enc, Lt.enc, Term.enc, plc_raw, ← hH0, hrun, hv]
  ·obtain ⟨rfl, nx, rfl⟩ := hR
   generalize g.right = gr at *
   cases gr
   ·simp at h1
    simp [Od.enc, Sg.enc, Lt.enc, Term.enc, plc_raw, ← hH0, hrun, h1, g0, g1, g2]
   ·simp at h1
    simp [Od.enc, Sg.enc, Lt.enc, Term.enc, plc_raw, ← hH0, hrun, h1, h2, h3, h4, g0, g1, g2]
end Go.Proofs.YtajilkmepjhkdaaGreat.Am

/-
 The document's order of literals. No condition.
-/
namespace Go.Proofs.YtajilkmepjhkdaaGreat.Am
open Go Go.Proofs
set_option maxHeartbeats 4000000
set_option maxRecDepth 20000
set_option linter.unusedSimpArgs false
set_option linter.unusedVariables false
theorem below_more {N k : Nat} {H : Hp} (hH : below N H = H) (h : N ≤ k) : below k H = H := by
 funext p
 simp only [below]
 split
 ·rfl
 ·rename_i hp
  have := congrFun hH p
  simp only [below] at this
  rw [if_neg (by omega)] at this
  exact this
abbrev liTo (x y : List Term) (nx ny : Bool) (i : Nat) : List AV := [.junk, .junk, .junk, .ptr (0, 0) 0 3, .junk, .junk, .d (.bool false), .d (.sl (encL x) x.length false (some nx)), .d (.sl (encL y) y.length false (some ny)), .d (.int .i64 i), .junk, .junk, .junk, .junk, .junk, .junk, .junk, .junk, .junk, .junk, .junk, .junk, .junk, .junk, .junk, .junk, .junk, .junk, .junk, .junk, .junk, .junk, .junk, .junk, .junk, .junk, .junk, .junk, .junk, .junk, .junk, .junk, .junk, .junk, .junk, .junk, .junk, .junk, .junk, .junk, .junk, .junk, .junk]
abbrev liTi (x y : List Term) (nx ny : Bool) (i : Nat) (b : Bool) (k : Nat) : List AV := [.junk, .junk, .junk, .ptr (0, 0) 0 3, .junk, .junk, .d (.bool false), .d (.sl (encL x) x.length false (some nx)), .d (.sl (encL y) y.length false (some ny)), .d (.int .i64 i), .d (.bool b), .d (.int .i64 k), .junk, .junk, .junk, .junk, .junk, .junk, .junk, .junk, .junk, .junk, .junk, .junk, .junk, .junk, .junk, .junk, .junk, .junk, .junk, .junk, .junk, .junk, .junk, .junk, .junk, .junk, .junk, .junk, .junk, .junk, .junk, .junk, .junk, .junk, .junk, .junk, .junk, .junk, .junk, .junk, .junk]
theorem lit_in (o : Od) (hg : o.g.ok) {x y : List Term} (hx : ∀ t ∈ x, t.ok ∧ t.size ≤ 1048576) (hy : ∀ t ∈ y, t.ok ∧ t.size ≤ 1048576) (lx : x.length ≤ 1048576) (ly : y.length ≤ 1048576) (nx ny : Bool) {N i : Nat} {H : Hp} (hH : below N H = H) (h0 : H (0, 0) = some (.cells (o.enc.map .d))) (hi : i < y.length) :
  ∃ e t, aloop Tryz.prog plc b67_0 ⟨[false, false, false, true, false, false, true, true, true, true, true, true, false, false, false, false, false, false, false, false, false, false, false, false, false, false, false, false, false, true, true, false, false, false, false, false, false, false, false, false, false, false, false, false, false, false, false, false, false, false, false, true, true], some N⟩ ⟨liTi x y nx ny i false 0, H, N⟩ = some (e, t) ∧ (e = .exit 2 ∧ ∃ M, N ≤ M ∧ t = ⟨liTi x y nx ny i (x.any fun s => decide (o.cmp s y[i] = 1)) x.length, H, M⟩) := by
 have h := loop_rule (P := Tryz.prog) (pol := plc) (c := b67_0) (m := ⟨[false, false, false, true, false, false, true, true, true, true, true, true, false, false, false, false, false, false, false, false, false, false, false, false, false, false, false, false, false, true, true, false, false, false, false, false, false, false, false, false, false, false, false, false, false, false, false, false, false, false, false, true, true], some N⟩)
  (b := N) (tm := fun (s : Bool × Nat) => liTi x y nx ny i s.1 s.2) (Hf := fun _ => H)
  (I := fun s => s.2 ≤ x.length) (μ := fun s => x.length - s.2) (res := fun s => s.1 || (x.drop s.2).any fun s => decide (o.cmp s y[i] = 1)) (R := fun r e t => e = .exit 2 ∧ ∃ M, N ≤ M ∧ t = ⟨liTi x y nx ny i r x.length, H, M⟩)
  (fun s nx1 hk => by
   obtain ⟨b, k⟩ := s
   simp only at hk
   rcases Nat.lt_or_ge k x.length with hl | hl
   ·have hcall := rTerms_ok o hg (hx _ (List.getElem_mem hl)).1 (hy _ (List.getElem_mem hi)).1 (hx _ (List.getElem_mem hl)).2 (hy _ (List.getElem_mem hi)).2
    have hd : x.drop k = x[k] :: x.drop (k + 1) := List.drop_eq_getElem_cons hl
    obtain ⟨v, fn, args, a⟩ := at_ok (ts := x) (by omega) hl
    obtain ⟨w, fm, brgs, a2⟩ := at_ok (ts := y) (by omega) hi
    have e1 : x[k] = .mk v fn args := a.get
    have e2 : y[i] = .mk w fm brgs := a2.get
    generalize hc : o.cmp x[k] y[i] = c at hcall
    rw [e1, e2] at hcall
    obtain ⟨p, g⟩ := o
    simp [Od.enc, Sg.enc, Term.enc] at hcall h0
    conv => arg 9; arg 4; unfold b67_0
    cases b with
    | true =>
     simp [a.lti, a.sz, a.ltm, a.cells, a.le3, a.w, plc_raw, hH]
     exact .next (true, k + 1) (by omega) (by simp) rfl hl (by simp only; omega) (by simp)
    | false =>
     simp [a.lti, a.sz, a.ltm, a.cells, a.le3, a2.lti, a2.sz, a2.ltm, a2.cells, a2.le3, a.w, plc_raw, hH, h0, hcall]
     exact .next (decide (c = 1), k + 1) (by omega) (by simp) rfl hl (by simp only; omega) (by simp only [hd, List.any_cons, hc, Bool.false_or])
   ·obtain rfl : k = x.length := Nat.le_antisymm hk hl
    simp [b67_0, hH]
    exact .fin _ _ ⟨rfl, nx1 + N + 4, by omega, by simp⟩) (false, 0) (Nat.zero_le _)
 simpa using h
theorem lit_out (o : Od) (hg : o.g.ok) {x y : List Term} (hx : ∀ t ∈ x, t.ok ∧ t.size ≤ 1048576) (hy : ∀ t ∈ y, t.ok ∧ t.size ≤ 1048576) (lx : x.length ≤ 1048576) (ly : y.length ≤ 1048576) (nx ny : Bool) {N : Nat} {H : Hp} (hH : below N H = H) (h0 : H (0, 0) = some (.cells (o.enc.map .d))) :
  ∃ e t, aloop Tryz.prog plc b67_1 ⟨[false, false, false, true, false, false, true, true, true, true, false, false, false, false, false, false, false, false, false, false, false, false, false, false, false, false, false, false, false, false, false, false, false, false, false, false, false, false, false, false, false, false, false, false, false, false, false, false, false, false, false, false, false], some N⟩ ⟨liTo x y nx ny 0, H, N⟩ = some (e, t) ∧ (if y.all (fun t => x.any fun s => decide (o.cmp s t = 1)) then AtExit 0 (liTo x y nx ny y.length) H e t else AtRet 6 (.d (.bool false)) e t) := by
 have h := loop_rule (P := Tryz.prog) (pol := plc) (c := b67_1) (m := ⟨[false, false, false, true, false, false, true, true, true, true, false, false, false, false, false, false, false, false, false, false, false, false, false, false, false, false, false, false, false, false, false, false, false, false, false, false, false, false, false, false, false, false, false, false, false, false, false, false, false, false, false, false, false], some N⟩)
  (b := N) (tm := fun (i : Nat) => liTo x y nx ny i) (Hf := fun _ => H)
  (I := fun i => i ≤ y.length) (μ := fun i => y.length - i) (res := fun i => (y.drop i).all fun t => x.any fun s => decide (o.cmp s t = 1)) (R := fun r e t => if r then AtExit 0 (liTo x y nx ny y.length) H e t else AtRet 6 (.d (.bool false)) e t)
  (fun i nx1 hi => by
   rcases Nat.lt_or_ge i y.length with hl | hl
   ·obtain ⟨e, t, hrun, rfl, N2, hN2, rfl⟩ := lit_in o hg hx hy lx ly nx ny (N := nx1 + N + 6) (i := i) (H := H) (below_more hH (by omega)) h0 hl
    have hd : y.drop i = y[i] :: y.drop (i + 1) := List.drop_eq_getElem_cons hl
    have hil : (i : Int) < (y.length : Int) := by omega
    have hiw : IntKind.i64.wrap ((i : Int) + 1) = (i : Int) + 1 := wrap_i64 (by omega) (by omega)
    generalize hb : (x.any fun s => decide (o.cmp s y[i] = 1)) = b at hrun
    have z0 : ((0 : Nat) : Int) = 0 := rfl
    simp only [liTi, z0] at hrun
    conv => arg 9; arg 4; unfold b67_1
    cases b with
    | true =>
     simp only [Nat.add_assoc, Nat.reduceAdd] at hrun
     simp [hil, hiw, hrun, Nat.add_assoc, hH]
     exact .next (i + 1) (by omega) (by simp) rfl hl (by omega) (by simp only [hd, List.all_cons, hb, Bool.true_and])
    | false =>
     simp only [Nat.add_assoc, Nat.reduceAdd] at hrun
     simp [hil, hiw, hrun, Nat.add_assoc, hH]
     exact .fin _ _ (by simp only [hd, List.all_cons, hb, Bool.false_and, Bool.false_eq_true, if_false]; exact ⟨rfl, rfl⟩)
   ·obtain rfl : i = y.length := Nat.le_antisymm hi hl
    simp [b67_1, hH]
    exact .fin _ _ (by simp; exact .mk)) 0 (Nat.zero_le _)
 simpa using h
theorem mem_sides1 {x : Lt} {t : Term} (h : t ∈ x.sides) : t = x.l ∨ t = x.r := (x.mem_sides t).1 h
theorem sides_len (x : Lt) : x.sides.length ≤ 1048576 := by unfold Lt.sides; cases x.neg <;> simp
theorem without_ok {x y : Lt} (hx : x.ok) (hy : y.ok) : ∃ nl : Bool, pcl Cp 65 [.sl (encL x.sides) x.sides.length false (some false), .sl (encL y.sides) y.sides.length false (some false)] = some (.sl (encL (restF Term.sameB x.sides y.sides)) (restF Term.sameB x.sides y.sides).length false (some nl)) :=
 woT_ok (same := Term.sameB) (fun s t hs ht => rsame_ok s hs t ht) (sides_len x) (sides_len y) (fun t ht => by rcases mem_sides1 ht with rfl | rfl; exact hx.1; exact hx.2) (fun t ht => by rcases mem_sides1 ht with rfl | rfl; exact hy.1; exact hy.2) false false (some false) (some false)
theorem lit_ok (o : Od) (hg : o.g.ok) {x y : Lt} (hx : x.ok) (hy : y.ok) (zx : x.sm) (zy : y.sm) : pcl Cp 67 [.agg o.enc, .agg x.enc, .agg y.enc] = some (.bool (coversF (fun s t => decide (o.cmp s t = 1)) (restF Term.sameB x.sides y.sides) (restF Term.sameB y.sides x.sides))) := by
 have h2 := rsides_ok x
 have h3 := rsides_ok y
 obtain ⟨nx, h4⟩ := without_ok hx hy
 obtain ⟨ny, h5⟩ := without_ok hy hx
 have ok1 : ∀ t ∈ restF Term.sameB x.sides y.sides, t.ok ∧ t.size ≤ 1048576 := fun t ht => by rcases mem_sides1 (rest_mem _ _ t ht) with rfl | rfl; exact ⟨hx.1, zx.1⟩; exact ⟨hx.2, zx.2⟩
 have ok2 : ∀ t ∈ restF Term.sameB y.sides x.sides, t.ok ∧ t.size ≤ 1048576 := fun t ht => by rcases mem_sides1 (rest_mem _ _ t ht) with rfl | rfl; exact ⟨hy.1, zy.1⟩; exact ⟨hy.2, zy.2⟩
 have l1 := Nat.le_trans (rest_len (same := Term.sameB) x.sides y.sides) (sides_len x)
 have l2 := Nat.le_trans (rest_len (same := Term.sameB) y.sides x.sides) (sides_len y)
 obtain ⟨H0, hH0⟩ : ∃ H0 : Hp, H0 = upd (upd (upd (fun _ => none) (0, 0) (.cells (o.enc.map .d))) (1, 0) (.cells (x.enc.map .d))) (2, 0) (.cells (y.enc.map .d)) := ⟨_, rfl⟩
 have g0 : H0 (0, 0) = some (.cells (o.enc.map .d)) := by rw [hH0]; simp
 have g1 : H0 (1, 0) = some (.cells (x.enc.map .d)) := by rw [hH0]; simp
 have g2 : H0 (2, 0) = some (.cells (y.enc.map .d)) := by rw [hH0]; simp
 obtain ⟨e, t, hrun, hR⟩ := lit_out o hg ok1 ok2 l1 l2 nx ny (N := 20) (H := H0) (by rw [hH0]; simp) (by rw [hH0]; simp)
 refine pcl_body code67 ?_
 have hco : coversF (fun s t => decide (o.cmp s t = 1)) (restF Term.sameB x.sides y.sides) (restF Term.sameB y.sides x.sides) = (!(restF Term.sameB x.sides y.sides).isEmpty && (restF Term.sameB y.sides x.sides).all fun t => (restF Term.sameB x.sides y.sides).any fun s => decide (o.cmp s t = 1)) := rfl
 rw [hco]
 generalize ((restF Term.sameB y.sides x.sides).all fun t => (restF Term.sameB x.sides y.sides).any fun s => decide (o.cmp s t = 1)) = r at *
 generalize restF Term.sameB x.sides y.sides = xs at *
 generalize restF Term.sameB y.sides x.sides = ys at *
 generalize x.sides = sx at *
 generalize y.sides = sy at *
 obtain ⟨p, g⟩ := o
 obtain ⟨n, ⟨v, fn, args⟩, ⟨v2, fn2, args2⟩⟩ := x
 obtain ⟨m, ⟨w, fm, brgs⟩, ⟨w2, fm2, brgs2⟩⟩ := y
 simp [liTo, Sg.enc, Lt.enc, Term.enc, Od.enc] at h2 h3 h4 h5 hrun hH0 g0 g1 g2
 by_cases hz : xs.length = 0
 ·have hz' : (xs.length : Int) = 0 := by omega
  obtain rfl := List.length_eq_zero_iff.1 hz
  simp at h4
  simp [-isNil, isNil_sl, isNil_int, isNil_bool, isNil_str, isNil_agg, isNil_dptr, isNil_fn, isNil_fna, isNil_osl, isNil_ptr, isNil_agga, Od.enc, Sg.enc, Lt.enc, Term.enc, plc_raw, h2, h3, h4, h5]
 ·have hz' : ¬ (xs.length : Int) = 0 := by omega
  have hze : ¬ xs = [] := fun e => hz (by rw [e]; rfl)
  have hzi : xs.isEmpty = false := by cases xs; exact absurd rfl hze; rfl
  cases r
  ·obtain ⟨rfl, hv⟩ := hR
   simp [-isNil, isNil_sl, isNil_int, isNil_bool, isNil_str, isNil_agg, isNil_dptr, isNil_fn, isNil_fna, isNil_osl, isNil_ptr, isNil_agga, Od.enc, Sg.enc, Lt.enc, Term.enc, plc_raw, h2, h3, h4, h5, hz, hz', hze, hzi, ← hH0, g0, g1, g2, hrun, hv]
  ·obtain ⟨rfl, N2, rfl⟩ := hR
   simp [-isNil, isNil_sl, isNil_int, isNil_bool, isNil_str, isNil_agg, isNil_dptr, isNil_fn, isNil_fna, isNil_osl, isNil_ptr, isNil_agga, Od.enc, Sg.enc, Lt.enc, Term.enc, plc_raw, h2, h3, h4, h5, hz, hz', hze, hzi, ← hH0, g0, g1, g2, hrun]
theorem rLits_ok (o : Od) (hg : o.g.ok) {x y : Lt} (hx : x.ok) (hy : y.ok) (zx : x.sm) (zy : y.sm) : pcl Cp 42 [.agg o.enc, .agg x.enc, .agg y.enc] = some (.int .i64 (litsF o.g.right o.cmp x y)) := by
 have h1 := grright_ok o.g hg
 have e1 := each_ok x hx
 have e2 := each_ok y hy
 have h2 := rsides_ok x
 have h3 := rsides_ok y
 obtain ⟨nx, h4⟩ := without_ok hx hy
 obtain ⟨ny, h5⟩ := without_ok hy hx
 have h6 := lit_ok o hg hx hy zx zy
 have h7 := lit_ok o hg hy hx zy zx
 have l1 := Nat.le_trans (rest_len (same := Term.sameB) x.sides y.sides) (sides_len x)
 have l2 := Nat.le_trans (rest_len (same := Term.sameB) y.sides x.sides) (sides_len y)
 refine pcl_body code42 ?_
 rw [litsF_R]
 unfold extF
 generalize coversF _ (restF Term.sameB x.sides y.sides) (restF Term.sameB y.sides x.sides) = c1 at *
 generalize coversF _ (restF Term.sameB y.sides x.sides) (restF Term.sameB x.sides y.sides) = c2 at *
 generalize restF Term.sameB x.sides y.sides = xs at *
 generalize restF Term.sameB y.sides x.sides = ys at *
 generalize x.sides = sx at *
 generalize y.sides = sy at *
 generalize x.rightB = b1 at *
 generalize y.rightB = b2 at *
 obtain ⟨p, g⟩ := o
 obtain ⟨n, ⟨v, fn, args⟩, ⟨v2, fn2, args2⟩⟩ := x
 obtain ⟨m, ⟨w, fm, brgs⟩, ⟨w2, fm2, brgs2⟩⟩ := y
 simp only at h1 ⊢
 generalize g.right = gr at *
 simp [Sg.enc, Lt.enc, Term.enc, Od.enc] at h1 e1 e2 h2 h3 h4 h5 h6 h7
 cases gr
 ·simp [Od.enc, Sg.enc, Lt.enc, Term.enc, plc_raw, h1]
 cases b1
 ·simp [Od.enc, Sg.enc, Lt.enc, Term.enc, plc_raw, h1, e1]
 cases b2
 ·simp [Od.enc, Sg.enc, Lt.enc, Term.enc, plc_raw, h1, e1, e2]
 have hw : IntKind.i64.wrap ((xs.length : Int) + (ys.length : Int)) = (xs.length : Int) + (ys.length : Int) := wrap_i64 (by omega) (by omega)
 have hw0 : IntKind.i64.wrap 0 = 0 := by decide
 by_cases h0 : xs.length + ys.length = 0
 ·have h0' : (xs.length : Int) + (ys.length : Int) = 0 := by omega
  simp [hw0, Od.enc, Sg.enc, Lt.enc, Term.enc, plc_raw, h1, e1, e2, h2, h3, h4, h5, hw, h0, h0']
 ·have h0' : ¬ (xs.length : Int) + (ys.length : Int) = 0 := by omega
  have h00 : xs = [] → ¬ ys = [] := fun e1 e2 => h0 (by rw [e1, e2]; rfl)
  cases c1
  ·cases c2 <;> simp [Od.enc, Sg.enc, Lt.enc, Term.enc, plc_raw, h1, e1, e2, h2, h3, h4, h5, h6, h7, hw, h0, h0'] <;> exact h00
  ·simp [Od.enc, Sg.enc, Lt.enc, Term.enc, plc_raw, h1, e1, e2, h2, h3, h4, h5, h6, hw, h0, h0']; exact h00
end Go.Proofs.YtajilkmepjhkdaaGreat.Am

/-
 A loop over a clause's terms, by a function. No condition.
-/
namespace Go.Proofs.YtajilkmepjhkdaaGreat.Am
open Go Go.Proofs
set_option maxHeartbeats 4000000
set_option maxRecDepth 20000
set_option linter.unusedSimpArgs false
set_option linter.unusedVariables false
theorem numF_y : numF 1000000000 = 1000000000 := rfl
theorem joinF_y (as1 cap : List AV) : joinF 1000000000 as1 cap = as1 ++ cap := rfl
theorem yield_on {t : AV} {p : Tmp} {o : Oid} {H : Hp} {nx : Nat} {ac body : ACode} {tm : List AV} (h : H o = some (.rc [p] ac body tm .ready)) (hn : noR ac = true ∧ noR body = true) {s1 s2 : St}
  (h1 : exec Tryz.prog plc (acall Tryz.prog plc) (aloop Tryz.prog plc) ac ⟨tm.set p t, H, nx⟩ = some (.normal, s1)) (h2 : s1.hp o = some (.rc [p] ac body tm .ready))
  (h3 : exec Tryz.prog plc (acall Tryz.prog plc) (aloop Tryz.prog plc) body ⟨s1.tm, upd s1.hp o (.rc [p] ac body tm .busy), s1.nx⟩ = some (.normal, s2)) (h4 : s2.hp o = some (.rc [p] ac body tm .busy)) :
  acall Tryz.prog plc yieldF [t, .yld o] H nx = some (.d (.bool true), upd s2.hp o (.rc [p] ac body tm .ready), s2.nx) := by
 refine acall_of _ _ ?_
 simp only [callF, if_pos, roundF, List.getLast?_cons_cons, List.getLast?_singleton, h, hn, setPs, h1, h2, h3, h4, Option.bind_some]
 rfl
theorem yield_off {t : AV} {p : Tmp} {o : Oid} {H : Hp} {nx : Nat} {ac body : ACode} {tm : List AV} (h : H o = some (.rc [p] ac body tm .ready)) (hn : noR ac = true ∧ noR body = true) {s1 s2 : St}
  (h1 : exec Tryz.prog plc (acall Tryz.prog plc) (aloop Tryz.prog plc) ac ⟨tm.set p t, H, nx⟩ = some (.normal, s1)) (h2 : s1.hp o = some (.rc [p] ac body tm .ready))
  (h3 : exec Tryz.prog plc (acall Tryz.prog plc) (aloop Tryz.prog plc) body ⟨s1.tm, upd s1.hp o (.rc [p] ac body tm .busy), s1.nx⟩ = some (.ret, s2)) (h4 : s2.hp o = some (.rc [p] ac body tm .busy)) :
  acall Tryz.prog plc yieldF [t, .yld o] H nx = some (.d (.bool false), upd s2.hp o (.rc [p] ac body tm (.left .ret)), s2.nx) := by
 refine acall_of _ _ ?_
 simp only [callF, if_pos, roundF, List.getLast?_cons_cons, List.getLast?_singleton, h, hn, setPs, h1, h2, h3, h4, Option.bind_some]
 rfl
theorem yield_onE {t : AV} {p : Tmp} {o : Oid} {H : Hp} {nx : Nat} {ac body : ACode} {tm : List AV} (h : H o = some (.rc [p] ac body tm .ready)) (hn : noR ac = true ∧ noR body = true) {s1 : St} (Q : St → Prop)
  (h1 : exec Tryz.prog plc (acall Tryz.prog plc) (aloop Tryz.prog plc) ac ⟨tm.set p t, H, nx⟩ = some (.normal, s1)) (h2 : s1.hp o = some (.rc [p] ac body tm .ready))
  (h3 : ∃ s2, exec Tryz.prog plc (acall Tryz.prog plc) (aloop Tryz.prog plc) body ⟨s1.tm, upd s1.hp o (.rc [p] ac body tm .busy), s1.nx⟩ = some (.normal, s2) ∧ s2.hp o = some (.rc [p] ac body tm .busy) ∧ Q s2) :
  ∃ s2 : St, acall Tryz.prog plc yieldF [t, .yld o] H nx = some (.d (.bool true), upd s2.hp o (.rc [p] ac body tm .ready), s2.nx) ∧ Q s2 := by
 obtain ⟨s2, h3, h4, hq⟩ := h3
 exact ⟨s2, yield_on h hn h1 h2 h3 h4, hq⟩
theorem yield_offE {t : AV} {p : Tmp} {o : Oid} {H : Hp} {nx : Nat} {ac body : ACode} {tm : List AV} (h : H o = some (.rc [p] ac body tm .ready)) (hn : noR ac = true ∧ noR body = true) {s1 : St} (Q : St → Prop)
  (h1 : exec Tryz.prog plc (acall Tryz.prog plc) (aloop Tryz.prog plc) ac ⟨tm.set p t, H, nx⟩ = some (.normal, s1)) (h2 : s1.hp o = some (.rc [p] ac body tm .ready))
  (h3 : ∃ s2, exec Tryz.prog plc (acall Tryz.prog plc) (aloop Tryz.prog plc) body ⟨s1.tm, upd s1.hp o (.rc [p] ac body tm .busy), s1.nx⟩ = some (.ret, s2) ∧ s2.hp o = some (.rc [p] ac body tm .busy) ∧ Q s2) :
  ∃ s2 : St, acall Tryz.prog plc yieldF [t, .yld o] H nx = some (.d (.bool false), upd s2.hp o (.rc [p] ac body tm (.left .ret)), s2.nx) ∧ Q s2 := by
 obtain ⟨s2, h3, h4, hq⟩ := h3
 exact ⟨s2, yield_off h hn h1 h2 h3 h4, hq⟩
def sideL (c : List Lt) : List Term := c.flatMap fun x => [x.l, x.r]
def runT {S : Type} (go : S → Term → Bool) (nxt : S → Term → S) : S → List Term → S × Bool
 | s, [] => (s, true)
 | s, t :: r => if go s t then runT go nxt (nxt s t) r else (nxt s t, false)
structure Yields {S : Type} (o : Oid) (go : S → Term → Bool) (nxt : S → Term → S) (inv fin : S → Hp → Prop) : Prop where
 step : ∀ s H nx (t : Term), inv s H → o.1 < nx → t.ok → ∃ H' nx', acall Tryz.prog plc yieldF [.d (.agg t.enc), .yld o] H nx = some (.d (.bool (go s t)), H', nx') ∧ nx ≤ nx' ∧ (∀ p : Oid, o.1 < p.1 → p.1 < nx → H' p = H p) ∧ (if go s t then inv (nxt s t) H' else fin (nxt s t) H')
 invk : ∀ s H H', inv s H → (∀ p : Oid, p.1 ≤ o.1 → H' p = H p) → inv s H'
 fink : ∀ s H H', fin s H → (∀ p : Oid, p.1 ≤ o.1 → H' p = H p) → fin s H'
structure SdS (S : Type) where
 s : S
 i : Nat
 H : Hp
abbrev sdT (o : Oid) (c : List Lt) (fl : Bool) (nl : Option Bool) (i : Nat) : List AV := [.yld o, .junk, .junk, .junk, .junk, .d (.sl (encC c) c.length fl nl), .d (.int .i64 c.length), .d (.int .i64 i), .junk, .junk, .junk, .junk, .junk, .junk, .junk, .junk, .junk, .junk, .junk, .junk, .junk, .junk, .junk, .junk]
def SdE {S : Type} (N : Nat) (o : Oid) (c : List Lt) (fl : Bool) (nl : Option Bool) (inv fin : S → Hp → Prop) (r : S × Bool) (e : Ex) (st : St) : Prop :=
 N ≤ st.nx ∧ st.tm.length = 24 ∧ (if r.2 then e = .exit 0 ∧ inv r.1 st.hp else e = .ret ∧ fin r.1 st.hp)
theorem sides_loop {S : Type} {o : Oid} {go : S → Term → Bool} {nxt : S → Term → S} {inv fin : S → Hp → Prop} (hy : Yields o go nxt inv fin) {c : List Lt} (hc : okC c) (fl : Bool) (nl : Option Bool) {N : Nat} (hN : o.1 < N) (s0 : S) {H0 : Hp} (h0 : inv s0 H0) :
  ∃ e st, aloop Tryz.prog plc b85_0 ⟨[true, false, false, false, false, true, true, true, false, false, false, false, false, false, false, false, false, false, false, false, false, false, false, false], some N⟩ ⟨sdT o c fl nl 0, H0, N⟩ = some (e, st) ∧ SdE N o c fl nl inv fin (runT go nxt s0 (sideL c)) e st := by
 have h := loop_rule (P := Tryz.prog) (pol := plc) (c := b85_0) (m := ⟨[true, false, false, false, false, true, true, true, false, false, false, false, false, false, false, false, false, false, false, false, false, false, false, false], some N⟩)
  (b := N) (tm := fun (s : SdS S) => sdT o c fl nl s.i) (Hf := fun s => s.H)
  (I := fun s => s.i ≤ c.length ∧ inv s.s s.H) (μ := fun s => c.length - s.i) (res := fun s => runT go nxt s.s (sideL (c.drop s.i))) (R := SdE N o c fl nl inv fin)
  (fun s nx1 hI => by
   obtain ⟨hi, hinv⟩ := hI
   rcases Nat.lt_or_ge s.i c.length with hl | hl
   ·obtain ⟨n, v, fn, args, v2, fn2, args2, a⟩ := atC_ok hc.1 hl
    have hx := hc.2 _ a.mem
    have hd : sideL (c.drop s.i) = .mk v fn args :: .mk v2 fn2 args2 :: sideL (c.drop (s.i + 1)) := by rw [a.dr]; rfl
    obtain ⟨Hb, hHb⟩ : ∃ Hb : Hp, Hb = upd (upd (upd s.H (nx1 + (N + 3), 4) .vnil) (nx1 + (N + 3), 7) .vnil) (nx1 + (N + 3), 0) (.cells [.d (.bool n), .d (.int .i64 v), .d (.str fn), .d (.sl (encL args) args.length false none), .d (.int .i64 v2), .d (.str fn2), .d (.sl (encL args2) args2.length false none)]) := ⟨_, rfl⟩
    have hbs : Hb (nx1 + (N + 3), 0) = some (.cells [.d (.bool n), .d (.int .i64 v), .d (.str fn), .d (.sl (encL args) args.length false none), .d (.int .i64 v2), .d (.str fn2), .d (.sl (encL args2) args2.length false none)]) := by rw [hHb]; exact upd_same _ _ _
    have hbk : ∀ p : Oid, p.1 < N → Hb p = s.H p := fun p hp => by rw [hHb]; simp only [uold (show p.1 < nx1 + (N + 3) by omega)]
    have hib : inv s.s Hb := hy.invk _ _ _ hinv fun p hp => hbk p (by omega)
    obtain ⟨H1, m1, hy1, hm1, hk1, hr1⟩ := hy.step s.s Hb (nx1 + (N + 17)) (.mk v fn args) hib (by omega) hx.1
    have hb1 : H1 (nx1 + (N + 3), 0) = some (.cells [.d (.bool n), .d (.int .i64 v), .d (.str fn), .d (.sl (encL args) args.length false none), .d (.int .i64 v2), .d (.str fn2), .d (.sl (encL args2) args2.length false none)]) := by rw [hk1 _ (by simp only; omega) (by simp only; omega)]; exact hbs
    simp [Term.enc] at hy1
    cases hg1 : go s.s (.mk v fn args) with
    | false =>
     rw [hg1] at hy1 hr1
     simp only [Bool.false_eq_true, if_false] at hr1
     conv => arg 9; arg 4; unfold b85_0
     simp [a.lti, a.sz, a.ltm, a.cells, a.le7, a.w, plc_raw, Nat.add_assoc, ← hHb, hbs, numF_y, joinF_y, hy1]
     refine .fin _ _ ⟨by simp only; omega, by simp, ?_⟩
     simp only [hd, runT, hg1, Bool.false_eq_true, if_false]
     exact ⟨trivial, hy.fink _ _ _ hr1 fun p hp => blt (by omega)⟩
    | true =>
     rw [hg1] at hy1 hr1
     simp only [if_true] at hr1
     obtain ⟨H2, m2, hy2, hm2, hk2, hr2⟩ := hy.step (nxt s.s (.mk v fn args)) H1 m1 (.mk v2 fn2 args2) hr1 (by omega) hx.2
     simp [Term.enc] at hy2
     cases hg2 : go (nxt s.s (.mk v fn args)) (.mk v2 fn2 args2) with
     | false =>
      rw [hg2] at hy2 hr2
      simp only [Bool.false_eq_true, if_false] at hr2
      conv => arg 9; arg 4; unfold b85_0
      simp [a.lti, a.sz, a.ltm, a.cells, a.le7, a.w, plc_raw, Nat.add_assoc, ← hHb, hbs, numF_y, joinF_y, hy1, hb1, hy2]
      refine .fin _ _ ⟨by simp only; omega, by simp, ?_⟩
      simp only [hd, runT, hg1, hg2, if_true, Bool.false_eq_true, if_false]
      exact ⟨trivial, hy.fink _ _ _ hr2 fun p hp => blt (by omega)⟩
     | true =>
      rw [hg2] at hy2 hr2
      simp only [if_true] at hr2
      conv => arg 9; arg 4; unfold b85_0
      simp [a.lti, a.sz, a.ltm, a.cells, a.le7, a.w, plc_raw, Nat.add_assoc, ← hHb, hbs, numF_y, joinF_y, hy1, hb1, hy2]
      exact .next (SdS.mk (nxt (nxt s.s (.mk v fn args)) (.mk v2 fn2 args2)) (s.i + 1) (below N H2)) (by omega) (by simp) rfl ⟨hl, hy.invk _ _ _ hr2 fun p hp => blt (by omega)⟩ (by simp only; omega) (by simp only [hd, runT, hg1, hg2, if_true])
   ·have hie : s.i = c.length := Nat.le_antisymm hi hl
    simp [b85_0, hie]
    refine .fin _ _ ⟨by simp only; omega, by simp, ?_⟩
    simp only [hie, List.drop_length, sideL, List.flatMap_nil, runT, if_true]
    exact ⟨trivial, hy.invk _ _ _ hinv fun p hp => blt (by omega)⟩) ⟨s0, 0, H0⟩ ⟨Nat.zero_le _, h0⟩
 exact h
theorem sides1_ok {S : Type} {o : Oid} {go : S → Term → Bool} {nxt : S → Term → S} {inv fin : S → Hp → Prop} (hy : Yields o go nxt inv fin) {c : List Lt} (hc : okC c) (fl : Bool) (nl : Option Bool) {nx : Nat} (hN : o.1 < nx) (s0 : S) {H0 : Hp} (h0 : inv s0 H0) :
  ∃ v H' nx', acall Tryz.prog plc 85 [.yld o, .d (.dptr [.sl (encC c) c.length fl nl])] H0 nx = some (v, H', nx') ∧ nx ≤ nx' ∧ (if (runT go nxt s0 (sideL c)).2 then inv (runT go nxt s0 (sideL c)).1 H' else fin (runT go nxt s0 (sideL c)).1 H') := by
 obtain ⟨e, st, hrun, hN2, hlen, hR⟩ := sides_loop hy hc fl nl (N := nx + 3) (by omega) s0 h0
 simp [sdT] at hrun
 generalize hr : runT go nxt s0 (sideL c) = r at *
 obtain ⟨s, b⟩ := r
 cases b
 ·simp only [Bool.false_eq_true, if_false] at hR ⊢
  obtain ⟨rfl, hf⟩ := hR
  refine ⟨.d (.tup []), st.hp, st.nx, acall_body code85 ?_, by omega, hf⟩
  simp [hrun]
 ·simp only [if_true] at hR ⊢
  obtain ⟨rfl, hf⟩ := hR
  refine ⟨.d (.tup []), st.hp, st.nx, acall_body code85 ?_, by omega, hf⟩
  simp [hrun]
end Go.Proofs.YtajilkmepjhkdaaGreat.Am


/-
  Joined texts: AmRow, AmKu, AmLx. No condition.
-/
import Derived.Test.YtfcedichoigbbaaAmPaq
import Derived.WalkKit
import Derived.ProofKit
import Derived.OpenShut
import Derived.ShutString
import Derived.ChangeOld
import Derived.Below
import Derived.JoinedCond
/-
  What the statements' arguments are read as: signatures, terms, numbers, texts. No condition.
-/
namespace Go.Proofs.Ytfcedichoigbbaa.Am
open Go Go.Proofs
open Go.ChangeShapes Go.WideShapes Go.ChangeAt Go.RowKit
open Go.ChangeMaps (open_string shut_string)
set_option linter.unusedVariables false

theorem row_own : ownKnob Try.prog.godebug = none := by kernel_rfl
theorem row_laidOut : laidOutB Try.prog = true := by kernel_rfl
theorem row_orders : Try.prog.follows .mixedOrders = true := by kernel_rfl
theorem row_pol : PolOk Try.prog plc := ⟨fun f g h => (by cases h), hole_ok⟩

theorem encL_flat : ∀ (ts : List Am.Term), encL ts = ts.flatMap Am.Term.enc
  | [] => rfl
  | t :: r => by simp [encL, encL_flat r]
theorem encS_flat (l : List ByteArray) : encS l = l.flatMap fun x => [D.str x] := by induction l <;> simp_all [encS]
theorem encI_flat (l : List Int) : encI l = l.flatMap fun x => [D.int .i64 x] := by induction l <;> simp_all [encI]
theorem okL_of : ∀ {ts : List Am.Term}, (∀ x ∈ ts, x.ok) → okL ts
  | [], _ => trivial
  | t :: r, h => ⟨h t (by simp), okL_of fun x hx => h x (by simp [hx])⟩
theorem sizeL_sum : ∀ (ts : List Am.Term), sizeL ts = (ts.map Am.Term.size).sum
  | [] => rfl
  | t :: r => by simp [sizeL, sizeL_sum r]
theorem reads_term : ∀ n, ReadsB Try.prog 28 n Am.Term.enc Am.Term.ok Am.Term.size
  | 0 => .zero
  | n + 1 => by
    have hs : ReadsB Try.prog 26 n (fun xs : List Am.Term => [D.sl (xs.flatMap Am.Term.enc) xs.length false none]) (fun xs => xs.length ≤ maxLen ∧ ∀ x ∈ xs, x.ok) (fun xs => (xs.map Am.Term.size).sum + 1) := by
      cases n with
      | zero => exact .zero
      | succ m => exact .slice Try.underlying26 (by rw [show Try.prog.cellsOf 28 = 3 from by kernel_rfl]; decide) ((reads_term (m + 1)).le (by omega))
    exact (ReadsB.struct3 (s0 := 1) (s1 := 1) (s2 := 1) Try.underlying28 (by kernel_rfl) ⟨by kernel_rfl, rfl⟩ ⟨by kernel_rfl, rfl⟩ ⟨by kernel_rfl, rfl⟩ (ReadsB.int Try.underlying3) (ReadsB.str Try.underlying9) hs).map (fun x => .mk x.1 x.2.1 x.2.2)
      (fun x => by simp [Am.Term.enc, encL_flat]) (fun x hx => ⟨by have := hx.2.2.1; simp [maxLen] at this; omega, okL_of hx.2.2.2⟩) (fun x => by simp only [Am.Term.size, sizeL_sum]; omega)
theorem sum_one {α : Type} (l : List α) : (l.map fun _ => 1).sum = l.length := by induction l <;> simp_all <;> omega
theorem reads_ints (n : Nat) : ReadsB Try.prog 23 n (fun l : List Int => [D.sl (encI l) l.length false none]) (fun l => l.length ≤ 9223372036854775807 ∧ ∀ x ∈ l, (Lit.int .i64 x).wf = true) (fun l => l.length) := by
  cases n with
  | zero => exact .zero
  | succ m =>
    exact (ReadsB.slice Try.underlying23 (by rw [show Try.prog.cellsOf 3 = 1 from by kernel_rfl]; decide) (ReadsB.int Try.underlying3)).map (fun l => l) (fun l => by rw [encI_flat]) (fun l hl => ⟨by have := hl.1; simp [maxLen] at this; omega, hl.2⟩) (fun l => by show l.length ≤ (l.map fun _ => 1).sum + 1; rw [sum_one]; omega)
theorem reads_strs (n : Nat) : ReadsB Try.prog 22 n (fun l : List ByteArray => [D.sl (encS l) l.length false none]) (fun l => l.length ≤ 9223372036854775807) (fun l => l.length) := by
  cases n with
  | zero => exact .zero
  | succ m =>
    exact (ReadsB.slice Try.underlying22 (by rw [show Try.prog.cellsOf 9 = 1 from by kernel_rfl]; decide) (ReadsB.str Try.underlying9)).map (fun l => l) (fun l => by rw [encS_flat]) (fun l hl => by have := hl.1; simp [maxLen] at this; omega) (fun l => by show l.length ≤ (l.map fun _ => 1).sum + 1; rw [sum_one]; omega)
theorem reads_sign (n : Nat) : ReadsB Try.prog 25 n Sg.enc Sg.ok (fun _ => 0) := by
  cases n with
  | zero => exact .zero
  | succ m =>
    exact (ReadsB.struct2 (s0 := 1) (s1 := 1) Try.underlying25 (by kernel_rfl) ⟨by kernel_rfl, rfl⟩ ⟨by kernel_rfl, rfl⟩ (reads_strs m) (reads_ints m)).map (fun x => ⟨x.1, x.2⟩) (fun x => rfl) (fun x hx => ⟨hx.1, hx.2.1⟩) (fun x => by simp)

def okBz (bs : List Bd) : Prop := okB bs
theorem encB_flat (l : List Bd) : encB l = l.flatMap Bd.enc := rfl
theorem reads_bind (m : Nat) : ReadsB Try.prog 40 m Bd.enc (fun b => b.t.ok) (fun b => b.t.size) := by
  cases m with
  | zero => exact .zero
  | succ k =>
    exact (ReadsB.struct2 (s0 := 1) (s1 := 3) Try.underlying40 (by kernel_rfl) ⟨by kernel_rfl, rfl⟩ ⟨by kernel_rfl, rfl⟩ (ReadsB.int Try.underlying3) (reads_term k)).map (fun x => ⟨x.1, x.2⟩) (fun x => rfl) (fun x hx => hx.2) (fun x => by show x.2.size ≤ 1 + x.2.size + 1; omega)
theorem reads_binds (n : Nat) : ReadsB Try.prog 37 n (fun bs : List Bd => [D.sl (encB bs) bs.length false none]) okB (fun bs => (bs.map fun b => b.t.size).sum) := by
  cases n with
  | zero => exact .zero
  | succ m =>
    exact (ReadsB.slice Try.underlying37 (by rw [show Try.prog.cellsOf 40 = 4 from by kernel_rfl]; decide) (reads_bind m)).map (fun xs => xs) (fun xs => rfl) (fun xs hx => ⟨by have := hx.1; simp [maxLen] at this; omega, hx.2⟩) (fun xs => Nat.le_succ _)
theorem binds_le {bs : List Bd} {n : Nat} (h : (bs.map fun b => b.t.size).sum ≤ n) : ∀ x ∈ bs, x.t.size ≤ n := by
  induction bs with
  | nil => intro x hx; simp at hx
  | cons b r ih =>
    intro x hx
    simp only [List.map_cons, List.sum_cons] at h
    rcases List.mem_cons.1 hx with rfl | hx
    · omega
    · have := ih (by omega) x hx; omega

/-- An argument is what was read. -/
theorem arg_slice {w : World} {a : Option Addr} {l c : Nat} {x : D} (h : CD w [x] (Value.slice a l c).cells.toList) : RepD (· < w.heap.size) w x (.slice a l c) := by
  have := h.rep 0 x rfl
  simpa [Value.cells] using this
theorem arg_agg {w : World} {cs : Array Value} {ds : List D} (h : CD w ds (Value.agg cs).cells.toList) : RepD (· < w.heap.size) w (.agg ds) (.agg cs) := by
  have hl := h.len
  simp only [Value.cells, Array.length_toList] at hl
  refine .agg ds cs hl (fun j hj => ?_) (fun j x hx => ?_)
  · have := h.one j (by simpa [Value.cells] using hj)
    simpa [Value.cells] using this
  · have := h.rep j x hx
    simpa [Value.cells] using this
end Go.Proofs.Ytfcedichoigbbaa.Am

/-
  The laws of the order of Knuth and Bendix: behind substitutions; parts. No condition.
-/
namespace Go.Proofs.Ytfcedichoigbbaa.Am
open Go Go.Proofs
set_option maxHeartbeats 4000000
set_option linter.unusedSimpArgs false
set_option linter.unusedVariables false

abbrev keepsH (g : Sg) (v : Int) (fn : ByteArray) (args : List Term) (v2 : Int) (fn2 : ByteArray) (args2 : List Term) : Hp :=
  upd (upd (upd (upd (fun _ => none) (0, 0) (.cells [.d (.sl (encS g.names) g.names.length false none), .d (.sl (encI g.weights) g.weights.length false none)])) (1, 0) (.cells [.d (.int .i64 v), .d (.str fn), .d (.sl (encL args) args.length false none)])) (2, 0) (.cells [.d (.int .i64 v2), .d (.str fn2), .d (.sl (encL args2) args2.length false none)])) (15, 0)
    (.cells [.d (.int .i64 v), .d (.str fn), .d (.sl (encL args) args.length false none), .d (.int .i64 v2), .d (.str fn2), .d (.sl (encL args2) args2.length false none)])
def KeepsEnd (g : Sg) (v : Int) (fn : ByteArray) (args : List Term) (v2 : Int) (fn2 : ByteArray) (args2 : List Term) (bs : List Bd) (r : Bool) (e : Ex) (t : St) : Prop :=
  if r then AtExit 0 [.junk, .junk, .junk, .d (.sl (encB bs) bs.length false none), .ptr (0, 0) 0 2, .ptr (1, 0) 0 3, .ptr (2, 0) 0 3, .junk, .d (.bool false), .d (.int .i64 bs.length), .junk, .junk, .junk, .junk, .junk, .junk, .junk, .junk, .junk, .junk, .junk, .junk, .junk, .junk, .junk, .junk, .junk, .junk, .junk, .junk, .junk, .junk, .junk, .junk, .junk, .junk, .junk, .junk, .junk, .junk, .junk, .junk, .junk, .junk, .junk, .junk, .junk, .junk, .junk, .junk, .junk, .junk, .junk, .junk, .junk, .junk, .junk, .junk, .junk, .junk, .junk, .junk, .junk, .junk, .junk, .junk, .junk, .junk, .junk, .junk, .junk, .junk, .junk, .junk, .junk, .junk, .junk, .junk, .junk, .junk, .junk, .junk, .junk] (keepsH g v fn args v2 fn2 args2) e t else AtRet 8 (.d (.bool true)) e t
theorem keeps_loop (g : Sg) (v : Int) (fn : ByteArray) (args : List Term) (v2 : Int) (fn2 : ByteArray) (args2 : List Term) (bs : List Bd) (hb : okB bs) :
    ∃ e t, aloop Try.prog plc b11_0 ⟨[false, false, false, true, true, true, true, false, true, true, true, true, true, true, true, false, false, false, false, false, false, false, false, false, false, false, false, false, false, false, false, false, false, false, false, false, false, false, false, false, false, false, false, false, false, false, true, true, true, true, true, true, true, true, true, true, true, true, true, true, true, true, true, true, true, true, true, true, true, true, true, true, true, true, true, true, true, true, true, true, true, true, true], some 20⟩ ⟨[.junk, .junk, .junk, .d (.sl (encB bs) bs.length false none), .ptr (0, 0) 0 2, .ptr (1, 0) 0 3, .ptr (2, 0) 0 3, .junk, .d (.bool false), .d (.int .i64 0), .junk, .junk, .junk, .junk, .junk, .junk, .junk, .junk, .junk, .junk, .junk, .junk, .junk, .junk, .junk, .junk, .junk, .junk, .junk, .junk, .junk, .junk, .junk, .junk, .junk, .junk, .junk, .junk, .junk, .junk, .junk, .junk, .junk, .junk, .junk, .junk, .junk, .junk, .junk, .junk, .junk, .junk, .junk, .junk, .junk, .junk, .junk, .junk, .junk, .junk, .junk, .junk, .junk, .junk, .junk, .junk, .junk, .junk, .junk, .junk, .junk, .junk, .junk, .junk, .junk, .junk, .junk, .junk, .junk, .junk, .junk, .junk, .junk], keepsH g v fn args v2 fn2 args2, 20⟩ = some (e, t) ∧
      KeepsEnd g v fn args v2 fn2 args2 bs (bs.all fun b => smallB [b.t]) e t := by
  have hal := alive07_ok
  have key := loop_rule (P := Try.prog) (pol := plc) (c := b11_0) (m := ⟨[false, false, false, true, true, true, true, false, true, true, true, true, true, true, true, false, false, false, false, false, false, false, false, false, false, false, false, false, false, false, false, false, false, false, false, false, false, false, false, false, false, false, false, false, false, false, true, true, true, true, true, true, true, true, true, true, true, true, true, true, true, true, true, true, true, true, true, true, true, true, true, true, true, true, true, true, true, true, true, true, true, true, true], some 20⟩)
    (b := 20) (tm := fun (i : Nat) => [.junk, .junk, .junk, .d (.sl (encB bs) bs.length false none), .ptr (0, 0) 0 2, .ptr (1, 0) 0 3, .ptr (2, 0) 0 3, .junk, .d (.bool false), .d (.int .i64 i), .junk, .junk, .junk, .junk, .junk, .junk, .junk, .junk, .junk, .junk, .junk, .junk, .junk, .junk, .junk, .junk, .junk, .junk, .junk, .junk, .junk, .junk, .junk, .junk, .junk, .junk, .junk, .junk, .junk, .junk, .junk, .junk, .junk, .junk, .junk, .junk, .junk, .junk, .junk, .junk, .junk, .junk, .junk, .junk, .junk, .junk, .junk, .junk, .junk, .junk, .junk, .junk, .junk, .junk, .junk, .junk, .junk, .junk, .junk, .junk, .junk, .junk, .junk, .junk, .junk, .junk, .junk, .junk, .junk, .junk, .junk, .junk, .junk]) (Hf := fun _ => keepsH g v fn args v2 fn2 args2)
    (I := fun i => i ≤ bs.length) (μ := fun i => bs.length - i) (res := fun i => (bs.drop i).all fun b => smallB [b.t]) (R := KeepsEnd g v fn args v2 fn2 args2 bs)
    (fun i nx hi => by
      rcases Nat.lt_or_ge i bs.length with hl | hl
      · obtain ⟨x, v', fn', args', a⟩ := atB_ok hb.1 (i := i) hl
        have hc := small_ok [.mk v' fn' args'] (by simp) ⟨hb.2 _ a.mem, trivial⟩
        have hres : (bs.drop i).all (fun b => smallB [b.t]) = (smallB [.mk v' fn' args'] && (bs.drop (i + 1)).all fun b => smallB [b.t]) := by rw [a.dr]; rfl
        generalize smallB [.mk v' fn' args'] = q at hc hres
        simp [encL, Term.enc] at hc
        conv => arg 9; arg 4; unfold b11_0
        cases q
        · simp [a.lti, a.sz, a.ltm, a.c1, a.e10, a.e11, a.c10, a.c11, a.le1, a.le4, a.le3, a.le2, a.le11, plc_raw, a.w, hc, hal]
          exact .fin _ _ (by simp only [hres]; simp [KeepsEnd, AtRet])
        · simp [a.lti, a.sz, a.ltm, a.c1, a.e10, a.e11, a.c10, a.c11, a.le1, a.le4, a.le3, a.le2, a.le11, plc_raw, a.w, hc, hal]
          exact .next (i + 1) (by omega) (by simp) (by simp [keepsH]) hl (by omega) (by simp only [hres]; simp)
      · obtain rfl : i = bs.length := Nat.le_antisymm hi hl
        simp [b11_0]
        exact .fin _ _ (by simp only [List.drop_length, List.all_nil, KeepsEnd, if_true]; exact .mk)) 0 (Nat.zero_le _)
  simpa using key
/-- What the law says. -/
theorem keeps_law (g : Sg) (a b : Term) (bs : List Bd) (ha : a.size ≤ 1048576) (hb : b.size ≤ 1048576) (hbs : ∀ x ∈ bs, x.t.size ≤ 1048576) :
    (applyS bs a).2 ≠ 0 ∨ (applyS bs b).2 ≠ 0 ∨ g.kCmp a b ≠ 1 ∨ g.kCmp (applyS bs a).1 (applyS bs b).1 = 1 := by
  by_cases h1 : (applyS bs a).2 = 0
  · by_cases h2 : (applyS bs b).2 = 0
    · by_cases h3 : g.kCmp a b = 1
      · refine .inr (.inr (.inr ?_))
        have key : ∀ t : Term, t.size ≤ 1048576 → (applyS bs t).2 = 0 → (applyS bs t).1 = t.putS bs ∧ (t.putS bs).rightE = 0 ∧ (t.putS bs).size ≤ 1048576 := fun t ht h => by
          unfold applyS at h ⊢
          have hz := putS_size bs 1048576 (by omega) hbs t
          have hz2 : t.size * 1048576 ≤ 1048576 * 1048576 := Nat.mul_le_mul_right _ ht
          split at h
          · rename_i hc
            rw [if_pos hc]
            split at h
            · rename_i hr
              rw [if_pos hr]
              have := (rightE_iff (t.putS bs) (by omega)).1 hr
              exact ⟨rfl, hr, by omega⟩
            · rename_i hr; simp only at h; exact absurd h hr
          · simp at h
        obtain ⟨e1, r1, z1⟩ := key a ha h1
        obtain ⟨e2, r2, z2⟩ := key b hb h2
        rw [e1, e2, kCmp_gt g _ _ z1 z2]
        rw [kCmp_gt g _ _ ha hb] at h3
        exact ⟨h3.1, r1, r2, kgt_putS g bs a b (rightE_shape' h3.2.1) (rightE_shape' h3.2.2.1) h3.2.2.2⟩
      · exact .inr (.inr (.inl h3))
    · exact .inr (.inl h2)
  · exact .inl h1
theorem applyS_ok (bs : List Bd) (hb : okB bs) (t : Term) (ht : t.ok) : (applyS bs t).1.ok := by
  unfold applyS
  split
  · split
    · exact putS_ok bs hb t ht
    · simp [Term.ok, okL]
  · simp [Term.ok, okL]
theorem kboKeeps_ok (g : Sg) (hg : g.ok) (a : Term) (ha : a.ok) (has : a.size ≤ 1048576) (b : Term) (hb : b.ok) (hbs : b.size ≤ 1048576) (bs : List Bd) (hB : okB bs) (hBs : ∀ x ∈ bs, x.t.size ≤ 1048576) :
    pcl Cp 11 [.agg g.enc, .agg a.enc, .agg b.enc, .sl (encB bs) bs.length false none] = some (.bool true) := by
  have hlaw := keeps_law g a b bs has hbs hBs
  have h1 := ris_ok bs hB
  have h2 := small_ok [a, b] (by simp) ⟨ha, hb, trivial⟩
  obtain ⟨r1, h3, h4⟩ := apply_ok bs hB a ha has
  obtain ⟨r2, h5, h6⟩ := apply_ok bs hB b hb hbs
  have h7 := kCompare_ok g hg a ha b hb
  have h8 := kCompare_ok g hg _ (applyS_ok bs hB a ha) _ (applyS_ok bs hB b hb)
  have h9 := own_ok g
  have h10 := alive07_ok
  generalize isB bs = q1 at h1
  generalize smallB [a, b] = q2 at h2
  generalize g.kCmp a b = c1 at *
  generalize g.kCmp (applyS bs a).1 (applyS bs b).1 = c2 at *
  generalize applyS bs a = x at *
  generalize applyS bs b = y at *
  obtain ⟨⟨xv, xf, xa⟩, xe⟩ := x
  obtain ⟨⟨yv, yf, ya⟩, ye⟩ := y
  obtain ⟨v, fn, args⟩ := a
  obtain ⟨v2, fn2, args2⟩ := b
  simp [Sg.enc, Term.enc, encL] at h2 h3 h4 h5 h6 h7 h8 h9 hlaw
  refine pcl_body code11 ?_
  cases q1
  · simp [Sg.enc, Term.enc, plc_raw, h1, h10]
  by_cases hl : (20 : Int) < bs.length
  · have hl2 : 20 < bs.length := by omega
    simp [Sg.enc, Term.enc, plc_raw, h1, h10, hl, hl2]
  have hl2 : ¬ 20 < bs.length := by omega
  cases q2
  · simp [Sg.enc, Term.enc, plc_raw, h1, h2, h10, hl, hl2]
  obtain ⟨e, t, hrun, hR⟩ := keeps_loop g v fn args v2 fn2 args2 bs hB
  cases hall : bs.all fun b => smallB [b.t]
  · rw [hall] at hR
    obtain ⟨rfl, hv⟩ := hR
    simp [Sg.enc, Term.enc, plc_raw, h1, h2, h10, hl, hl2, hrun, hv]
  rw [hall] at hR
  obtain ⟨rfl, nx, rfl⟩ := hR
  clear hall
  by_cases he : xe = 0
  · by_cases he2 : ye = 0
    · by_cases hc1 : c1 = 1
      · have hc2 : c2 = 1 := by simpa [he, he2, hc1] using hlaw
        simp [Sg.enc, Term.enc, plc_raw, h1, h2, h3, h4, h5, h6, h7, h8, h9, h10, hl, hl2, hrun, he, he2, hc1, hc2]
      · simp [Sg.enc, Term.enc, plc_raw, h1, h2, h3, h4, h5, h6, h7, h8, h9, h10, hl, hl2, hrun, he, he2, hc1]
    · simp [Sg.enc, Term.enc, plc_raw, h1, h2, h3, h4, h5, h6, h7, h8, h9, h10, hl, hl2, hrun, he, he2]
  · simp [Sg.enc, Term.enc, plc_raw, h1, h2, h3, h4, h5, h6, h7, h8, h9, h10, hl, hl2, hrun, he]

/-! ### Parts -/
theorem putAt_some (s : Term) : ∀ (p : List Int) (t x : Term), t.at p = some x → ∃ u, t.putAt p s = some u
  | [], t, x, h => ⟨s, by cases t; rfl⟩
  | k :: p, .mk v fn args, x, h => by
    simp only [Term.at] at h
    simp only [Term.putAt]
    split at h
    · cases h
    · rename_i hk
      rw [if_neg hk]
      cases hg : args[k.toNat]? with
      | none => rw [hg] at h; cases h
      | some y =>
        rw [hg] at h
        obtain ⟨u, hu⟩ := putAt_some s p y x h
        exact ⟨_, by simp only [hu]; rfl⟩
theorem at_ok' : ∀ (p : List Int) (t x : Term), t.at p = some x → t.ok → x.ok
  | [], t, x, h, ht => by
    have : t = x := by cases t; simpa [Term.at] using h
    exact this ▸ ht
  | k :: p, .mk v fn args, x, h, ht => by
    simp only [Term.at] at h
    split at h
    · cases h
    · cases hg : args[k.toNat]? with
      | none => rw [hg] at h; cases h
      | some y => rw [hg] at h; exact at_ok' p y x h (okL_mem ht.2 y (List.mem_of_getElem? hg))
theorem okL_set : ∀ (a : List Term) (i : Nat) (y : Term), okL a → y.ok → okL (a.set i y)
  | [], i, y, _, _ => trivial
  | t :: r, 0, y, h, hy => ⟨hy, h.2⟩
  | t :: r, i + 1, y, h, hy => ⟨h.1, okL_set r i y h.2 hy⟩
theorem putAt_ok (s : Term) (hs : s.ok) : ∀ (p : List Int) (t u : Term), t.putAt p s = some u → t.ok → u.ok
  | [], t, u, h, _ => by
    have : s = u := by cases t; simpa [Term.putAt] using h
    exact this ▸ hs
  | k :: p, .mk v fn args, u, h, ht => by
    simp only [Term.putAt] at h
    split at h
    · cases h
    · cases hg : args[k.toNat]? with
      | none => rw [hg] at h; cases h
      | some y =>
        rw [hg] at h
        simp only [Option.map_eq_some_iff] at h
        obtain ⟨w, hw, rfl⟩ := h
        exact ⟨by simpa using ht.1, okL_set _ _ _ ht.2 (putAt_ok s hs p y w hw (okL_mem ht.2 y (List.mem_of_getElem? hg)))⟩
theorem vars_nil {t : Term} (h : t.varsW [] = []) : t.occ = [] := by
  cases ho : t.occ with
  | nil => rfl
  | cons x r =>
    have : x ∈ t.varsW [] := (varsW_mem t [] x).2 (.inr (by rw [ho]; simp))
    rw [h] at this; simp at this
theorem parts_law (g : Sg) (t s x u : Term) (p : List Int) (ht : t.size ≤ 1048576) (hs : s.size ≤ 1048576) (hp : p.length ≤ 1048576) (hx : t.at p = some x) (hu : t.putAt p s = some u)
    (hg : g.right = true) (h1 : t.rightE = 0) (h2 : s.rightE = 0) : (p ≠ [] → g.kCmp t x = 1) ∧ (u.rightE = 0 → g.kCmp x s = 1 → g.kCmp t u = 1) ∧ (t.varsW [] = [] → s.varsW [] = [] → g.kCmp t s ≠ 2) := by
  have hr := (rightE_iff t (by omega)).1 h1
  have hr2 := (rightE_iff s (by omega)).1 h2
  have hxr := at_right p t x hx hr.1
  have hx0 : x.rightE = 0 := (rightE_iff x (by omega)).2 ⟨hxr.1, by omega, by omega⟩
  refine ⟨fun h => ?_, fun hu0 h => ?_, fun hv hv2 => ?_⟩
  · rw [kCmp_gt g _ _ ht (by omega)]
    exact ⟨hg, h1, hx0, at_gt g p t x hx h⟩
  · have hsz := putAt_size s p t u hu
    have hm : t.size * (p.length + 1) ≤ 1048576 * 1048577 := Nat.mul_le_mul ht (by omega)
    have hur := (rightE_iff u (by omega)).1 hu0
    rw [kCmp_gt g _ _ (by omega) hs] at h
    rw [kCmp_gt g _ _ ht (by omega)]
    exact ⟨hg, h1, hu0, putAt_gt g s p t x u hx hu hr.1 h.2.2.2⟩
  · rw [kCmp_spec g t s ht hs, if_pos ⟨hg, h1, h2⟩]
    rcases ground_total g t s hr.1 hr2.1 (vars_nil hv) (vars_nil hv2) with h | h | h
    · rw [if_pos h]; decide
    · split
      · decide
      · decide
    · split
      · decide
      · split
        · decide
        · decide
theorem kboParts_ok (g : Sg) (hg : g.ok) (t : Term) (ht : t.ok) (hts : t.size ≤ 1048576) (s : Term) (hs : s.ok) (hss : s.size ≤ 1048576) (p : List Int) (hp : p.length ≤ 9223372036854775807 ∧ ∀ x ∈ p, (Lit.int .i64 x).wf = true) (hps : p.length ≤ 1048576) :
    pcl Cp 12 [.agg g.enc, .agg t.enc, .agg s.enc, .sl (encI p) p.length false none] = some (.bool true) := by
  have h0 := own_ok g
  have hal := alive07_ok
  obtain ⟨r1, h1, h2⟩ := rat_part_ok p hp.1 t ht
  have h3 := grright_ok g hg
  have h4 := rright_ok t ht
  have h5 := rright_ok s hs
  simp only [atR] at h2
  cases hx : t.at p with
  | none =>
    rw [hx] at h2
    obtain ⟨v, fn, args⟩ := t
    obtain ⟨v2, fn2, args2⟩ := s
    simp [Sg.enc, Term.enc] at h0 h1 h2
    refine pcl_body code12 ?_
    simp [Sg.enc, Term.enc, plc_raw, h0, h1, h2, hal]
  | some x =>
    rw [hx] at h2
    obtain ⟨u, hu⟩ := putAt_some s p t x hx
    obtain ⟨r2, h6, h7⟩ := rput_part_ok s hs p hp.1 t ht hts
    simp only [putR, hu] at h7
    have hxo := at_ok' p t x hx ht
    have huo := putAt_ok s hs p t u hu ht
    have h8 := rright_ok u huo
    have c1 := kCompare_ok g hg t ht x hxo
    have c2 := kCompare_ok g hg x hxo s hs
    have c3 := kCompare_ok g hg t ht u huo
    have c4 := kCompare_ok g hg t ht s hs
    obtain ⟨nl1, w1⟩ := rVars_ok t ht (by omega)
    obtain ⟨nl2, w2⟩ := rVars_ok s hs (by omega)
    have hl1 := varsW_len t []
    have hl2 := varsW_len s []
    have hlaw := fun hgr hr1 hr2 => parts_law g t s x u p hts hss hps hx hu hgr hr1 hr2
    clear hx hu hxo huo
    generalize t.varsW [] = V1 at *
    generalize s.varsW [] = V2 at *
    generalize t.rightE = z1 at *
    generalize s.rightE = z2 at *
    generalize u.rightE = z3 at *
    generalize g.kCmp t x = k1 at *
    generalize g.kCmp x s = k2 at *
    generalize g.kCmp t u = k3 at *
    generalize g.kCmp t s = k4 at *
    generalize g.right = gr at *
    have hw : IntKind.i64.wrap ((V1.length : Int) + (V2.length : Int)) = (V1.length : Int) + (V2.length : Int) := wrap_small (by simp at hl1 hl2; omega) (by simp at hl1 hl2; omega)
    clear hl1 hl2
    obtain ⟨v, fn, args⟩ := t
    obtain ⟨v2, fn2, args2⟩ := s
    obtain ⟨v3, fn3, args3⟩ := x
    obtain ⟨v4, fn4, args4⟩ := u
    simp [Sg.enc, Term.enc] at h0 h1 h2 h3 h4 h5 h6 h7 h8 c1 c2 c3 c4 w1 w2
    refine pcl_body code12 ?_
    cases gr
    · simp [Sg.enc, Term.enc, plc_raw, h0, h1, h2, h3, hal]
    by_cases hz1 : z1 = 0
    · by_cases hz2 : z2 = 0
      · obtain ⟨l1, l2, l3⟩ := hlaw rfl hz1 hz2
        have hpl : (0 : Int) < p.length ↔ p ≠ [] := by cases p <;> simp <;> omega
        by_cases hpe : p = []
        · have hpi : ¬ (0 : Int) < p.length := by simp [hpl, hpe]
          have hw0 : IntKind.i64.wrap 0 = 0 := wrap_small (by omega) (by omega)
          have hpi2 := hpi
          rw [Int.natCast_pos] at hpi2
          have hput : z3 ≠ 0 ∨ k2 ≠ 1 ∨ k3 = 1 := by
            by_cases a1 : z3 = 0
            · by_cases a2 : k2 = 1
              · exact .inr (.inr (l2 a1 a2))
              · exact .inr (.inl a2)
            · exact .inl a1
          have hgr : ((V1.length : Int) + (V2.length : Int) = 0 ∧ k4 ≠ 2) ∨ ¬ ((V1.length : Int) + (V2.length : Int) = 0) := by
            by_cases a1 : (V1.length : Int) + (V2.length : Int) = 0
            · exact .inl ⟨a1, l3 (List.length_eq_zero_iff.1 (by omega)) (List.length_eq_zero_iff.1 (by omega))⟩
            · exact .inr a1
          clear hlaw l1 l2 l3 hpe hpl
          rcases hgr with ⟨g1, g2⟩ | g1 <;> by_cases a1 : z3 = 0 <;> by_cases a2 : k2 = 1
          all_goals (try have a3 : k3 = 1 := by (rcases hput with h | h | h; exact absurd a1 h; exact absurd a2 h; exact h))
          all_goals simp [Sg.enc, Term.enc, plc_raw, h0, h1, h2, h3, h4, h5, h6, h7, h8, c1, c2, c3, c4, w1, w2, hal, hz1, hz2, hpi, hpi2, hw, hw0, *]
        · have hpi : (0 : Int) < p.length := hpl.2 hpe
          have hk1 := l1 hpe
          have hw0 : IntKind.i64.wrap 0 = 0 := wrap_small (by omega) (by omega)
          have hpi2 := hpi
          rw [Int.natCast_pos] at hpi2
          have hput : z3 ≠ 0 ∨ k2 ≠ 1 ∨ k3 = 1 := by
            by_cases a1 : z3 = 0
            · by_cases a2 : k2 = 1
              · exact .inr (.inr (l2 a1 a2))
              · exact .inr (.inl a2)
            · exact .inl a1
          have hgr : ((V1.length : Int) + (V2.length : Int) = 0 ∧ k4 ≠ 2) ∨ ¬ ((V1.length : Int) + (V2.length : Int) = 0) := by
            by_cases a1 : (V1.length : Int) + (V2.length : Int) = 0
            · exact .inl ⟨a1, l3 (List.length_eq_zero_iff.1 (by omega)) (List.length_eq_zero_iff.1 (by omega))⟩
            · exact .inr a1
          clear hlaw l1 l2 l3 hpe hpl
          rcases hgr with ⟨g1, g2⟩ | g1 <;> by_cases a1 : z3 = 0 <;> by_cases a2 : k2 = 1
          all_goals (try have a3 : k3 = 1 := by (rcases hput with h | h | h; exact absurd a1 h; exact absurd a2 h; exact h))
          all_goals simp [Sg.enc, Term.enc, plc_raw, h0, h1, h2, h3, h4, h5, h6, h7, h8, c1, c2, c3, c4, w1, w2, hal, hz1, hz2, hpi, hpi2, hw, hw0, *]
      · simp [Sg.enc, Term.enc, plc_raw, h0, h1, h2, h3, h4, h5, hal, hz1, hz2]
    · simp [Sg.enc, Term.enc, plc_raw, h0, h1, h2, h3, h4, hal, hz1]
end Go.Proofs.Ytfcedichoigbbaa.Am

/-
  The laws of the path order: behind substitutions; parts. No condition.
-/
namespace Go.Proofs.Ytfcedichoigbbaa.Am
open Go Go.Proofs
set_option maxHeartbeats 4000000
set_option linter.unusedSimpArgs false
set_option linter.unusedVariables false

def LKeepsEnd (g : Sg) (v : Int) (fn : ByteArray) (args : List Term) (v2 : Int) (fn2 : ByteArray) (args2 : List Term) (bs : List Bd) (r : Bool) (e : Ex) (t : St) : Prop :=
  if r then AtExit 0 [.junk, .junk, .junk, .d (.sl (encB bs) bs.length false none), .ptr (0, 0) 0 2, .ptr (1, 0) 0 3, .ptr (2, 0) 0 3, .junk, .d (.bool false), .d (.int .i64 bs.length), .junk, .junk, .junk, .junk, .junk, .junk, .junk, .junk, .junk, .junk, .junk, .junk, .junk, .junk, .junk, .junk, .junk, .junk, .junk, .junk, .junk, .junk, .junk, .junk, .junk, .junk, .junk, .junk, .junk, .junk, .junk, .junk, .junk, .junk, .junk, .junk, .junk, .junk, .junk, .junk, .junk, .junk, .junk, .junk, .junk, .junk, .junk, .junk, .junk, .junk, .junk, .junk, .junk, .junk, .junk, .junk, .junk, .junk, .junk, .junk, .junk, .junk, .junk, .junk, .junk, .junk, .junk, .junk, .junk, .junk, .junk, .junk, .junk, .junk, .junk, .junk, .junk, .junk, .junk, .junk, .junk, .junk] (keepsH g v fn args v2 fn2 args2) e t else AtRet 8 (.d (.bool true)) e t
theorem lkeeps_loop (g : Sg) (v : Int) (fn : ByteArray) (args : List Term) (v2 : Int) (fn2 : ByteArray) (args2 : List Term) (bs : List Bd) (hb : okB bs) :
    ∃ e t, aloop Try.prog plc b5_0 ⟨[false, false, false, true, true, true, true, false, true, true, true, true, true, true, true, false, false, false, false, false, false, false, false, false, false, false, false, false, false, false, false, false, false, false, false, false, false, false, false, false, false, false, false, false, false, false, true, true, true, true, true, true, true, true, true, true, true, true, true, true, true, true, true, true, true, true, true, true, true, true, true, true, true, true, true, true, true, true, true, true, true, true, true, true, true, true, true, true, true, true, true, true], some 20⟩ ⟨[.junk, .junk, .junk, .d (.sl (encB bs) bs.length false none), .ptr (0, 0) 0 2, .ptr (1, 0) 0 3, .ptr (2, 0) 0 3, .junk, .d (.bool false), .d (.int .i64 0), .junk, .junk, .junk, .junk, .junk, .junk, .junk, .junk, .junk, .junk, .junk, .junk, .junk, .junk, .junk, .junk, .junk, .junk, .junk, .junk, .junk, .junk, .junk, .junk, .junk, .junk, .junk, .junk, .junk, .junk, .junk, .junk, .junk, .junk, .junk, .junk, .junk, .junk, .junk, .junk, .junk, .junk, .junk, .junk, .junk, .junk, .junk, .junk, .junk, .junk, .junk, .junk, .junk, .junk, .junk, .junk, .junk, .junk, .junk, .junk, .junk, .junk, .junk, .junk, .junk, .junk, .junk, .junk, .junk, .junk, .junk, .junk, .junk, .junk, .junk, .junk, .junk, .junk, .junk, .junk, .junk, .junk], keepsH g v fn args v2 fn2 args2, 20⟩ = some (e, t) ∧
      LKeepsEnd g v fn args v2 fn2 args2 bs (bs.all fun b => smallB [b.t]) e t := by
  have hal := alive08_ok
  have key := loop_rule (P := Try.prog) (pol := plc) (c := b5_0) (m := ⟨[false, false, false, true, true, true, true, false, true, true, true, true, true, true, true, false, false, false, false, false, false, false, false, false, false, false, false, false, false, false, false, false, false, false, false, false, false, false, false, false, false, false, false, false, false, false, true, true, true, true, true, true, true, true, true, true, true, true, true, true, true, true, true, true, true, true, true, true, true, true, true, true, true, true, true, true, true, true, true, true, true, true, true, true, true, true, true, true, true, true, true, true], some 20⟩)
    (b := 20) (tm := fun (i : Nat) => [.junk, .junk, .junk, .d (.sl (encB bs) bs.length false none), .ptr (0, 0) 0 2, .ptr (1, 0) 0 3, .ptr (2, 0) 0 3, .junk, .d (.bool false), .d (.int .i64 i), .junk, .junk, .junk, .junk, .junk, .junk, .junk, .junk, .junk, .junk, .junk, .junk, .junk, .junk, .junk, .junk, .junk, .junk, .junk, .junk, .junk, .junk, .junk, .junk, .junk, .junk, .junk, .junk, .junk, .junk, .junk, .junk, .junk, .junk, .junk, .junk, .junk, .junk, .junk, .junk, .junk, .junk, .junk, .junk, .junk, .junk, .junk, .junk, .junk, .junk, .junk, .junk, .junk, .junk, .junk, .junk, .junk, .junk, .junk, .junk, .junk, .junk, .junk, .junk, .junk, .junk, .junk, .junk, .junk, .junk, .junk, .junk, .junk, .junk, .junk, .junk, .junk, .junk, .junk, .junk, .junk, .junk]) (Hf := fun _ => keepsH g v fn args v2 fn2 args2)
    (I := fun i => i ≤ bs.length) (μ := fun i => bs.length - i) (res := fun i => (bs.drop i).all fun b => smallB [b.t]) (R := LKeepsEnd g v fn args v2 fn2 args2 bs)
    (fun i nx hi => by
      rcases Nat.lt_or_ge i bs.length with hl | hl
      · obtain ⟨x, v', fn', args', a⟩ := atB_ok hb.1 (i := i) hl
        have hc := small_ok [.mk v' fn' args'] (by simp) ⟨hb.2 _ a.mem, trivial⟩
        have hres : (bs.drop i).all (fun b => smallB [b.t]) = (smallB [.mk v' fn' args'] && (bs.drop (i + 1)).all fun b => smallB [b.t]) := by rw [a.dr]; rfl
        generalize smallB [.mk v' fn' args'] = q at hc hres
        simp [encL, Term.enc] at hc
        conv => arg 9; arg 4; unfold b5_0
        cases q
        · simp [a.lti, a.sz, a.ltm, a.c1, a.e10, a.e11, a.c10, a.c11, a.le1, a.le4, a.le3, a.le2, a.le11, plc_raw, a.w, hc, hal]
          exact .fin _ _ (by simp only [hres]; simp [LKeepsEnd, AtRet])
        · simp [a.lti, a.sz, a.ltm, a.c1, a.e10, a.e11, a.c10, a.c11, a.le1, a.le4, a.le3, a.le2, a.le11, plc_raw, a.w, hc, hal]
          exact .next (i + 1) (by omega) (by simp) (by simp [keepsH]) hl (by omega) (by simp only [hres]; simp)
      · obtain rfl : i = bs.length := Nat.le_antisymm hi hl
        simp [b5_0]
        exact .fin _ _ (by simp only [List.drop_length, List.all_nil, LKeepsEnd, if_true]; exact .mk)) 0 (Nat.zero_le _)
  simpa using key
/-- What the law says. -/
theorem lkeeps_law (g : Sg) (a b : Term) (bs : List Bd) (ha : a.size ≤ 1048576) (hb : b.size ≤ 1048576) (hbs : ∀ x ∈ bs, x.t.size ≤ 1048576) :
    (applyS bs a).2 ≠ 0 ∨ (applyS bs b).2 ≠ 0 ∨ g.lCmp a b ≠ 1 ∨ g.lCmp (applyS bs a).1 (applyS bs b).1 = 1 := by
  by_cases h1 : (applyS bs a).2 = 0
  · by_cases h2 : (applyS bs b).2 = 0
    · by_cases h3 : g.lCmp a b = 1
      · refine .inr (.inr (.inr ?_))
        have key : ∀ t : Term, t.size ≤ 1048576 → (applyS bs t).2 = 0 → (applyS bs t).1 = t.putS bs ∧ (t.putS bs).rightE = 0 ∧ (t.putS bs).size ≤ 1048576 := fun t ht h => by
          unfold applyS at h ⊢
          have hz := putS_size bs 1048576 (by omega) hbs t
          have hz2 : t.size * 1048576 ≤ 1048576 * 1048576 := Nat.mul_le_mul_right _ ht
          split at h
          · rename_i hc
            rw [if_pos hc]
            split at h
            · rename_i hr
              rw [if_pos hr]
              have := (rightE_iff (t.putS bs) (by omega)).1 hr
              exact ⟨rfl, hr, by omega⟩
            · rename_i hr; simp only at h; exact absurd h hr
          · simp at h
        obtain ⟨e1, r1, z1⟩ := key a ha h1
        obtain ⟨e2, r2, z2⟩ := key b hb h2
        rw [e1, e2, lCmp_gt]
        rw [lCmp_gt] at h3
        exact ⟨h3.1, r1, r2, h3.2.2.2.putS bs⟩
      · exact .inr (.inr (.inl h3))
    · exact .inr (.inl h2)
  · exact .inl h1
theorem applyS_size (bs : List Bd) (hbs : ∀ x ∈ bs, x.t.size ≤ 1048576) (t : Term) (ht : t.size ≤ 1048576) : (applyS bs t).1.size ≤ 1048576 := by
  unfold applyS
  have hz := putS_size bs 1048576 (by omega) hbs t
  have hz2 : t.size * 1048576 ≤ 1048576 * 1048576 := Nat.mul_le_mul_right _ ht
  split
  · split
    · rename_i hr
      have := (rightE_iff (t.putS bs) (by omega)).1 hr
      show (t.putS bs).size ≤ _
      omega
    · simp [Term.size, sizeL]
  · simp [Term.size, sizeL]
theorem lpoKeeps_ok (g : Sg) (hg : g.ok) (a : Term) (ha : a.ok) (has : a.size ≤ 1048576) (b : Term) (hb : b.ok) (hbs : b.size ≤ 1048576) (bs : List Bd) (hB : okB bs) (hBs : ∀ x ∈ bs, x.t.size ≤ 1048576) :
    pcl Cp 5 [.agg g.enc, .agg a.enc, .agg b.enc, .sl (encB bs) bs.length false none] = some (.bool true) := by
  have hlaw := lkeeps_law g a b bs has hbs hBs
  have h1 := ris_ok bs hB
  have h2 := small_ok [a, b] (by simp) ⟨ha, hb, trivial⟩
  obtain ⟨r1, h3, h4⟩ := apply_ok bs hB a ha has
  obtain ⟨r2, h5, h6⟩ := apply_ok bs hB b hb hbs
  have h7 := lCompare_ok g hg a ha has b hb hbs
  have h8 := lCompare_ok g hg _ (applyS_ok bs hB a ha) (applyS_size bs hBs a has) _ (applyS_ok bs hB b hb) (applyS_size bs hBs b hbs)
  have h11 := rsize_ok _ (applyS_ok bs hB a ha)
  have h12 := rsize_ok _ (applyS_ok bs hB b hb)
  have h9 := own_ok g
  have h10 := alive08_ok
  generalize isB bs = q1 at h1
  generalize smallB [a, b] = q2 at h2
  generalize g.lCmp a b = c1 at *
  generalize g.lCmp (applyS bs a).1 (applyS bs b).1 = c2 at *
  generalize hs1 : (applyS bs a).1.sizeW = s1 at *
  generalize hs2 : (applyS bs b).1.sizeW = s2 at *
  clear hs1 hs2
  generalize applyS bs a = x at *
  generalize applyS bs b = y at *
  obtain ⟨⟨xv, xf, xa⟩, xe⟩ := x
  obtain ⟨⟨yv, yf, ya⟩, ye⟩ := y
  obtain ⟨v, fn, args⟩ := a
  obtain ⟨v2, fn2, args2⟩ := b
  simp [Sg.enc, Term.enc, encL] at h2 h3 h4 h5 h6 h7 h8 h9 h11 h12 hlaw
  refine pcl_body code5 ?_
  cases q1
  · simp [Sg.enc, Term.enc, plc_raw, h1, h10]
  by_cases hl : (20 : Int) < bs.length
  · have hl2 : 20 < bs.length := by omega
    simp [Sg.enc, Term.enc, plc_raw, h1, h10, hl, hl2]
  have hl2 : ¬ 20 < bs.length := by omega
  cases q2
  · simp [Sg.enc, Term.enc, plc_raw, h1, h2, h10, hl, hl2]
  obtain ⟨e, t, hrun, hR⟩ := lkeeps_loop g v fn args v2 fn2 args2 bs hB
  cases hall : bs.all fun b => smallB [b.t]
  · rw [hall] at hR
    obtain ⟨rfl, hv⟩ := hR
    simp [Sg.enc, Term.enc, plc_raw, h1, h2, h10, hl, hl2, hrun, hv]
  rw [hall] at hR
  obtain ⟨rfl, nx, rfl⟩ := hR
  clear hall
  by_cases hz1 : (400 : Int) < s1
  · simp [Sg.enc, Term.enc, plc_raw, h1, h2, h3, h4, h5, h6, h10, h11, hl, hl2, hrun, hz1]
  by_cases hz2 : (400 : Int) < s2
  · simp [Sg.enc, Term.enc, plc_raw, h1, h2, h3, h4, h5, h6, h10, h11, h12, hl, hl2, hrun, hz1, hz2]
  by_cases he : xe = 0
  · by_cases he2 : ye = 0
    · by_cases hc1 : c1 = 1
      · have hc2 : c2 = 1 := by simpa [he, he2, hc1] using hlaw
        simp [Sg.enc, Term.enc, plc_raw, h1, h2, h3, h4, h5, h6, h7, h8, h9, h10, h11, h12, hl, hl2, hrun, hz1, hz2, he, he2, hc1, hc2]
      · simp [Sg.enc, Term.enc, plc_raw, h1, h2, h3, h4, h5, h6, h7, h8, h9, h10, h11, h12, hl, hl2, hrun, hz1, hz2, he, he2, hc1]
    · simp [Sg.enc, Term.enc, plc_raw, h1, h2, h3, h4, h5, h6, h7, h8, h9, h10, h11, h12, hl, hl2, hrun, hz1, hz2, he, he2]
  · simp [Sg.enc, Term.enc, plc_raw, h1, h2, h3, h4, h5, h6, h7, h8, h9, h10, h11, h12, hl, hl2, hrun, hz1, hz2, he]

theorem at_size : ∀ (p : List Int) (t x : Term), t.at p = some x → x.size ≤ t.size
  | [], t, x, h => by
    have : t = x := by cases t; simpa [Term.at] using h
    subst this; exact Nat.le_refl _
  | k :: p, .mk v fn args, x, h => by
    simp only [Term.at] at h
    split at h
    · cases h
    · cases hg : args[k.toNat]? with
      | none => rw [hg] at h; cases h
      | some y =>
        rw [hg] at h
        have h1 := at_size p y x h
        have h2 := size_mem (List.mem_of_getElem? hg) v fn
        omega
theorem lparts_law (g : Sg) (t s x u : Term) (p : List Int) (ht : t.size ≤ 1048576) (hs : s.size ≤ 1048576) (hp : p.length ≤ 1048576) (hx : t.at p = some x) (hu : t.putAt p s = some u)
    (hg : g.right = true) (h1 : t.rightE = 0) (h2 : s.rightE = 0) : (p ≠ [] → g.lCmp t x = 1) ∧ (u.rightE = 0 → g.lCmp x s = 1 → g.lCmp t u = 1) ∧ (t.varsW [] = [] → s.varsW [] = [] → g.lCmp t s ≠ 2) := by
  have hr := (rightE_iff t (by omega)).1 h1
  have hr2 := (rightE_iff s (by omega)).1 h2
  have hxr := at_right p t x hx hr.1
  have hx0 : x.rightE = 0 := (rightE_iff x (by omega)).2 ⟨hxr.1, by omega, by omega⟩
  refine ⟨fun h => ?_, fun hu0 h => ?_, fun hv hv2 => ?_⟩
  · rw [lCmp_gt]
    exact ⟨hg, h1, hx0, lpo_at g p t x hx hr.1 h⟩
  · have hsz := putAt_size s p t u hu
    have hm : t.size * (p.length + 1) ≤ 1048576 * 1048577 := Nat.mul_le_mul ht (by omega)
    have hur := (rightE_iff u (by omega)).1 hu0
    rw [lCmp_gt] at h
    rw [lCmp_gt]
    exact ⟨hg, h1, hu0, lpo_putAt g s p t x u hx hu hr.1 h.2.2.2⟩
  · obtain ⟨e1, e2, e3⟩ := lCmp_of g t s hg h1 h2
    rcases lpo_total g _ t s (Nat.le_refl _) hr.1 hr2.1 (vars_nil hv) (vars_nil hv2) with h | h | h
    · rw [e1 h]; decide
    · rw [e2 h]; decide
    · rw [e3 h]; decide
theorem lpoParts_ok (g : Sg) (hg : g.ok) (t : Term) (ht : t.ok) (hts : t.size ≤ 1048576) (s : Term) (hs : s.ok) (hss : s.size ≤ 1048576) (p : List Int) (hp : p.length ≤ 9223372036854775807 ∧ ∀ x ∈ p, (Lit.int .i64 x).wf = true) (hps : p.length ≤ 1048576) :
    pcl Cp 6 [.agg g.enc, .agg t.enc, .agg s.enc, .sl (encI p) p.length false none] = some (.bool true) := by
  have h0 := own_ok g
  have hal := alive08_ok
  obtain ⟨r1, h1, h2⟩ := rat_part_ok p hp.1 t ht
  have h3 := grright_ok g hg
  have h4 := rright_ok t ht
  have h5 := rright_ok s hs
  simp only [atR] at h2
  cases hx : t.at p with
  | none =>
    rw [hx] at h2
    obtain ⟨v, fn, args⟩ := t
    obtain ⟨v2, fn2, args2⟩ := s
    simp [Sg.enc, Term.enc] at h0 h1 h2
    refine pcl_body code6 ?_
    simp [Sg.enc, Term.enc, plc_raw, h0, h1, h2, hal]
  | some x =>
    rw [hx] at h2
    obtain ⟨u, hu⟩ := putAt_some s p t x hx
    obtain ⟨r2, h6, h7⟩ := rput_part_ok s hs p hp.1 t ht hts
    simp only [putR, hu] at h7
    have hxo := at_ok' p t x hx ht
    have huo := putAt_ok s hs p t u hu ht
    have h8 := rright_ok u huo
    have hxs := at_size p t x hx
    have hus : u.rightE = 0 → u.size ≤ 1048576 := fun h => by
      have hsz := putAt_size s p t u hu
      have hm : t.size * (p.length + 1) ≤ 1048576 * 1048577 := Nat.mul_le_mul hts (by omega)
      have := (rightE_iff u (by omega)).1 h
      omega
    have hsm := small_ok [t, s] (by simp) ⟨ht, hs, trivial⟩
    generalize smallB [t, s] = sm at hsm
    have c1 := lCompare_ok g hg t ht hts x hxo (by omega)
    have c2 := lCompare_ok g hg x hxo (by omega) s hs hss
    have c3 := fun hz => lCompare_ok g hg t ht hts u huo (hus hz)
    have c4 := lCompare_ok g hg t ht hts s hs hss
    obtain ⟨nl1, w1⟩ := rVars_ok t ht (by omega)
    obtain ⟨nl2, w2⟩ := rVars_ok s hs (by omega)
    have hl1 := varsW_len t []
    have hl2 := varsW_len s []
    have hlaw := fun hgr hr1 hr2 => lparts_law g t s x u p hts hss hps hx hu hgr hr1 hr2
    clear hx hu hxo huo hxs hus
    generalize t.varsW [] = V1 at *
    generalize s.varsW [] = V2 at *
    generalize t.rightE = z1 at *
    generalize s.rightE = z2 at *
    generalize u.rightE = z3 at *
    generalize g.lCmp t x = k1 at *
    generalize g.lCmp x s = k2 at *
    generalize g.lCmp t u = k3 at *
    generalize g.lCmp t s = k4 at *
    generalize g.right = gr at *
    have hw : IntKind.i64.wrap ((V1.length : Int) + (V2.length : Int)) = (V1.length : Int) + (V2.length : Int) := wrap_small (by simp at hl1 hl2; omega) (by simp at hl1 hl2; omega)
    clear hl1 hl2
    obtain ⟨v, fn, args⟩ := t
    obtain ⟨v2, fn2, args2⟩ := s
    obtain ⟨v3, fn3, args3⟩ := x
    obtain ⟨v4, fn4, args4⟩ := u
    simp [Sg.enc, Term.enc] at h0 h1 h2 h3 h4 h5 h6 h7 h8 c1 c2 c3 c4 w1 w2
    simp [Term.enc, encL] at hsm
    refine pcl_body code6 ?_
    cases gr
    · simp [Sg.enc, Term.enc, plc_raw, h0, h1, h2, h3, hal]
    by_cases hz1 : z1 = 0
    · by_cases hz2 : z2 = 0
      · cases sm
        · simp [Sg.enc, Term.enc, plc_raw, h0, h1, h2, h3, h4, h5, hsm, hal, hz1, hz2]
        obtain ⟨l1, l2, l3⟩ := hlaw rfl hz1 hz2
        have hpl : (0 : Int) < p.length ↔ p ≠ [] := by cases p <;> simp <;> omega
        by_cases hpe : p = []
        · have hpi : ¬ (0 : Int) < p.length := by simp [hpl, hpe]
          have hw0 : IntKind.i64.wrap 0 = 0 := wrap_small (by omega) (by omega)
          have hpi2 := hpi
          rw [Int.natCast_pos] at hpi2
          have hput : z3 ≠ 0 ∨ k2 ≠ 1 ∨ k3 = 1 := by
            by_cases a1 : z3 = 0
            · by_cases a2 : k2 = 1
              · exact .inr (.inr (l2 a1 a2))
              · exact .inr (.inl a2)
            · exact .inl a1
          have hgr : ((V1.length : Int) + (V2.length : Int) = 0 ∧ k4 ≠ 2) ∨ ¬ ((V1.length : Int) + (V2.length : Int) = 0) := by
            by_cases a1 : (V1.length : Int) + (V2.length : Int) = 0
            · exact .inl ⟨a1, l3 (List.length_eq_zero_iff.1 (by omega)) (List.length_eq_zero_iff.1 (by omega))⟩
            · exact .inr a1
          clear hlaw l1 l2 l3 hpe hpl
          rcases hgr with ⟨g1, g2⟩ | g1 <;> by_cases a1 : z3 = 0 <;> by_cases a2 : k2 = 1
          all_goals (try have a3 : k3 = 1 := by (rcases hput with h | h | h; exact absurd a1 h; exact absurd a2 h; exact h))
          all_goals simp [Sg.enc, Term.enc, plc_raw, h0, h1, h2, h3, h4, h5, h6, h7, h8, c1, c2, c3, c4, w1, w2, hsm, hal, hz1, hz2, hpi, hpi2, hw, hw0, *]
        · have hpi : (0 : Int) < p.length := hpl.2 hpe
          have hk1 := l1 hpe
          have hw0 : IntKind.i64.wrap 0 = 0 := wrap_small (by omega) (by omega)
          have hpi2 := hpi
          rw [Int.natCast_pos] at hpi2
          have hput : z3 ≠ 0 ∨ k2 ≠ 1 ∨ k3 = 1 := by
            by_cases a1 : z3 = 0
            · by_cases a2 : k2 = 1
              · exact .inr (.inr (l2 a1 a2))
              · exact .inr (.inl a2)
            · exact .inl a1
          have hgr : ((V1.length : Int) + (V2.length : Int) = 0 ∧ k4 ≠ 2) ∨ ¬ ((V1.length : Int) + (V2.length : Int) = 0) := by
            by_cases a1 : (V1.length : Int) + (V2.length : Int) = 0
            · exact .inl ⟨a1, l3 (List.length_eq_zero_iff.1 (by omega)) (List.length_eq_zero_iff.1 (by omega))⟩
            · exact .inr a1
          clear hlaw l1 l2 l3 hpe hpl
          rcases hgr with ⟨g1, g2⟩ | g1 <;> by_cases a1 : z3 = 0 <;> by_cases a2 : k2 = 1
          all_goals (try have a3 : k3 = 1 := by (rcases hput with h | h | h; exact absurd a1 h; exact absurd a2 h; exact h))
          all_goals simp [Sg.enc, Term.enc, plc_raw, h0, h1, h2, h3, h4, h5, h6, h7, h8, c1, c2, c3, c4, w1, w2, hsm, hal, hz1, hz2, hpi, hpi2, hw, hw0, *]
      · simp [Sg.enc, Term.enc, plc_raw, h0, h1, h2, h3, h4, h5, hal, hz1, hz2]
    · simp [Sg.enc, Term.enc, plc_raw, h0, h1, h2, h3, h4, hal, hz1]
end Go.Proofs.Ytfcedichoigbbaa.Am


/-
  Joined texts: the document's path order, and that both programs compare alike. No condition.
-/
import Derived.Test.YtfcedichoigbbaaAmPar
/-
  The document's path order: what is told of two parts is what the order says. No condition.
-/
namespace Go.Proofs.Ytfcedichoigbbaa.Am
open Go Go.Proofs
set_option maxHeartbeats 4000000
set_option maxRecDepth 20000
set_option linter.unusedSimpArgs false
set_option linter.unusedVariables false
theorem one_ok (g : Sg) (hg : g.ok) (s r : Laid) (tab : List D) (i k : Nat) (v1 : Int) (f1 : ByteArray) (a1 : List Term) (v2 : Int) (f2 : ByteArray) (a2 : List Term) (hs : LOk s) (hr : LOk r) (hi : s.1[i]? = some (.mk v1 f1 a1)) (hk : r.1[k]? = some (.mk v2 f2 a2)) (hs1 : s.1.length ≤ 9223372036854775807) (hr1 : r.1.length ≤ 9223372036854775807)
    (h1 : (Term.mk v1 f1 a1).ok) (h2 : (Term.mk v2 f2 a2).ok) (hT : Tab g s r tab i k) :
    pcl Cp 63 [.agg g.enc, partsD s, partsD r, tabD tab s.1.length, .int .i64 i, .int .i64 k] = some (.bool (lpoB g (.mk v1 f1 a1) (.mk v2 f2 a2))) := by
  have hi0 := List.getElem?_eq_some_iff.1 hi
  have hk0 := List.getElem?_eq_some_iff.1 hk
  obtain ⟨v', f', a', a⟩ := at_ok hs1 hi0.1
  obtain ⟨w', g', b', b⟩ := at_ok hr1 hk0.1
  have ha := a.get.symm.trans hi0.2
  have hb := b.get.symm.trans hk0.2
  injection ha with e1 e2 e3; subst e1; subst e2; subst e3
  injection hb with e1 e2 e3; subst e1; subst e2; subst e3
  refine pcl_body code63 ?_
  rw [← oneB_lpo]
  unfold oneB
  by_cases hf1 : f'.toList = []
  · simp [Nat.add_assoc, Sg.enc, plc_raw, a.lti, a.sz, a.ltm, a.cells, a.le3, b.lti, b.sz, b.ltm, b.cells, b.le3, hf1]
  obtain ⟨e, t, hrun, hR⟩ := one_loop1 g s r tab i k v' f' a' w' g' b' hs hi hk hs1 h1.1 h1.2 h2 hT
  simp [oneH] at hrun
  cases hu : under g a' (.mk w' g' b')
  · rw [hu] at hR
    obtain ⟨rfl, nx, hnx, rfl⟩ := hR
    by_cases hf2 : g'.toList = []
    · simp [Nat.add_assoc, Sg.enc, plc_raw, a.lti, a.sz, a.ltm, a.cells, a.le3, b.lti, b.sz, b.ltm, b.cells, b.le3, hf1, hrun, hf2]
    obtain ⟨e, t, hrun2, hR⟩ := one_loop2 (nx + 4) (by omega) g s r tab i k v' f' a' w' g' b' hr hi hk h2.1 hT
    simp [oneH, oneT2] at hrun2
    cases hv : lpoOver g (.mk v' f' a') b'
    · rw [hv] at hR
      obtain ⟨rfl, hR⟩ := hR
      simp [Nat.add_assoc, Sg.enc, plc_raw, a.lti, a.sz, a.ltm, a.cells, a.le3, b.lti, b.sz, b.ltm, b.cells, b.le3, hf1, hrun, hf2, hrun2, hR]
    · rw [hv] at hR
      obtain ⟨rfl, nx', hnx', rfl⟩ := hR
      have hsym := rsymbol_ok g hg v' f' a' w' g' b'
      simp [Term.enc, Sg.enc] at hsym
      by_cases hff : f'.toList = g'.toList
      · by_cases hl : a'.length = b'.length
        · have hcd : ¬ (f'.toList ≠ g'.toList ∨ a'.length ≠ b'.length) := by simp [hff, hl]
          have hli : (a'.length : Int) = (b'.length : Int) := by omega
          obtain ⟨e, t, hrun3, hR3⟩ := one_loop3 (nx' + 15) (by omega) g s r tab i k v' f' a' w' g' b' hs hr hi hk h1.1 hl.symm h1.2 h2.2 hT
          simp [oneH, oneT3] at hrun3
          rw [if_neg hcd]
          cases hfg : firstGt g a' b' with
          | none =>
            rw [hfg] at hR3
            obtain ⟨rfl, nx3, hnx3, rfl⟩ := hR3
            simp [Nat.add_assoc, Sg.enc, plc_raw, a.lti, a.sz, a.ltm, a.cells, a.le3, b.lti, b.sz, b.ltm, b.cells, b.le3, hf1, hrun, hf2, hrun2, hff, hli, hrun3]
          | some x =>
            rw [hfg] at hR3
            obtain ⟨rfl, hR3⟩ := hR3
            simp [Nat.add_assoc, Sg.enc, plc_raw, a.lti, a.sz, a.ltm, a.cells, a.le3, b.lti, b.sz, b.ltm, b.cells, b.le3, hf1, hrun, hf2, hrun2, hff, hli, hrun3, hR3]
        · have hli : ¬ (a'.length : Int) = (b'.length : Int) := by omega
          simp [Nat.add_assoc, Sg.enc, plc_raw, a.lti, a.sz, a.ltm, a.cells, a.le3, b.lti, b.sz, b.ltm, b.cells, b.le3, hf1, hrun, hf2, hrun2, hff, hl, hli, hsym]
      · simp [Nat.add_assoc, Sg.enc, plc_raw, a.lti, a.sz, a.ltm, a.cells, a.le3, b.lti, b.sz, b.ltm, b.cells, b.le3, hf1, hrun, hf2, hrun2, hff, hsym]
  · rw [hu] at hR
    obtain ⟨rfl, hR⟩ := hR
    simp [Nat.add_assoc, Sg.enc, plc_raw, a.lti, a.sz, a.ltm, a.cells, a.le3, b.lti, b.sz, b.ltm, b.cells, b.le3, hf1, hrun, hR]
end Go.Proofs.Ytfcedichoigbbaa.Am

/-
  The document's path order: the table of all pairs. No condition.
-/
namespace Go.Proofs.Ytfcedichoigbbaa.Am
open Go Go.Proofs
set_option maxHeartbeats 4000000
set_option maxRecDepth 20000
set_option linter.unusedSimpArgs false
set_option linter.unusedVariables false

theorem mapD_d (f : AV → Option (D × List Oid)) (hf : ∀ x, f (.d x) = some (x, [])) : ∀ l : List D, mapD f (l.map .d) = some (l, [])
  | [] => rfl
  | x :: r => by simp [mapD, hf, mapD_d f hf r]
theorem reify_d (H : Hp) (n : Nat) (x : D) : reify H n (.d x) = some (x, []) := by cases n <;> rfl
theorem mapD_app (f : AV → Option (D × List Oid)) : ∀ (a b : List AV) (x y : List D) (i j : List Oid), mapD f a = some (x, i) → mapD f b = some (y, j) → mapD f (a ++ b) = some (x ++ y, i ++ j)
  | [], b, x, y, i, j, h, k => by
    simp only [mapD, Option.some.injEq, Prod.mk.injEq] at h
    obtain ⟨rfl, rfl⟩ := h
    simpa using k
  | v :: r, b, x, y, i, j, h, k => by
    simp only [mapD, Option.bind_eq_bind, Option.bind_eq_some_iff] at h
    obtain ⟨⟨z, is⟩, h1, ⟨xs, is2⟩, h2, h3⟩ := h
    simp only [Option.some.injEq, Prod.mk.injEq] at h3
    obtain ⟨rfl, rfl⟩ := h3
    simp [mapD, h1, mapD_app f r b xs y is2 j h2 k]
/-- The table's rows, and what they are read as. -/
def tabC (os : List Oid) (m n : Nat) : List AV := os.map (fun o => .osl o 0 m 1 m) ++ List.replicate (n - os.length) (.d (.sl [] 0 true (some true)))
def tabR (rows : List (List D)) (m n : Nat) : List D := rows.map (fun l => .sl l m false (some false)) ++ List.replicate (n - rows.length) (.sl [] 0 true (some true))
structure GrS (H0 : Hp) (b m n : Nat) (os : List Oid) (rows : List (List D)) (H : Hp) (N : Nat) : Prop where
  old : ∀ p : Oid, p.1 < b → H p = H0 p
  tab : H (b, 0) = some (.cells (tabC os m n))
  len : rows.length = os.length
  le : os.length ≤ n
  nd : ∀ (a c : Nat) o, os[a]? = some o → os[c]? = some o → a = c
  lt : ∀ o ∈ os, b < o.1 ∧ o.1 < N
  row : ∀ (a : Nat) o l, os[a]? = some o → rows[a]? = some l → H o = some (.cells (l.map .d)) ∧ l.length = m
theorem tabC_len {os : List Oid} {m n : Nat} (h : os.length ≤ n) : (tabC os m n).length = n := by simp [tabC]; omega
theorem tabR_len {rows : List (List D)} {m n : Nat} (h : rows.length ≤ n) : (tabR rows m n).length = n := by simp [tabR]; omega
theorem get_mkL {a : List Term} {i : Nat} (h : i < a.length) : ∃ v f b, a[i]? = some (Term.mk v f b) := by
  rw [List.getElem?_eq_getElem h]
  exact match a[i] with | .mk v f b => ⟨v, f, b, rfl⟩
theorem rows_reify (H : Hp) (k m : Nat) : ∀ (os : List Oid) (rows : List (List D)), rows.length = os.length → (∀ (a : Nat) o l, os[a]? = some o → rows[a]? = some l → H o = some (.cells (l.map .d)) ∧ l.length = m) →
    ∃ is, mapD (reify H (k + 1)) (os.map (fun o => .osl o 0 m 1 m)) = some (rows.map (fun l => .sl l m false (some false)), is)
  | [], [], _, _ => ⟨[], rfl⟩
  | [], _ :: _, h, _ => by simp at h
  | _ :: _, [], h, _ => by simp at h
  | o :: os, l :: rows, h, hr => by
    obtain ⟨is, hi⟩ := rows_reify H k m os rows (by simpa using h) (fun a o l h1 h2 => hr (a + 1) o l (by simpa using h1) (by simpa using h2))
    obtain ⟨h1, h2⟩ := hr 0 o l rfl rfl
    have hm := mapD_d (reify H k) (reify_d H k) l
    have ht : List.take m (l.map AV.d) = l.map AV.d := List.take_of_length_le (by simp [h2])
    have ho : reify H (k + 1) (.osl o 0 m 1 m) = some (.sl l m false (some false), if l.isEmpty then [] else [o]) := by
      simp [reify, h1, Obj.isRow, Obj.cs, h2, ht, hm, nlOf]
    exact ⟨(if l.isEmpty then [] else [o]) ++ is, by simp only [List.map_cons, mapD, ho, hi]; rfl⟩
theorem GrS.reify {H0 H : Hp} {b m n N : Nat} {os : List Oid} {rows : List (List D)} (h : GrS H0 b m n os rows H N) (hm : 0 < n) (k : Nat) : ∃ is, Am.reify H (k + 2) (.osl (b, 0) 0 n 1 n) = some (.sl (tabR rows m n) n false (some false), is) := by
  obtain ⟨is, hi⟩ := rows_reify H k m os rows h.len h.row
  have h2 : mapD (Am.reify H (k + 1)) (List.replicate (n - os.length) (.d (.sl [] 0 true (some true)))) = some (List.replicate (n - os.length) (.sl [] 0 true (some true)), []) := by
    have := mapD_d (Am.reify H (k + 1)) (reify_d H (k + 1)) (List.replicate (n - os.length) (.sl [] 0 true (some true)))
    simpa using this
  have h3 := mapD_app _ _ _ _ _ _ _ hi h2
  have hl : (tabC os m n).length = n := tabC_len h.le
  have ht : List.take n (tabC os m n) = tabC os m n := List.take_of_length_le (by omega)
  have hne : ¬ tabR rows m n = [] := fun e => by
    have := tabR_len (rows := rows) (m := m) (n := n) (by have := h.len; have := h.le; omega)
    rw [e] at this; simp at this; omega
  have h4 : mapD (Am.reify H (k + 1)) (tabC os m n) = some (tabR rows m n, is ++ []) := by
    unfold tabC tabR
    rw [h.len]
    exact h3
  refine ⟨(b, 0) :: is, ?_⟩
  simp [Am.reify, h.tab, Obj.isRow, Obj.cs, hl, ht, h4, nlOf, hne]
/-- A part's row as data. -/
theorem parts_reify {H : Hp} {o ol oo : Oid} {s : Laid} (h : LaySt H o ol oo s) (hs : s.1 ≠ []) (hl : s.1.length = s.2.length) (k : Nat) : ∃ is, Am.reify H (k + 3) (.ptr o 0 2) = some (partsD s, is) := by
  have h1 := h.o
  have h2 := h.ol
  have h3 := h.oo
  have hs2 : s.2 ≠ [] := fun e => hs (by rw [e] at hl; exact List.length_eq_zero_iff.1 (by simpa using hl))
  have e1 : (encL s.1).length = s.1.length * 3 := encL_len _
  have e2 : (encO s.2).length = s.2.length := encO_len _
  have m1 := mapD_d (Am.reify H (k + 1)) (reify_d H _) (encL s.1)
  have m2 := mapD_d (Am.reify H (k + 1)) (reify_d H _) (encO s.2)
  have t1 : List.take (s.1.length * 3) ((encL s.1).map AV.d) = (encL s.1).map AV.d := List.take_of_length_le (by simp [e1])
  have t2 : List.take s.2.length ((encO s.2).map AV.d) = (encO s.2).map AV.d := List.take_of_length_le (by simp [e2])
  simp only [rowA, rowOA, rowT, rowO, if_neg hs, if_neg hs2] at h1 h2 h3
  have r1 : Am.reify H (k + 2) (.osl ol 0 s.1.length 3 (s.1.length * 3)) = some (.sl (encL s.1) s.1.length false (some false), if (encL s.1).isEmpty then [] else [ol]) := by
    simp [Am.reify, h2, Obj.isRow, Obj.cs, e1, t1, m1, nlOf]
  have r2 : Am.reify H (k + 2) (.osl oo 0 s.2.length 1 s.2.length) = some (.sl (encO s.2) s.2.length false (some false), if (encO s.2).isEmpty then [] else [oo]) := by
    simp [Am.reify, h3, Obj.isRow, Obj.cs, e2, t2, m2, nlOf]
  have hm : mapD (Am.reify H (k + 2)) [.osl ol 0 s.1.length 3 (s.1.length * 3), .osl oo 0 s.2.length 1 s.2.length] = some ([.sl (encL s.1) s.1.length false (some false), .sl (encO s.2) s.2.length false (some false)], (if (encL s.1).isEmpty then [] else [ol]) ++ ((if (encO s.2).isEmpty then [] else [oo]) ++ [])) := by
    simp only [mapD, r1, r2]; rfl
  have hr : Am.reify H (k + 3) (.ptr o 0 2) = (mapD (Am.reify H (k + 2)) [.osl ol 0 s.1.length 3 (s.1.length * 3), .osl oo 0 s.2.length 1 s.2.length]).bind fun q => some (.dptr q.1, o :: q.2) := by
    simp only [Am.reify, h1]; rfl
  exact ⟨o :: ((if (encL s.1).isEmpty then [] else [ol]) ++ ((if (encO s.2).isEmpty then [] else [oo]) ++ [])), by rw [hr, hm]; rfl⟩
end Go.Proofs.Ytfcedichoigbbaa.Am

/-
  The document's path order: the loops over the table. No condition.
-/
namespace Go.Proofs.Ytfcedichoigbbaa.Am
open Go Go.Proofs
set_option maxHeartbeats 4000000
set_option maxRecDepth 20000
set_option linter.unusedSimpArgs false
set_option linter.unusedVariables false

def RowsT (g : Sg) (s r : Laid) (rows : List (List D)) (i k : Nat) : Prop := ∀ (a c : Nat) l x y, rows[a]? = some l → s.1[a]? = some x → r.1[c]? = some y → (a < i ∨ a = i ∧ c < k) → l[c]? = some (.bool (lpoB g x y))
theorem RowsT.tab {g : Sg} {s r : Laid} {rows : List (List D)} {i k : Nat} {H0 H : Hp} {b N : Nat} {os : List Oid} (h : RowsT g s r rows i k) (hG : GrS H0 b r.1.length s.1.length os rows H N) (hi : os.length = i + 1) : Tab g s r (tabR rows r.1.length s.1.length) i k := by
  refine ⟨tabR_len (by have := hG.len; have := hG.le; omega), fun a c x y hx hy hac => ?_⟩
  have ha : a < rows.length := by have := hG.len; omega
  have hl : rows[a]? = some rows[a] := List.getElem?_eq_getElem ha
  have ho : os[a]? = some (os[a]'(by have := hG.len; omega)) := List.getElem?_eq_getElem (by have := hG.len; omega)
  refine ⟨rows[a], ?_, (hG.row a _ _ ho hl).2, h a c _ x y hl hx hy hac⟩
  unfold tabR
  rw [List.getElem?_append_left (by simpa using ha), List.getElem?_map, hl]; rfl
abbrev greT (b n m nt mt i k : Nat) : List AV := [.junk, .junk, .junk, .ptr (0, 0) 0 2, .junk, .junk, .d (.bool false), .ptr (5, 0) 0 2, .ptr (7, 0) 0 2, .d (.int .i64 nt), .d (.int .i64 mt), .osl (b, 0) 0 n 1 n, .d (.int .i64 i), .d (.int .i64 k), .junk, .junk, .junk, .junk, .junk, .junk, .junk, .junk, .junk, .junk, .junk, .junk, .junk, .junk, .junk, .junk, .junk, .junk, .junk, .junk, .junk, .junk, .junk, .junk, .junk, .junk, .junk, .junk, .junk, .junk, .junk, .junk, .junk, .junk, .junk, .junk, .junk, .junk, .junk, .junk, .junk, .junk, .junk, .junk, .junk, .junk, .junk, .junk, .junk, .junk, .junk, .junk, .junk, .junk, .junk, .junk, .junk, .junk, .junk, .junk, .junk, .junk, .junk]
structure GrB (g : Sg) (s r : Laid) (H : Hp) : Prop where
  g : H (0, 0) = some (.cells [.d (.sl (encS g.names) g.names.length false none), .d (.sl (encI g.weights) g.weights.length false none)])
  x : LaySt H (5, 0) (5, 1) (5, 2) s
  y : LaySt H (7, 0) (7, 1) (7, 2) r
theorem GrB.keep {g : Sg} {s r : Laid} {H H' : Hp} {b : Nat} (h : GrB g s r H) (hb : 8 ≤ b) (k : ∀ p : Oid, p.1 < b → H' p = H p) : GrB g s r H' :=
  ⟨(k _ (by simp; omega)).trans h.g, ⟨(k _ (by simp; omega)).trans h.x.o, (k _ (by simp; omega)).trans h.x.ol, (k _ (by simp; omega)).trans h.x.oo⟩, ⟨(k _ (by simp; omega)).trans h.y.o, (k _ (by simp; omega)).trans h.y.ol, (k _ (by simp; omega)).trans h.y.oo⟩⟩
def GreEnd (g : Sg) (s r : Laid) (H0 : Hp) (b nt mt : Nat) (os : List Oid) (i : Nat) (u : Unit) (e : Ex) (t : St) : Prop :=
  ∃ rows H' N', e = .exit 2 ∧ t = ⟨greT b s.1.length r.1.length nt mt i r.1.length, H', N'⟩ ∧ GrS H0 b r.1.length s.1.length os rows H' N' ∧ RowsT g s r rows (i + 1) 0
theorem set_map (l : List D) (k : Nat) (x : D) (h : k < l.length) : (l.set k x).map AV.d = List.take k (l.map AV.d) ++ AV.d x :: List.drop (k + 1) (l.map AV.d) := by
  rw [List.set_eq_take_append_cons_drop, if_pos h]
  simp
theorem gre_inner (g : Sg) (hg : g.ok) (s r : Laid) (hs : LOk s) (hr : LOk r) (hs0 : s.1 ≠ []) (hr0 : r.1 ≠ []) (hsz : s.1.length ≤ 1048576) (hrz : r.1.length ≤ 1048576) (ho1 : ∀ x ∈ s.1, x.ok) (ho2 : ∀ x ∈ r.1, x.ok) (H0 : Hp) (b : Nat) (hb : 8 ≤ b) (hB : GrB g s r H0) (nt mt : Nat) (os : List Oid) (i : Nat) (hi : i < s.1.length) (hos : os.length = i + 1)
    (rows : List (List D)) (H : Hp) (N : Nat) (hG : GrS H0 b r.1.length s.1.length os rows H N) (hT : RowsT g s r rows i 0) :
    ∃ e t, aloop Try.prog plc b38_0 ⟨[false, false, false, true, false, false, true, true, true, true, true, true, true, true, false, false, false, false, false, false, false, false, false, false, false, false, false, false, false, false, false, false, false, false, false, false, false, true, true, false, false, false, false, false, false, false, false, false, false, false, false, false, false, false, false, false, false, false, false, false, false, false, false, false, false, false, false, false, false, false, true, true, true, true, true, true, true], none⟩ ⟨greT b s.1.length r.1.length nt mt i 0, H, N⟩ = some (e, t) ∧ GreEnd g s r H0 b nt mt os i () e t := by
  have key := loop_ruleN (P := Try.prog) (pol := plc) (c := b38_0) (m := ⟨[false, false, false, true, false, false, true, true, true, true, true, true, true, true, false, false, false, false, false, false, false, false, false, false, false, false, false, false, false, false, false, false, false, false, false, false, false, true, true, false, false, false, false, false, false, false, false, false, false, false, false, false, false, false, false, false, false, false, false, false, false, false, false, false, false, false, false, false, false, false, true, true, true, true, true, true, true], none⟩)
    (N := fun (x : Nat × List (List D) × Hp × Nat) => x.2.2.2) (tm := fun x => greT b s.1.length r.1.length nt mt i x.1) (Hf := fun x => x.2.2.1)
    (I := fun x => x.1 ≤ r.1.length ∧ GrS H0 b r.1.length s.1.length os x.2.1 x.2.2.1 x.2.2.2 ∧ RowsT g s r x.2.1 i x.1) (μ := fun x => r.1.length - x.1) (res := fun _ => ()) (R := GreEnd g s r H0 b nt mt os i)
    (fun x hx => by
      obtain ⟨k, rw1, HH, N1⟩ := x
      obtain ⟨hk, hG, hT⟩ := hx
      simp only at hk hG hT ⊢
      have hBB := hB.keep hb hG.old
      have hx5 := hBB.x.o
      have hy7 := hBB.y.o
      have hg0 := hBB.g
      simp only [rowA, rowOA, if_neg hs0, if_neg hr0] at hx5 hy7
      have htab := hG.tab
      have hoi : os[i]? = some (os[i]'(by omega)) := List.getElem?_eq_getElem (by omega)
      generalize os[i]'(by omega) = oi at hoi
      have hri : rw1[i]? = some (rw1[i]'(by have := hG.len; omega)) := List.getElem?_eq_getElem (by have := hG.len; omega)
      generalize rw1[i]'(by have := hG.len; omega) = li at hri
      obtain ⟨hoc, hll⟩ := hG.row i oi li hoi hri
      have htl : (tabC os r.1.length s.1.length).length = s.1.length := tabC_len hG.le
      have hti : (tabC os r.1.length s.1.length)[i]? = some (.osl oi 0 r.1.length 1 r.1.length) := by
        unfold tabC
        rw [List.getElem?_append_left (by simp; omega), List.getElem?_map, hoi]; rfl
      have hte : ∀ h : i < (tabC os r.1.length s.1.length).length, (tabC os r.1.length s.1.length)[i]'h = .osl oi 0 r.1.length 1 r.1.length := fun h => (List.getElem?_eq_some_iff.1 hti).2
      have hii : (i : Int) < (s.1.length : Int) := by omega
      have hsl := hs.len
      have hrl := hr.len
      rcases Nat.lt_or_ge k r.1.length with hl | hl
      · have hli : (k : Int) < (r.1.length : Int) := by omega
        have hw : IntKind.i64.wrap ((k : Int) + 1) = (k : Int) + 1 := wrap_i64 (by omega) (by omega)
        obtain ⟨v1, f1, a1, hx1⟩ := get_mkL hi
        obtain ⟨v2, f2, a2, hy1⟩ := get_mkL hl
        have hone := one_ok g hg s r _ i k v1 f1 a1 v2 f2 a2 hs hr hx1 hy1 (by omega) (by omega) (ho1 _ (List.mem_of_getElem? hx1)) (ho2 _ (List.mem_of_getElem? hy1)) (hT.tab hG hos)
        obtain ⟨i1, rx⟩ := parts_reify hBB.x hs0 hsl 3
        obtain ⟨i2, ry⟩ := parts_reify hBB.y hr0 hrl 3
        obtain ⟨i3, rt⟩ := hG.reify (by omega) 4
        simp only [Nat.reduceAdd] at rx ry rt
        simp only [Sg.enc] at hone
        have hoib : b < oi.1 := (hG.lt oi (List.mem_of_getElem? hoi)).1
        conv => arg 9; arg 4; unfold b38_0
        have hk1 : k + 1 ≤ r.1.length := hl
        simp [plc_raw, Nat.add_assoc, hx5, hy7, hg0, htab, htl, hti, hte, hoc, hll, hii, hi, hl, hli, hw, hk1, rx, ry, rt, reify_d, hone, -reify]
        rw [← set_map li k (.bool (lpoB g (.mk v1 f1 a1) (.mk v2 f2 a2))) (by omega)]
        obtain ⟨H9, hH9⟩ : ∃ H9, H9 = Am.upd HH oi (.cells ((li.set k (.bool (lpoB g (.mk v1 f1 a1) (.mk v2 f2 a2)))).map .d)) := ⟨_, rfl⟩
        rw [← hH9]
        have h9 : ∀ p : Oid, p ≠ oi → H9 p = HH p := fun p hp => by rw [hH9, upd_ne hp]
        have h9s : H9 oi = some (.cells ((li.set k (.bool (lpoB g (.mk v1 f1 a1) (.mk v2 f2 a2)))).map .d)) := by rw [hH9]; exact upd_same _ _ _
        refine .next (k + 1, rw1.set i (li.set k (.bool (lpoB g (.mk v1 f1 a1) (.mk v2 f2 a2)))), H9, N1 + 24) rfl (by simp) rfl ⟨hl, ⟨fun p hp => ?_, ?_, by simpa using hG.len, hG.le, hG.nd, fun o ho => by have := hG.lt o ho; simp only; omega, fun a o l h1 h2 => ?_⟩, fun a c l x y h1 h2 h3 h4 => ?_⟩ (by simp only; omega) rfl
        · exact (h9 p (fun e => by rw [e] at hp; omega)).trans (hG.old p hp)
        · exact (h9 _ (fun e => by rw [← e] at hoib; simp at hoib)).trans htab
        · by_cases ha : a = i
          · subst ha
            rw [List.getElem?_set_self (by have := hG.len; omega)] at h2
            cases h2
            rw [hoi] at h1; cases h1
            exact ⟨h9s, by simpa using hll⟩
          · rw [List.getElem?_set_ne (Ne.symm ha)] at h2
            have hne : o ≠ oi := fun e => ha (hG.nd a i o h1 (by rw [e]; exact hoi))
            exact ⟨(h9 o hne).trans (hG.row a o l h1 h2).1, (hG.row a o l h1 h2).2⟩
        · by_cases ha : a = i
          · subst ha
            rw [List.getElem?_set_self (by have := hG.len; omega)] at h1
            cases h1
            by_cases hc : c = k
            · subst hc
              rw [List.getElem?_set_self (by omega)]
              rw [hx1] at h2; cases h2
              rw [hy1] at h3; cases h3
              rfl
            · rw [List.getElem?_set_ne (Ne.symm hc)]
              exact hT a c li x y hri h2 h3 (.inr ⟨rfl, by simp only at h4; omega⟩)
          · rw [List.getElem?_set_ne (Ne.symm ha)] at h1
            exact hT a c l x y h1 h2 h3 (.inl (by omega))
      · obtain rfl : k = r.1.length := Nat.le_antisymm hk hl
        simp [b38_0, hy7]
        refine .fin _ _ ⟨rw1, HH, N1 + 7, rfl, rfl, ⟨hG.old, hG.tab, hG.len, hG.le, hG.nd, fun o ho => by have := hG.lt o ho; omega, hG.row⟩, fun a c l x y h1 h2 h3 h4 => hT a c l x y h1 h2 h3 ?_⟩
        have := (List.getElem?_eq_some_iff.1 h3).1
        omega) (0, rows, H, N) ⟨Nat.zero_le _, hG, hT⟩
  simpa using key
end Go.Proofs.Ytfcedichoigbbaa.Am

/-
  The document's path order: it is the order. No condition.
-/
namespace Go.Proofs.Ytfcedichoigbbaa.Am
open Go Go.Proofs
set_option maxHeartbeats 4000000
set_option maxRecDepth 20000
set_option linter.unusedSimpArgs false
set_option linter.unusedVariables false
abbrev greO (b n nt mt i : Nat) : List AV := [.junk, .junk, .junk, .ptr (0, 0) 0 2, .junk, .junk, .d (.bool false), .ptr (5, 0) 0 2, .ptr (7, 0) 0 2, .d (.int .i64 nt), .d (.int .i64 mt), .osl (b, 0) 0 n 1 n, .d (.int .i64 i), .junk, .junk, .junk, .junk, .junk, .junk, .junk, .junk, .junk, .junk, .junk, .junk, .junk, .junk, .junk, .junk, .junk, .junk, .junk, .junk, .junk, .junk, .junk, .junk, .junk, .junk, .junk, .junk, .junk, .junk, .junk, .junk, .junk, .junk, .junk, .junk, .junk, .junk, .junk, .junk, .junk, .junk, .junk, .junk, .junk, .junk, .junk, .junk, .junk, .junk, .junk, .junk, .junk, .junk, .junk, .junk, .junk, .junk, .junk, .junk, .junk, .junk, .junk, .junk]
def GreOut (g : Sg) (s r : Laid) (H0 : Hp) (b nt mt : Nat) (u : Unit) (e : Ex) (t : St) : Prop :=
  ∃ os rows H' N', e = .exit 0 ∧ t = ⟨greO b s.1.length nt mt s.1.length, H', N'⟩ ∧ os.length = s.1.length ∧ GrS H0 b r.1.length s.1.length os rows H' N' ∧ RowsT g s r rows s.1.length 0
theorem tabC_set {os : List Oid} {m n : Nat} (h : os.length < n) (o : Oid) : List.take os.length (tabC os m n) ++ (AV.osl o 0 m 1 m) :: List.drop (os.length + 1) (tabC os m n) = tabC (os ++ [o]) m n := by
  unfold tabC
  have h1 : List.take os.length (os.map (fun o => AV.osl o 0 m 1 m) ++ List.replicate (n - os.length) (.d (.sl [] 0 true (some true)))) = os.map (fun o => .osl o 0 m 1 m) := by
    rw [List.take_append_of_le_length (by simp), List.take_of_length_le (by simp)]
  have h2 : List.drop (os.length + 1) (os.map (fun o => AV.osl o 0 m 1 m) ++ List.replicate (n - os.length) (.d (.sl [] 0 true (some true)))) = List.replicate (n - (os.length + 1)) (.d (.sl [] 0 true (some true))) := by
    rw [List.drop_append, List.drop_of_length_le (by simp), List.nil_append, List.drop_replicate]
    congr 1
    simp; omega
  rw [h1, h2]
  simp
theorem gre_outer (g : Sg) (hg : g.ok) (s r : Laid) (hs : LOk s) (hr : LOk r) (hs0 : s.1 ≠ []) (hr0 : r.1 ≠ []) (hsz : s.1.length ≤ 1048576) (hrz : r.1.length ≤ 1048576) (ho1 : ∀ x ∈ s.1, x.ok) (ho2 : ∀ x ∈ r.1, x.ok) (H0 : Hp) (b : Nat) (hb : 8 ≤ b) (hB : GrB g s r H0) (nt mt : Nat)
    (H : Hp) (N : Nat) (hN : b < N) (hG : GrS H0 b r.1.length s.1.length [] [] H N) :
    ∃ e t, aloop Try.prog plc b38_1 ⟨[false, false, false, true, false, false, true, true, true, true, true, true, true, false, false, false, false, false, false, false, false, false, false, false, false, false, false, false, false, false, false, false, false, false, false, false, false, false, false, false, false, false, false, false, false, false, false, false, false, false, false, false, false, false, false, false, false, false, false, false, false, false, false, false, false, false, false, false, false, false, true, true, true, true, true, true, true], none⟩ ⟨greO b s.1.length nt mt 0, H, N⟩ = some (e, t) ∧ GreOut g s r H0 b nt mt () e t := by
  have key := loop_ruleN (P := Try.prog) (pol := plc) (c := b38_1) (m := ⟨[false, false, false, true, false, false, true, true, true, true, true, true, true, false, false, false, false, false, false, false, false, false, false, false, false, false, false, false, false, false, false, false, false, false, false, false, false, false, false, false, false, false, false, false, false, false, false, false, false, false, false, false, false, false, false, false, false, false, false, false, false, false, false, false, false, false, false, false, false, false, true, true, true, true, true, true, true], none⟩)
    (N := fun (x : Nat × List Oid × List (List D) × Hp × Nat) => x.2.2.2.2) (tm := fun x => greO b s.1.length nt mt x.1) (Hf := fun x => x.2.2.2.1)
    (I := fun x => x.1 ≤ s.1.length ∧ x.2.1.length = x.1 ∧ b < x.2.2.2.2 ∧ GrS H0 b r.1.length s.1.length x.2.1 x.2.2.1 x.2.2.2.1 x.2.2.2.2 ∧ RowsT g s r x.2.2.1 x.1 0) (μ := fun x => s.1.length - x.1) (res := fun _ => ()) (R := GreOut g s r H0 b nt mt)
    (fun x hx => by
      obtain ⟨i, os, rw1, HH, N1⟩ := x
      obtain ⟨hi, hos, hbN, hG, hT⟩ := hx
      simp only at hi hos hbN hG hT ⊢
      have hBB := hB.keep hb hG.old
      have hx5 := hBB.x.o
      have hy7 := hBB.y.o
      simp only [rowA, rowOA, if_neg hs0, if_neg hr0] at hx5 hy7
      have htab := hG.tab
      have htl : (tabC os r.1.length s.1.length).length = s.1.length := tabC_len hG.le
      rcases Nat.lt_or_ge i s.1.length with hl | hl
      · have hli : (i : Int) < (s.1.length : Int) := by omega
        have hw : IntKind.i64.wrap ((i : Int) + 1) = (i : Int) + 1 := wrap_i64 (by omega) (by omega)
        have hset := tabC_set (m := r.1.length) (n := s.1.length) (os := os) (by omega) (N1 + 14, 0)
        rw [hos] at hset
        obtain ⟨H9, hH9⟩ : ∃ H9, H9 = Am.upd (Am.upd HH (N1 + 14, 0) (.cells (List.replicate r.1.length (.d (.bool false))))) (b, 0) (.cells (tabC (os ++ [(N1 + 14, 0)]) r.1.length s.1.length)) := ⟨_, rfl⟩
        have hnew : ∀ o ∈ os, o ≠ (N1 + 14, 0) := fun o ho e => by have := (hG.lt o ho).2; rw [e] at this; simp at this; omega
        have h9 : ∀ p : Oid, p ≠ (N1 + 14, 0) → p ≠ (b, 0) → H9 p = HH p := fun p h1 h2 => by rw [hH9, upd_ne h2, upd_ne h1]
        have hG9 : GrS H0 b r.1.length s.1.length (os ++ [(N1 + 14, 0)]) (rw1 ++ [List.replicate r.1.length (.bool false)]) H9 (N1 + 18) := by
          refine ⟨fun p hp => (h9 p (fun e => by rw [e] at hp; simp at hp; omega) (fun e => by rw [e] at hp; simp at hp)).trans (hG.old p hp), by rw [hH9]; exact upd_same _ _ _, by simp [hG.len], by simp; omega, fun a c o h1 h2 => ?_, fun o ho => ?_, fun a o l h1 h2 => ?_⟩
          · rw [List.getElem?_append] at h1 h2
            split at h1 <;> split at h2
            · exact hG.nd a c o h1 h2
            · have h3 := hnew o (List.mem_of_getElem? h1)
              have h4 := List.mem_of_getElem? h2
              simp at h4; exact absurd h4 h3
            · have h3 := hnew o (List.mem_of_getElem? h2)
              have h4 := List.mem_of_getElem? h1
              simp at h4; exact absurd h4 h3
            · have h3 := (List.getElem?_eq_some_iff.1 h1).1
              have h4 := (List.getElem?_eq_some_iff.1 h2).1
              simp at h3 h4; omega
          · rcases List.mem_append.1 ho with ho | ho
            · have := hG.lt o ho; omega
            · simp at ho; subst ho; simp; omega
          · have hlen := hG.len
            rw [List.getElem?_append] at h1 h2
            split at h1
            · rename_i ha
              rw [if_pos (by omega)] at h2
              have hm := List.mem_of_getElem? h1
              have hlt := hG.lt o hm
              obtain ⟨h3, h4⟩ := hG.row a o l h1 h2
              exact ⟨(h9 o (hnew o hm) (fun e => by rw [e] at hlt; simp at hlt)).trans h3, h4⟩
            · rename_i ha
              rw [if_neg (by omega)] at h2
              have h3 := List.mem_of_getElem? h1
              have h4 := List.mem_of_getElem? h2
              simp at h3 h4
              subst h3; subst h4
              refine ⟨?_, by simp⟩
              rw [hH9, upd_ne (fun e => by have := congrArg Prod.fst e; simp at this; omega)]
              simp
        have hT9 : RowsT g s r (rw1 ++ [List.replicate r.1.length (.bool false)]) i 0 := fun a c l x y h1 h2 h3 h4 => by
          have hlen := hG.len
          have ha : a < i := by omega
          rw [List.getElem?_append_left (by omega)] at h1
          exact hT a c l x y h1 h2 h3 (.inl ha)
        obtain ⟨e, t, hrun, rows', H', N', rfl, rfl, hG2, hT2⟩ := gre_inner g hg s r hs hr hs0 hr0 hsz hrz ho1 ho2 H0 b hb hB nt mt (os ++ [(N1 + 14, 0)]) i hl (by simp [hos]) _ H9 (N1 + 18) hG9 hT9
        have hbN' : b < N' + 3 := by have := hG2.lt (N1 + 14, 0) (by simp); simp at this; omega
        simp [greT] at hrun
        rw [hH9] at hrun
        have hrb : (r.1.length : Int) ≤ 1099511627776 := by omega
        have fb : ∀ x, Am.upd HH (N1 + 14, 0) x (b, 0) = HH (b, 0) := fun x => upd_old (by simp; omega) _ _ _
        have hl1 : i + 1 ≤ s.1.length := hl
        conv => arg 9; arg 4; unfold b38_1
        simp [plc_raw, Nat.add_assoc, hx5, hy7, htab, htl, hl, hl1, hli, hw, hset, hrb, fb, hrun]
        exact .next (i + 1, os ++ [(N1 + 14, 0)], rows', H', N' + 3) rfl (by simp) rfl ⟨hl, by simp [hos], hbN', ⟨hG2.old, hG2.tab, hG2.len, hG2.le, hG2.nd, fun o ho => by have := hG2.lt o ho; simp only; omega, hG2.row⟩, hT2⟩ (by simp only; omega) rfl
      · obtain rfl : i = s.1.length := Nat.le_antisymm hi hl
        simp [b38_1, hx5]
        refine .fin _ _ ⟨os, rw1, HH, N1 + 7, rfl, rfl, hos, ⟨hG.old, hG.tab, hG.len, hG.le, hG.nd, fun o ho => by have := hG.lt o ho; omega, hG.row⟩, hT⟩) (0, [], [], H, N) ⟨Nat.zero_le _, rfl, hN, hG, fun a c l x y h1 => by simp at h1⟩
  simpa using key
theorem lay_ok_mem2 (t : Term) : t.ok → ∀ s : Laid, (∀ x ∈ s.1, x.ok) → ∀ x ∈ (t.lay s).1.1, x.ok := by
  refine Term.ind (p := fun t => t.ok → ∀ s : Laid, (∀ x ∈ s.1, x.ok) → ∀ x ∈ (t.lay s).1.1, x.ok) (fun v fn args ih h s hs => ?_) t
  have hl : ∀ (a : List Term), (∀ x ∈ a, x ∈ args) → ∀ (s : Laid) own, (∀ x ∈ s.1, x.ok) → ∀ x ∈ (layL a s own).1.1, x.ok := by
    intro a
    induction a with
    | nil => intro _ s own hs; simpa [layL] using hs
    | cons y r ih2 =>
      intro hm s own hs
      simp only [layL]
      exact ih2 (fun z hz => hm z (by simp [hz])) _ _ (ih y (hm y (by simp)) (okL_mem h.2 _ (hm y (by simp))) s hs)
  intro x hx
  simp only [Term.lay, List.mem_append, List.mem_singleton] at hx
  rcases hx with hx | rfl
  · exact hl args (fun _ h => h) s [] hs x hx
  · exact h
theorem rgreat_ok (g : Sg) (hg : g.ok) (t : Term) (ht : t.ok) (hts : t.size ≤ 1048576) (u : Term) (hu : u.ok) (hus : u.size ≤ 1048576) :
    pcl Cp 38 [.agg g.enc, .agg t.enc, .agg u.enc] = some (.bool (lpoB g t u)) := by
  obtain ⟨s, hsd⟩ : ∃ s, s = (t.lay ([], [])).1 := ⟨_, rfl⟩
  obtain ⟨r, hrd⟩ : ∃ r, r = (u.lay ([], [])).1 := ⟨_, rfl⟩
  obtain ⟨hs, _, n, hn, hsn⟩ := lay_lok t ([], []) lok_nil
  obtain ⟨hr, _, m, hm, hrm⟩ := lay_lok u ([], []) lok_nil
  have hsl := lay_size t ([], [])
  have hrl := lay_size u ([], [])
  have ho1 := lay_ok_mem2 t ht ([], []) (by simp)
  have ho2 := lay_ok_mem2 u hu ([], []) (by simp)
  have L1 := lay_ok (5, 0) (5, 1) (5, 2) (by simp) (by simp) (by simp) t ht ([], []) rfl (by simpa using hts)
  have L2 := lay_ok (7, 0) (7, 1) (7, 2) (by simp) (by simp) (by simp) u hu ([], []) rfl (by simpa using hus)
  obtain ⟨v, fn, args⟩ := t
  obtain ⟨v2, fn2, args2⟩ := u
  unfold DoesL at L1 L2
  rw [← hsd] at hs hsn hsl ho1 L1
  rw [← hrd] at hr hrm hrl ho2 L2
  rw [hn] at L1
  rw [hm] at L2
  simp only [List.length_nil, Nat.zero_add] at hsl hrl
  have hs0 : s.1 ≠ [] := fun e => by rw [e] at hsn; simp at hsn
  have hr0 : r.1 ≠ [] := fun e => by rw [e] at hrm; simp at hrm
  obtain ⟨Ha, hHa⟩ : ∃ Ha : Hp, Ha = Am.upd (Am.upd (Am.upd (Am.upd (Am.upd (Am.upd (Am.upd (Am.upd (Am.upd (fun _ => none) (0, 0) (.cells [.d (.sl (encS g.names) g.names.length false none), .d (.sl (encI g.weights) g.weights.length false none)])) (1, 0) (.cells [.d (.int .i64 v), .d (.str fn), .d (.sl (encL args) args.length false none)])) (2, 0) (.cells [.d (.int .i64 v2), .d (.str fn2), .d (.sl (encL args2) args2.length false none)]))
    (5, 1) .vnil) (5, 2) .vnil) (5, 0) (.cells [.osl (5, 1) 0 0 1 0, .osl (5, 2) 0 0 1 0])) (7, 1) .vnil) (7, 2) .vnil) (7, 0) (.cells [.osl (7, 1) 0 0 1 0, .osl (7, 2) 0 0 1 0]) := ⟨_, rfl⟩
  obtain ⟨⟨H1, N1⟩, c1, n1, r1, f1⟩ := L1 Ha 14 (by simp) (by simp) (by simp) ⟨by rw [hHa]; simp [rowA, rowOA], by rw [hHa]; simp [rowT], by rw [hHa]; simp [rowO]⟩
  simp only at c1 n1 r1 f1
  have b7 : H1 (7, 0) = _ := f1 (7, 0) (by simp) (by simp) (by simp) (by simp)
  have b71 : H1 (7, 1) = _ := f1 (7, 1) (by simp) (by simp) (by simp) (by simp)
  have b72 : H1 (7, 2) = _ := f1 (7, 2) (by simp) (by simp) (by simp) (by simp)
  obtain ⟨⟨H2, N2⟩, c2, n2, r2, f2⟩ := L2 H1 (N1 + 4) (by simp; omega) (by simp; omega) (by simp; omega) ⟨by rw [b7, hHa]; simp [rowA, rowOA], by rw [b71, hHa]; simp [rowT], by rw [b72, hHa]; simp [rowO]⟩
  simp only at c2 n2 r2 f2
  have hG0 : H2 (0, 0) = some (.cells [.d (.sl (encS g.names) g.names.length false none), .d (.sl (encI g.weights) g.weights.length false none)]) := by rw [f2 _ (by simp) (by simp) (by simp) (by simp), f1 _ (by simp) (by simp) (by simp) (by simp), hHa]; simp
  have q2 : H1 (2, 0) = some (.cells [.d (.int .i64 v2), .d (.str fn2), .d (.sl (encL args2) args2.length false none)]) := by rw [f1 _ (by simp) (by simp) (by simp) (by simp), hHa]; simp
  have hX : LaySt H2 (5, 0) (5, 1) (5, 2) s := ⟨(f2 _ (by simp; omega) (by simp) (by simp) (by simp)).trans r1.o, (f2 _ (by simp; omega) (by simp) (by simp) (by simp)).trans r1.ol, (f2 _ (by simp; omega) (by simp) (by simp) (by simp)).trans r1.oo⟩
  have hB : GrB g s r H2 := ⟨hG0, hX, r2⟩
  have hnl := (List.getElem?_eq_some_iff.1 hsn).1
  have hml := (List.getElem?_eq_some_iff.1 hrm).1
  obtain ⟨Hb, hHb⟩ : ∃ Hb, Hb = Am.upd H2 (N2 + 5, 0) (.cells (tabC [] r.1.length s.1.length)) := ⟨_, rfl⟩
  have hGb : GrS H2 (N2 + 5) r.1.length s.1.length [] [] Hb (N2 + 8) :=
    ⟨fun p hp => by rw [hHb, upd_old hp], by rw [hHb]; exact upd_same _ _ _, rfl, by simp, fun a c o h => by simp at h, fun o h => by simp at h, fun a o l h => by simp at h⟩
  obtain ⟨e, t, hrun, os, rows, H3, N3, rfl, rfl, hos, hG3, hT3⟩ := gre_outer g hg s r hs hr hs0 hr0 (by omega) (by omega) ho1 ho2 H2 (N2 + 5) (by omega) hB n m Hb (N2 + 8) (by omega) hGb
  have hoi : os[n]? = some (os[n]'(by omega)) := List.getElem?_eq_getElem (by omega)
  generalize os[n]'(by omega) = oi at hoi
  have hri : rows[n]? = some (rows[n]'(by have := hG3.len; omega)) := List.getElem?_eq_getElem (by have := hG3.len; omega)
  generalize rows[n]'(by have := hG3.len; omega) = li at hri
  obtain ⟨hoc, hll⟩ := hG3.row n oi li hoi hri
  have hbool := hT3 n m li _ _ hri hsn hrm (.inl hnl)
  have htl : (tabC os r.1.length s.1.length).length = s.1.length := tabC_len hG3.le
  have hti : (tabC os r.1.length s.1.length)[n]? = some (.osl oi 0 r.1.length 1 r.1.length) := by
    unfold tabC
    rw [List.getElem?_append_left (by simp; omega), List.getElem?_map, hoi]; rfl
  have hte : ∀ h : n < (tabC os r.1.length s.1.length).length, (tabC os r.1.length s.1.length)[n]'h = .osl oi 0 r.1.length 1 r.1.length := fun h => (List.getElem?_eq_some_iff.1 hti).2
  have htab := hG3.tab
  have hli : (m : Int) < (r.1.length : Int) := by omega
  have hni : (n : Int) < (s.1.length : Int) := by omega
  have hbe : ∀ h : m < li.length, li[m]'h = .bool (lpoB g (.mk v fn args) (.mk v2 fn2 args2)) := fun h => (List.getElem?_eq_some_iff.1 hbool).2
  have hx5 := hX.o
  simp only [rowA, rowOA, if_neg hs0] at hx5
  have hsb : (s.1.length : Int) ≤ 1099511627776 := by omega
  rw [hHb] at hrun
  simp [greO, tabC] at hrun
  simp [Term.enc] at c1 c2
  refine pcl_body code38 ?_
  rw [hHa] at c1
  simp [plc_raw, Nat.add_assoc, Term.enc, Sg.enc, c1, c2, q2, hx5, hsb, hrun, htab, htl, hti, hte, hoc, hll, hli, hni, hnl, hml, hbool, hbe]
end Go.Proofs.Ytfcedichoigbbaa.Am

/-
  The laws of the path order: both programs compare alike. No condition.
-/
namespace Go.Proofs.Ytfcedichoigbbaa.Am
open Go Go.Proofs
set_option maxHeartbeats 4000000
set_option maxRecDepth 20000
set_option linter.unusedSimpArgs false
set_option linter.unusedVariables false
theorem lCmp_bool (g : Sg) (t u : Term) : g.lCmp t u = if g.right = true ∧ t.rightE = 0 ∧ u.rightE = 0 then (if t.sameB u = true then 0 else if lpoB g t u = true then 1 else if lpoB g u t = true then -1 else 2) else 2 := by
  unfold Sg.lCmp
  by_cases h : g.right = true ∧ t.rightE = 0 ∧ u.rightE = 0
  · rw [if_pos h, if_pos h]
    by_cases he : t = u
    · rw [if_pos he, if_pos ((sameB_eq t u).2 he)]
    · rw [if_neg he, if_neg (mt (sameB_eq t u).1 he)]
      by_cases h1 : Lpo g t u
      · rw [if_pos h1, if_pos (show lpoB g t u = true by simp [lpoB, h1])]
      · rw [if_neg h1, if_neg (show ¬ lpoB g t u = true by simp [lpoB, h1])]
        by_cases h2 : Lpo g u t
        · rw [if_pos h2, if_pos (show lpoB g u t = true by simp [lpoB, h2])]
        · rw [if_neg h2, if_neg (show ¬ lpoB g u t = true by simp [lpoB, h2])]
  · rw [if_neg h, if_neg h]
theorem rlCompare_ok (g : Sg) (hg : g.ok) (t : Term) (ht : t.ok) (hts : t.size ≤ 1048576) (u : Term) (hu : u.ok) (hus : u.size ≤ 1048576) : pcl Cp 17 [.agg g.enc, .agg t.enc, .agg u.enc] = some (.int .i64 (g.lCmp t u)) := by
  have h1 := grright_ok g hg
  have h2 := rright_ok t ht
  have h3 := rright_ok u hu
  have h4 := rsame_ok t ht u hu
  have h5 := rgreat_ok g hg t ht hts u hu hus
  have h6 := rgreat_ok g hg u hu hus t ht hts
  refine pcl_body code17 ?_
  rw [lCmp_bool]
  generalize t.sameB u = b1 at *
  generalize lpoB g t u = b2 at *
  generalize lpoB g u t = b3 at *
  generalize t.rightE = z at *
  generalize u.rightE = z2 at *
  generalize g.right = gr at *
  obtain ⟨v, fn, args⟩ := t
  obtain ⟨v2, fn2, args2⟩ := u
  simp [Term.enc, Sg.enc] at h1 h2 h3 h4 h5 h6 ⊢
  cases gr
  · simp [plc_raw, h1]
  by_cases hz : z = 0
  · by_cases hz2 : z2 = 0
    · cases b1
      · cases b2
        · cases b3 <;> simp [plc_raw, h1, h2, h3, h4, h5, h6, hz, hz2]
        · simp [plc_raw, h1, h2, h3, h4, h5, h6, hz, hz2]
      · simp [plc_raw, h1, h2, h3, h4, h5, h6, hz, hz2]
    · simp [plc_raw, h1, h2, h3, hz, hz2]
  · simp [plc_raw, h1, h2, h3, hz]
theorem lpoCompares_ok (g : Sg) (hg : g.ok) (a : Term) (ha : a.ok) (has : a.size ≤ 1048576) (b : Term) (hb : b.ok) (hbs : b.size ≤ 1048576) :
    pcl Cp 3 [.agg g.enc, .agg a.enc, .agg b.enc] = some (.bool true) := by
  have h1 := lCompare_ok g hg a ha has b hb hbs
  have h2 := rlCompare_ok g hg a ha has b hb hbs
  have h4 := own_ok g
  have h5 := alive08_ok
  have h7 := small_ok [a, b] (by simp) ⟨ha, hb, trivial⟩
  generalize smallB [a, b] = sm at h7
  generalize g.lCmp a b = x at *
  obtain ⟨v, fn, args⟩ := a
  obtain ⟨v2, fn2, args2⟩ := b
  simp [Sg.enc, Term.enc, encL] at h1 h2 h4 h7
  refine pcl_body code3 ?_
  cases sm
  · simp [Sg.enc, Term.enc, plc_raw, h7, h5]
  · simp [Sg.enc, Term.enc, plc_raw, h1, h2, h4, h5, h7]
end Go.Proofs.Ytfcedichoigbbaa.Am


/-
  Joined texts: AmJg, AmJg2, AmJh, AmJi, AmJj, AmJk, AmJl, AmJm, AmJn, AmJo, AmJp. No condition.
-/
import Derived.Test.YtiafeijkifpfaaaAmPao
/-
 A node that nothing needs goes away, and what it needed alone. No condition.
-/
namespace Go.Proofs.Ytiafeijkifpfaaa.Am
open Go Go.Proofs
set_option maxHeartbeats 4000000
set_option maxRecDepth 20000
set_option linter.unusedSimpArgs false
set_option linter.unusedVariables false
def SwSpec (kp : Int → Int) (n : Nat) : Prop := ∀ (G : List Gn), G.length ≤ n → GOk G → KeyInj G → (G.length : Int) ≤ 17592186044416 → ∀ (H : Hp) (N nx : Nat) (o m1 m2 : Oid) (P : Int → Oid) (lim i : Int), BkH H N ⟨o, m1, m2, P⟩ lim G kp (upI G) → N ≤ nx →
 ∃ H' nx', acall Try.prog plc 49 [.ptr o 0 3, .d (.int .i64 i)] H nx = some (.d (.tup []), H', nx') ∧ nx ≤ nx' ∧ BkH H' N ⟨o, m1, m2, P⟩ lim (swp kp (n + 1) G i) kp (upI (swp kp (n + 1) G i)) ∧ ∀ p : Oid, p.1 < nx → ¬ Foot ⟨o, m1, m2, P⟩ G p → H' p = H p
theorem foot_sub {V : Vw} {G G' : List Gn} (h : ∀ g ∈ G', g ∈ G) {p : Oid} (hp : Foot V G' p) : Foot V G p := by
 rcases hp with e | e | e | ⟨g, hg, e⟩
 ·exact .inl e
 ·exact .inr (.inl e)
 ·exact .inr (.inr (.inl e))
 ·exact .inr (.inr (.inr ⟨g, h g hg, e⟩))
theorem Swept.sub {kp : Int → Int} {G G' : List Gn} {is : List Int} (h : Swept kp G G' is) : ∀ g ∈ G', g ∈ G := by
 obtain ⟨p, e, _⟩ := h.fil
 intro g hg; rw [e] at hg; exact (List.mem_filter.1 hg).1
theorem KeyInj.sub {G G' : List Gn} (h : KeyInj G) (k : ∀ g ∈ G', g ∈ G) : KeyInj G' := fun g hg y hy => h g (k g hg) y (k y hy)
theorem swps_ok (kp : Int → Int) (f : Nat) : ∀ (l : List Int) (G0 : List Gn), G0.length < f → GOk G0 → Swept kp G0 (l.foldl (swp kp f) G0) l
 | [], G0, _, h0 => Swept.refl h0
 | a :: r, G0, hl, h0 => by
  have h1 := swp_ok kp f G0 a hl h0
  exact h1.trans (swps_ok kp f r (swp kp f G0 a) (by have := h1.len; omega) h1.ok)
abbrev swT (o q : Oid) (n : Nat) (j : Nat) : List AV := [.ptr o 0 3, .junk, .junk, .junk, .junk, .junk, .junk, .junk, .junk, .junk, .junk, .junk, .junk, .junk, .junk, .junk, .junk, .junk, .junk, .junk, .junk, .junk, .junk, .junk, .junk, .junk, .junk, .junk, .junk, .junk, .junk, .junk, .junk, .junk, .junk, .junk, .junk, .junk, .junk, .junk, .junk, .junk, .junk, .junk, .junk, .junk, .junk, .junk, .junk, .junk, .junk, .junk, .junk, .junk, .junk, .junk, .junk, .junk, .junk, .junk, .junk, .junk, .junk, .junk, .junk, .junk, .junk, .junk, .junk, .junk, .junk, .junk, .junk, .junk, .junk, .junk, .junk, .junk, .junk, .junk, .junk, .vsl q 3 n 1 21, .d (.int .i64 n), .d (.int .i64 j), .junk, .junk, .junk, .junk, .junk, .junk, .junk]
structure SwS (H : Hp) (N b : Nat) (V : Vw) (lim : Int) (G : List Gn) (kp : Int → Int) (f : Nat) (ids : List Int) (s : Nat × Hp × Nat) : Prop where
 le : s.1 ≤ ids.length
 nx : b ≤ s.2.2
 bh : BkH s.2.1 N V lim ((ids.take s.1).foldl (swp kp f) G) kp (upI ((ids.take s.1).foldl (swp kp f) G))
 fr : ∀ p : Oid, p.1 < b → ¬ Foot V G p → s.2.1 p = H p
def SwR (H : Hp) (N b : Nat) (V : Vw) (lim : Int) (G : List Gn) (kp : Int → Int) (f : Nat) (ids : List Int) (tm : List AV) (x : Ex) (_ : Unit) (e : Ex) (st : St) : Prop := e = x ∧ ∃ H' nx', st = ⟨tm, H', nx'⟩ ∧ SwS H N b V lim G kp f ids (ids.length, H', nx')
theorem sw_loop {kp : Int → Int} {f : Nat} (hspec : SwSpec kp f) {H : Hp} {N b : Nat} {o m1 m2 : Oid} {P : Int → Oid} {lim : Int} {G : List Gn} (h : BkH H N ⟨o, m1, m2, P⟩ lim G kp (upI G)) (hN : N ≤ b) (hg : GOk G) (hki : KeyInj G) (hGf : G.length ≤ f) (hsz : (G.length : Int) ≤ 17592186044416) {v : Int} {fn : ByteArray} {ids : List Int} (h16 : ids.length ≤ 16)
  {q : Oid} {x y : AV} (hq : H q = some (.cells ((keyN v fn ids.length ids).map .d ++ [x, y]))) (hqb : q.1 < b) (hno : ¬ Foot ⟨o, m1, m2, P⟩ G q) :
  ∃ H' nx', aloop Try.prog plc b49_0 ⟨[true, false, false, false, false, false, false, false, false, false, false, false, false, false, false, false, false, false, false, false, false, false, false, false, false, false, false, false, false, false, false, false, false, false, false, false, false, false, false, false, false, false, false, false, false, false, false, false, false, false, false, false, false, false, false, false, false, false, false, false, false, false, false, false, false, false, false, false, false, false, false, false, false, false, false, false, false, false, false, false, false, true, true, true, false, false, false, false, false, false, false], some b⟩ ⟨swT o q ids.length 0, H, b⟩ = some (.exit 2, ⟨swT o q ids.length ids.length, H', nx'⟩) ∧ SwS H N b ⟨o, m1, m2, P⟩ lim G kp (f + 1) ids (ids.length, H', nx') := by
 have hkl : (keyN v fn ids.length ids).length = 19 := keyN_len h16
 have key := loop_ruleN (P := Try.prog) (pol := plc) (c := b49_0) (m := ⟨[true, false, false, false, false, false, false, false, false, false, false, false, false, false, false, false, false, false, false, false, false, false, false, false, false, false, false, false, false, false, false, false, false, false, false, false, false, false, false, false, false, false, false, false, false, false, false, false, false, false, false, false, false, false, false, false, false, false, false, false, false, false, false, false, false, false, false, false, false, false, false, false, false, false, false, false, false, false, false, false, false, true, true, true, false, false, false, false, false, false, false], some b⟩)
  (N := fun s : Nat × Hp × Nat => s.2.2) (tm := fun s => swT o q ids.length s.1) (Hf := fun s => s.2.1)
  (I := SwS H N b ⟨o, m1, m2, P⟩ lim G kp (f + 1) ids) (μ := fun s => ids.length - s.1) (res := fun _ => ()) (R := SwR H N b ⟨o, m1, m2, P⟩ lim G kp (f + 1) ids (swT o q ids.length ids.length) (.exit 2))
  (fun s hI => by
   obtain ⟨j, H1, n⟩ := s
   obtain ⟨hj, hle, h1, hk⟩ := hI
   simp only at hj hle h1 hk
   rcases Nat.lt_or_ge j ids.length with hl | hl
   ·have hsw := swps_ok kp (f + 1) (ids.take j) G (by omega) hg
    have hlen := hsw.len
    have hq1 : H1 q = some (.cells ((keyN v fn ids.length ids).map .d ++ [x, y])) := (hk q hqb hno).trans hq
    have hw2 : IntKind.i64.wrap ((j : Int) + 1) = (j : Int) + 1 := wrap_i64 (by omega) (by omega)
    have hjl : (j : Int) < (ids.length : Int) := by omega
    obtain ⟨H3, n3, c3, g3, b3, k3⟩ := hspec _ (by omega) hsw.ok (hki.sub hsw.sub) (by omega) H1 N (n + 7) o m1 m2 P lim ids[j] h1 (by omega)
    simp [b49_0, -splice, -part, plc_raw, hkl, hq1, part_as hl, hw2, hjl, hl, c3, Nat.add_assoc]
    have hnext : SwS H N b ⟨o, m1, m2, P⟩ lim G kp (f + 1) ids (j + 1, below b H3, n3 + 2) := by
     refine ⟨hl, by simp only; omega, ?_, fun p hp hn => ?_⟩
     ·simp only [List.take_succ_eq_append_getElem hl, List.foldl_append, List.foldl_cons, List.foldl_nil]
      exact b3.keep fun p hp => below_lt (by have := b3.foot_lt hp; omega)
     ·show below b H3 p = H p
      rw [below_lt hp, k3 p (by omega) fun e => hn (foot_sub hsw.sub e), hk p hp hn]
    exact .next _ rfl rfl rfl hnext (by simp only; omega) rfl
   ·obtain rfl : j = ids.length := Nat.le_antisymm hj hl
    simp [b49_0]
    refine .fin _ _ ⟨rfl, _, _, rfl, ⟨Nat.le_refl _, by simp only; omega, h1.keep fun p hp => below_lt (by have := h1.foot_lt hp; omega), fun p hp hn => (below_lt hp).trans (hk p hp hn)⟩⟩) (0, H, b) ⟨Nat.zero_le _, Nat.le_refl _, by simpa using h, fun _ _ _ => rfl⟩
 obtain ⟨e, st, hrun, rfl, H', nx', rfl, h0⟩ := key
 exact ⟨H', nx', hrun, h0⟩
end Go.Proofs.Ytiafeijkifpfaaa.Am

/-
 A sweep as a whole. No condition.
-/
namespace Go.Proofs.Ytiafeijkifpfaaa.Am
open Go Go.Proofs
set_option maxHeartbeats 4000000
set_option maxRecDepth 20000
set_option linter.unusedSimpArgs false
set_option linter.unusedVariables false
theorem find_id {G : List Gn} (hn : (G.map (·.id)).Nodup) {g : Gn} (hg : g ∈ G) : G.find? (fun y => decide (y.id = g.id)) = some g := by
 cases e : G.find? (fun y => decide (y.id = g.id)) with
 | none => rw [List.find?_eq_none] at e; exact absurd (by simp) (e g hg)
 | some y =>
  have h2 := List.find?_some e
  simp only [decide_eq_true_eq] at h2
  rw [nodup_inj hn (List.mem_of_find?_eq_some e) hg h2]
theorem sweep_none {kp : Int → Int} {G : List Gn} (hg : GOk G) {H : Hp} {N nx : Nat} {o m1 m2 : Oid} {P : Int → Oid} {lim i : Int} (h : BkH H N ⟨o, m1, m2, P⟩ lim G kp (upI G)) (hi : ∀ g ∈ G, g.id ≠ i) :
  ∃ H' nx', acall Try.prog plc 49 [.ptr o 0 3, .d (.int .i64 i)] H nx = some (.d (.tup []), H', nx') ∧ nx ≤ nx' ∧ H' = H := by
 have hroot := h.root
 obtain ⟨es, c, e1, hel, hf, hno⟩ := h.look hg.ids
 have hfn := hno i hi
 simp only at hroot e1
 refine ⟨H, nx + 23, acall_body code49 ?_, by omega, rfl⟩
 simp [plc_raw, Nat.add_assoc, -part, p3_1, hroot, e1, hfn]
theorem sweep_stay {kp : Int → Int} {G : List Gn} (hg : GOk G) {H : Hp} {N nx : Nat} {o m1 m2 : Oid} {P : Int → Oid} {lim : Int} (h : BkH H N ⟨o, m1, m2, P⟩ lim G kp (upI G)) {g : Gn} (hgm : g ∈ G) (hc : kp g.id > 0 ∨ upG G g.id > 0) :
  ∃ H' nx', acall Try.prog plc 49 [.ptr o 0 3, .d (.int .i64 g.id)] H nx = some (.d (.tup []), H', nx') ∧ nx ≤ nx' ∧ H' = H := by
 have hroot := h.root
 obtain ⟨es, c, e1, hel, hf, hno⟩ := h.look hg.ids
 obtain ⟨k, st, hfk⟩ := hf g hgm
 have hnode := h.node g hgm
 have hgl : g.key.length = 19 := keyN_len (hg.small g hgm)
 simp only at hroot e1 hfk hnode
 by_cases hk : kp g.id > 0
 ·refine ⟨H, nx + 23, acall_body code49 ?_, by omega, rfl⟩
  simp [plc_raw, Nat.add_assoc, -part, p3_1, hroot, e1, hfk, hnode, hgl, part_kept hgl, part_up hgl, hk]
 ·have hu : 0 < upG G g.id := by omega
  refine ⟨H, nx + 23, acall_body code49 ?_, by omega, rfl⟩
  simp [plc_raw, Nat.add_assoc, -part, p3_1, hroot, e1, hfk, hnode, hgl, part_kept hgl, part_up hgl, hk, hu, upI]
theorem sweep_del {kp : Int → Int} {n : Nat} (hspec : SwSpec kp n) {G : List Gn} (hG : G.length ≤ n + 1) (hg : GOk G) (hki : KeyInj G) (hsz : (G.length : Int) ≤ 17592186044416) {H : Hp} {N nx : Nat} {o m1 m2 : Oid} {P : Int → Oid} {lim : Int} (h : BkH H N ⟨o, m1, m2, P⟩ lim G kp (upI G)) (hN : N ≤ nx) {i v : Int} {fn : ByteArray} {ar : List Int} (hgm : (⟨i, v, fn, ar⟩ : Gn) ∈ G) (hk : ¬ kp i > 0) (hu : upG G i = 0) :
  ∃ H' nx', acall Try.prog plc 49 [.ptr o 0 3, .d (.int .i64 i)] H nx = some (.d (.tup []), H', nx') ∧ nx ≤ nx' ∧ BkH H' N ⟨o, m1, m2, P⟩ lim (ar.foldl (swp kp (n + 1)) (delG G i)) kp (upI (ar.foldl (swp kp (n + 1)) (delG G i))) ∧ ∀ p : Oid, p.1 < nx → ¬ Foot ⟨o, m1, m2, P⟩ G p → H' p = H p := by
 have hroot := h.root
 have hnode := h.node _ hgm
 have h16 : ar.length ≤ 16 := hg.small _ hgm
 have hgl : (keyN v fn ar.length ar).length = 19 := keyN_len h16
 have hfit := fit_key (v := v) (fn := fn) (n := ar.length) (ar := ar) h16
 simp only at hfit
 obtain ⟨s1, c1, e1, hs1⟩ := h.nodes
 obtain ⟨s2, c2, e2, hs2⟩ := h.idm
 obtain ⟨A, B, hAB, hA, hB, hd⟩ := GOk.split hg.ids hgm
 simp only at hA hB hd hroot hnode e1 e2
 simp only [Gn.key] at hnode
 have f1 : findK (.int .i64 i) (ents (fun g => .int .i64 g.id) (fun g => .ptr (P g.id) 0 21) s1 G) 0 = some (A.length, .ptr (P i) 0 21, s1 i) := by
  rw [hAB, findK_at 0 (fun y hy => by simpa [eqD, eq1] using (hA y hy).symm) (by simp [eqD, eq1]), Nat.zero_add]
 have hA2 : ∀ y ∈ A, eqD (.agg (keyN v fn ar.length ar)) (.agg y.key) = false := fun y hy => by
  show eqL (keyN v fn ar.length ar) y.key = false
  rw [← Bool.not_eq_true]
  exact fun e => hA y hy (hki ⟨i, v, fn, ar⟩ hgm y (by rw [hAB]; simp [hy]) e).symm
 have hself : eqD (.agg (keyN v fn ar.length ar)) (.agg (Gn.key ⟨i, v, fn, ar⟩)) = true := by
  show eqL (keyN v fn ar.length ar) (keyN v fn ar.length ar) = true
  exact key_eq.2 ⟨rfl, rfl, rfl⟩
 have f2 : findK (.agg (keyN v fn ar.length ar)) (ents (fun g => .agg g.key) (fun g => .d (.int .i64 g.id)) s2 G) 0 = some (A.length, .d (.int .i64 i), s2 i) := by
  rw [hAB, findK_at (k := fun g => .agg g.key) 0 hA2 hself, Nat.zero_add]
 have x1 : (ents (fun g => .int .i64 g.id) (fun g => .ptr (P g.id) 0 21) s1 G).eraseIdx A.length = ents (fun g => .int .i64 g.id) (fun g => .ptr (P g.id) 0 21) s1 (delG G i) := by
  rw [hd]; exact (congrArg (fun G => (ents (fun g => .int .i64 g.id) (fun g => .ptr (P g.id) 0 21) s1 G).eraseIdx A.length) hAB).trans ents_erase
 have x2 : (ents (fun g => .agg g.key) (fun g => .d (.int .i64 g.id)) s2 G).eraseIdx A.length = ents (fun g => .agg g.key) (fun g => .d (.int .i64 g.id)) s2 (delG G i) := by
  rw [hd]; exact (congrArg (fun G => (ents (fun g => .agg g.key) (fun g => .d (.int .i64 g.id)) s2 G).eraseIdx A.length) hAB).trans ents_erase
 obtain ⟨es1, hes1⟩ : ∃ es, es = ents (fun g => .int .i64 g.id) (fun g => .ptr (P g.id) 0 21) s1 G := ⟨_, rfl⟩
 obtain ⟨es2, hes2⟩ : ∃ es, es = ents (fun g => .agg g.key) (fun g => .d (.int .i64 g.id)) s2 G := ⟨_, rfl⟩
 obtain ⟨fs1, hfs1⟩ : ∃ es, es = ents (fun g => .int .i64 g.id) (fun g => .ptr (P g.id) 0 21) s1 (delG G i) := ⟨_, rfl⟩
 obtain ⟨fs2, hfs2⟩ : ∃ es, es = ents (fun g => .agg g.key) (fun g => .d (.int .i64 g.id)) s2 (delG G i) := ⟨_, rfl⟩
 rw [← hes1] at e1 f1 x1
 rw [← hes2] at e2 f2 x2
 rw [← hfs1] at x1
 rw [← hfs2] at x2
 have n12 : m1 ≠ m2 := h.ne12
 have no1 : o ≠ m1 := h.ne1
 have no2 : o ≠ m2 := h.ne2
 have nq1 : P i ≠ m1 := h.neM _ hgm
 have nq2 : P i ≠ m2 := h.neN _ hgm
 have u1 : ∀ (H : Hp) x, upd H m1 x m2 = H m2 := fun H x => upd_ne n12.symm
 have u2 : ∀ (H : Hp) x, upd H m1 x o = H o := fun H x => upd_ne no1
 have u3 : ∀ (H : Hp) x, upd H m2 x o = H o := fun H x => upd_ne no2
 have u4 : ∀ (H : Hp) x, upd H m1 x (P i) = H (P i) := fun H x => upd_ne nq1
 have u5 : ∀ (H : Hp) x, upd H m2 x (P i) = H (P i) := fun H x => upd_ne nq2
 obtain ⟨H1, hH1⟩ : ∃ H1, H1 = upd (upd H m1 (.mp shI fs1 c1)) m2 (.mp shK fs2 c2) := ⟨_, rfl⟩
 have hr1 : H1 o = some (.cells [.d (.int .i64 lim), .map m1, .map m2]) := by rw [hH1, u3, u2]; exact hroot
 have hq1 : H1 (P i) = some (.cells ((keyN v fn ar.length ar).map .d ++ [.d (.int .i64 (kp i)), .d (.int .i64 (upI G i))])) := by rw [hH1, u5, u4]; exact hnode
 have hdel : BkH H1 N ⟨o, m1, m2, P⟩ lim (delG G i) kp (upI G) := by
  refine BkH.del h hs1 hs2 ?_ ?_ (fun p h1 h2 => ?_)
  ·rw [← hfs1, hH1, upd_ne n12]; exact upd_same _ _ _
  ·rw [← hfs2, hH1]; exact upd_same _ _ _
  ·rw [hH1, upd_ne h2, upd_ne h1]
 have hgd := hg.del hu
 have hnof : ¬ Foot ⟨o, m1, m2, P⟩ (delG G i) (P i) := by
  rintro (e | e | e | ⟨g, hg2, e⟩)
  ·exact h.neO _ hgm e
  ·exact nq1 e
  ·exact nq2 e
  ·obtain ⟨hg3, hg4⟩ := delG_mem.1 hg2
   exact hg4 (h.inj _ hgm g hg3 e).symm
 have hPi : (P i).1 < N := h.ltP _ hgm
 have hnid : ∀ a ∈ ar, ∃ g ∈ delG G i, g.id = a := fun a ha => by
  obtain ⟨m, hm, e⟩ := hg.cl _ hgm a ha
  refine ⟨m, delG_mem.2 ⟨hm, fun e2 => ?_⟩, e⟩
  have : 0 < upG G i := upG_pos.2 ⟨_, hgm, by rw [← e2, e]; exact ha⟩
  omega
 obtain ⟨H2, n2, c1', d2⟩ := dn_loop (b := nx + 50) hdel (by omega) hgd (v := v) (fn := fn) hnid h16 (fun j => by
  have := upG_le hg.small j
  simp only [upI]; omega) hq1 (by omega) hnof
 have hb2 : BkH H2 N ⟨o, m1, m2, P⟩ lim (delG G i) kp (upI (delG G i)) := by
  have h1 := d2.bh
  simp only [List.take_length] at h1
  refine h1.fun (fun _ _ => rfl) fun g _ => ?_
  have := upG_del hg.ids hgm rfl g.id
  simp only [upI] at this ⊢; omega
 have hq2 : H2 (P i) = some (.cells ((keyN v fn ar.length ar).map .d ++ [.d (.int .i64 (kp i)), .d (.int .i64 (upI G i))])) := by
  exact (d2.fr (P i) (by omega) fun ⟨g, hg2, e⟩ => hnof (.inr (.inr (.inr ⟨g, hg2, e⟩)))).trans hq1
 have hdl := delG_len hg.ids hgm rfl
 simp only at hdl
 have hn2 : nx + 50 ≤ n2 := d2.nx
 obtain ⟨H3, n3, c3, d3⟩ := sw_loop hspec (b := n2 + 12) hb2 (by omega) hgd (hki.sub fun g hg => (delG_mem.1 hg).1) (by omega) (by omega) (v := v) (fn := fn) h16 hq2 (by omega) hnof
 simp [dnT] at c1'
 simp [swT] at c3
 have hn3 : n2 + 12 ≤ n3 := d3.nx
 refine ⟨H3, n3, acall_body code49 ?_, by omega, ?_, fun p hp hF => ?_⟩
 ·simp [plc_raw, Nat.add_assoc, -part, p3_1, p3_2, hroot, e1, e2, f1, f2, x1, x2, hnode, hgl, part_kept hgl, part_up hgl, part_key hgl, part_n, hk, hu, upI, hfit, u1, u2, u3, u4, u5, ← hH1, hr1, hq1, h16, c1', hq2, c3]
 ·have h1 := d3.bh
  simp only [List.take_length] at h1
  exact h1
 ·have hF2 : ¬ Foot ⟨o, m1, m2, P⟩ (delG G i) p := fun e => hF (foot_sub (fun g hg => (delG_mem.1 hg).1) e)
  have a1 := d3.fr p (by omega) hF2
  have a2 := d2.fr p (by omega) fun ⟨g, hg2, e⟩ => hF2 (.inr (.inr (.inr ⟨g, hg2, e⟩)))
  simp only at a1 a2
  rw [a1, a2, hH1, upd_ne fun e => hF (.inr (.inr (.inl e))), upd_ne fun e => hF (.inr (.inl e))]
theorem sweep_ok (kp : Int → Int) : ∀ n, SwSpec kp n := by
 intro n
 induction n with
 | zero =>
  intro G hG hg hki hsz H N nx o m1 m2 P lim i h hN
  obtain rfl : G = [] := List.eq_nil_of_length_eq_zero (by omega)
  obtain ⟨H', nx', c, h1, rfl⟩ := sweep_none hg h (nx := nx) (i := i) (by simp)
  exact ⟨H', nx', c, h1, by simpa [swp] using h, fun _ _ _ => rfl⟩
 | succ n ih =>
  intro G hG hg hki hsz H N nx o m1 m2 P lim i h hN
  by_cases hi : ∃ g ∈ G, g.id = i
  ·obtain ⟨g, hgm, rfl⟩ := hi
   have hfind := find_id hg.ids hgm
   by_cases hc : kp g.id > 0 ∨ upG G g.id > 0
   ·obtain ⟨H', nx', c, h1, rfl⟩ := sweep_stay hg h (nx := nx) hgm hc
    refine ⟨H', nx', c, h1, ?_, fun _ _ _ => rfl⟩
    have : swp kp (n + 1 + 1) G g.id = G := by rw [swp, hfind]; simp only [if_pos hc]
    rw [this]; exact h
   ·have : swp kp (n + 1 + 1) G g.id = g.ar.foldl (swp kp (n + 1)) (delG G g.id) := by rw [swp, hfind]; simp only [if_neg hc]
    rw [this]
    exact sweep_del ih hG hg hki hsz h hN hgm (by omega) (by omega)
  ·have hi2 : ∀ g ∈ G, g.id ≠ i := fun g hg e => hi ⟨g, hg, e⟩
   obtain ⟨H', nx', c, h1, rfl⟩ := sweep_none hg h (nx := nx) hi2
   refine ⟨H', nx', c, h1, ?_, fun _ _ _ => rfl⟩
   have : swp kp (n + 1 + 1) G i = G := by
    have hn : G.find? (fun y => decide (y.id = i)) = none := List.find?_eq_none.2 fun g hg => by simpa using hi2 g hg
    rw [swp, hn]
   rw [this]; exact h
end Go.Proofs.Ytiafeijkifpfaaa.Am

/-
 A bank tells a term: its arguments in a row. No condition.
-/
namespace Go.Proofs.Ytiafeijkifpfaaa.Am
open Go Go.Proofs
set_option maxHeartbeats 4000000
set_option maxRecDepth 20000
set_option linter.unusedSimpArgs false
set_option linter.unusedVariables false
inductive ArgsAt (H : Hp) : AV → Oid → List Term → Prop
 | vn (q : Oid) (h : H q = some .vnil) : ArgsAt H (.osl q 0 0 1 0) q []
 | row (q : Oid) (ts : List Term) (cs : List D) (hne : ts ≠ []) (h : H q = some (.grow (cs.map .d))) (hw : wkL cs = encL ts) (hl : cs.length = ts.length * 3) : ArgsAt H (.osl q 0 ts.length 3 (ts.length * 3)) q ts
theorem ArgsAt.keep {H H' : Hp} {w : AV} {q : Oid} {ts : List Term} (h : ArgsAt H w q ts) (k : H' q = H q) : ArgsAt H' w q ts := by
 cases h with
 | vn _ h => exact .vn _ (k.trans h)
 | row _ _ cs hne h hw hl => exact .row _ _ cs hne (k.trans h) hw hl
theorem ArgsAt.reify {H : Hp} {w : AV} {q : Oid} {ts : List Term} (h : ArgsAt H w q ts) (k : Nat) : ∃ cs nl is, Am.reify H (k + 1) w = some (.sl cs ts.length false nl, is) ∧ wkL cs = encL ts ∧ ∀ p ∈ is, p = q := by
 cases h with
 | vn _ h => exact ⟨[], some true, [], by simp [Am.reify, h, mapD], by simp [wkL, encL], by simp⟩
 | row _ _ cs hne h hw hl =>
  have h1 := mapD_encT H k cs
  have h2 : cs ≠ [] := fun e => by rw [e] at hl; simp at hl; exact hne (List.eq_nil_of_length_eq_zero (by omega))
  have h3 : List.take (ts.length * 3) (cs.map AV.d) = cs.map .d := List.take_of_length_le (by simp [hl])
  refine ⟨cs, some false, [q], ?_, hw, by simp⟩
  simp [Am.reify, h, hl, h3, h1, h2]
theorem kill_ne {H : Hp} {is : List Oid} {p : Oid} (h : p ∉ is) : kill H is p = H p := by simp only [kill]; rw [if_neg h]
theorem encL_append (a b : List Term) : encL (a ++ b) = encL a ++ encL b := by
 induction a with
 | nil => rfl
 | cons t r ih => simp [encL, ih]
theorem wkL_append (a b : List D) : wkL (a ++ b) = wkL a ++ wkL b := by
 induction a with
 | nil => rfl
 | cons t r ih => simp [wkL, ih]
theorem append_arg {H : Hp} {w w2 : AV} {q q2 e : Oid} {ts ts2 : List Term} {v : Int} {fn : ByteArray} (h : ArgsAt H w q ts) (h2 : ArgsAt H w2 q2 ts2) (he : H e = some (.cells [.d (.int .i64 v), .d (.str fn), w2])) (hq1 : q ≠ e) (hq2 : q ≠ q2) (hn : ts.length ≤ 16) (id : Nat) :
  ∃ H', appendO Try.prog H id 30 30 w (.osl e 0 1 3 3) = some (.osl q 0 (ts.length + 1) 3 (ts.length * 3 + 3), H') ∧ ArgsAt H' (.osl q 0 (ts.length + 1) 3 (ts.length * 3 + 3)) q (ts ++ [.mk v fn ts2]) ∧ ∀ p, p ≠ q → p ≠ e → p ≠ q2 → H' p = H p := by
 obtain ⟨cs2, nl, is, hre, hw2, his⟩ := h2.reify 4
 have hnd : ∀ x, w2 ≠ .d x := by cases h2 <;> simp
 have hqi : q ∉ e :: is := by
  rw [List.mem_cons]
  rintro (e1 | e1)
  ·exact hq1 e1
  ·exact hq2 (his q e1)
 have hqe : ¬ q = e := hq1
 have hqis : q ∉ is := fun h => hqi (by simp [h])
 have hsrc : srcCells Try.prog H 3 30 (.osl e 0 1 3 3) = some ([.int .i64 v, .str fn, .sl cs2 ts2.length false nl], 1, e :: is) := by
  have h0 : allD [AV.d (.int .i64 v), .d (.str fn), w2] = none := by
   cases h2 <;> rfl
  have h1 : srcRaw Try.prog H 3 30 (.osl e 0 1 3 3) = none := by simp [srcRaw, he, h0, -allD]
  simp only [srcCells, h1]
  simp [reify, he, hre, -reify, mapD]
  simp [Am.reify, he, mapD, hre]
 have hk : ∀ p, p ≠ q → p ≠ e → p ≠ q2 → ∀ x, upd (kill H (e :: is)) q x p = H p := fun p h1 h2 h3 x => by
  rw [upd_ne h1, kill_ne]
  rw [List.mem_cons]
  rintro (e1 | e1)
  ·exact h2 e1
  ·exact h3 (his p e1)
 cases h with
 | vn _ h =>
  refine ⟨upd (kill H (e :: is)) q (.grow [.d (.int .i64 v), .d (.str fn), .d (.sl cs2 ts2.length false nl)]), ?_, ?_, fun p h1 h2 h3 => hk p h1 h2 h3 _⟩
  ·simp [appendO, hsrc, h, growO, hqe, hqis]
  ·exact .row q [.mk v fn ts2] [.int .i64 v, .str fn, .sl cs2 ts2.length false nl] (by simp) (upd_same _ _ _) (by simp [encL, Term.enc, hw2]) (by simp)
 | row _ _ cs hne h hw hl =>
  have hv : ts.length * 3 ≤ 68719476736 := by omega
  have h3 : List.take (ts.length * 3) (cs.map AV.d) = cs.map .d := List.take_of_length_le (by simp [hl])
  have h4 : ¬ ts.length * 3 + 3 ≤ ts.length * 3 := by omega
  refine ⟨upd (kill H (e :: is)) q (.grow ((cs ++ [D.int .i64 v, D.str fn, D.sl cs2 ts2.length false nl]).map .d)), ?_, ?_, fun p h1 h2 h3 => hk p h1 h2 h3 _⟩
  ·simp [appendO, hsrc, h, growO, hqe, hqis, hl, hv, h3, h4]
  ·have := ArgsAt.row (H := upd (kill H (e :: is)) q (.grow ((cs ++ [D.int .i64 v, D.str fn, D.sl cs2 ts2.length false nl]).map .d))) q (ts ++ [.mk v fn ts2]) (cs ++ [D.int .i64 v, D.str fn, D.sl cs2 ts2.length false nl]) (by simp) (upd_same _ _ _) (by rw [wkL_append, encL_append, hw]; simp [encL, Term.enc, hw2]) (by simp [hl]; omega)
   rw [List.length_append, List.length_singleton, Nat.add_mul, Nat.one_mul] at this
   exact this
end Go.Proofs.Ytiafeijkifpfaaa.Am

/-
 A bank tells a term. No condition.
-/
namespace Go.Proofs.Ytiafeijkifpfaaa.Am
open Go Go.Proofs
set_option maxHeartbeats 4000000
set_option maxRecDepth 20000
set_option linter.unusedSimpArgs false
set_option linter.unusedVariables false
theorem part_v0 {v : Int} {fn : ByteArray} {n : Nat} {ar : List Int} : part Try.prog 3 ((keyN v fn n ar).map .d) 0 = some (.d (.int .i64 v)) := by simp [part, keyN]
theorem part_fn0 {v : Int} {fn : ByteArray} {n : Nat} {ar : List Int} : part Try.prog 9 ((keyN v fn n ar).map .d) 1 = some (.d (.str fn)) := by simp [part, keyN]
def ToldSpec (t : Term) : Prop := ∀ (H : Hp) (N nx : Nat) (o m1 m2 : Oid) (P : Int → Oid) (lim : Int) (L : List Nd) (kp up : Int → Int), BkH H N ⟨o, m1, m2, P⟩ lim (gr L) kp up → Bk L → hasT L t = true → N ≤ nx →
 ∃ w q H' nx', acall Try.prog plc 54 [.ptr o 0 3, .d (.int .i64 (idOf L t))] H nx = some (.agg [.d (.int .i64 t.v), .d (.str t.fn), w], H', nx') ∧ nx ≤ nx' ∧ (∀ p : Oid, p.1 < nx → H' p = H p) ∧ ArgsAt H' w q t.args ∧ nx ≤ q.1 ∧ q.1 < nx'
structure ToS where
 i : Nat
 H : Hp
 n : Nat
 w : AV
abbrev toT (o r4 r5 r6 : Oid) (n i : Nat) : List AV := [.ptr o 0 3, .junk, .junk, .junk, .ptr r4 0 3, .junk, .ptr r6 0 3, .junk, .junk, .junk, .junk, .junk, .junk, .junk, .junk, .junk, .junk, .junk, .junk, .junk, .junk, .junk, .junk, .junk, .junk, .junk, .vsl r5 3 n 1 19, .d (.int .i64 n), .d (.int .i64 i), .junk, .junk, .junk, .junk, .junk, .junk, .junk, .junk, .junk, .junk, .junk, .junk, .junk]
structure ToI (H : Hp) (b : Nat) (r6 q : Oid) (v : Int) (fn : ByteArray) (ts : List Term) (s : ToS) : Prop where
 le : s.i ≤ ts.length
 nx : b ≤ s.n
 obj : s.H r6 = some (.cells [.d (.int .i64 v), .d (.str fn), s.w])
 ar : ArgsAt s.H s.w q (ts.take s.i)
 fr : ∀ p : Oid, p.1 < b → p ≠ r6 → p ≠ q → s.H p = H p
def ToR (H : Hp) (b : Nat) (o r4 r5 r6 q : Oid) (v : Int) (fn : ByteArray) (ts : List Term) (_ : Unit) (e : Ex) (st : St) : Prop :=
 e = .exit 0 ∧ ∃ s, ToI H b r6 q v fn ts s ∧ s.i = ts.length ∧ st = ⟨toT o r4 r5 r6 ts.length ts.length, s.H, s.n⟩
theorem told_loop {ts : List Term} (hrec : ∀ x ∈ ts, ToldSpec x) (h16 : ts.length ≤ 16) {H : Hp} {N b : Nat} {o m1 m2 : Oid} {P : Int → Oid} {lim : Int} {L : List Nd} {kp up : Int → Int} (h : BkH H N ⟨o, m1, m2, P⟩ lim (gr L) kp up) (hb : Bk L) (hN : N ≤ b) (hts : ∀ x ∈ ts, hasT L x = true)
  {r4 r5 r6 q : Oid} {v : Int} {fn : ByteArray} (h5 : H r5 = some (.cells ((keyN v fn ts.length (ts.map (idOf L))).map .d))) (hr5 : r5.1 < b) (hr6 : r6.1 < b) (hq : q.1 < b) (hN6 : N ≤ r6.1) (hNq : N ≤ q.1) (n56 : r5 ≠ r6) (n5q : r5 ≠ q) (n6q : r6 ≠ q)
  (w : AV) (h6 : H r6 = some (.cells [.d (.int .i64 v), .d (.str fn), w])) (hw : ArgsAt H w q []) :
  ∃ s, ToI H b r6 q v fn ts s ∧ s.i = ts.length ∧ aloop Try.prog plc b54_0 ⟨[true, false, false, false, true, false, true, false, false, false, false, false, false, false, false, false, false, false, false, false, false, false, false, false, false, false, true, true, true, false, false, false, false, false, false, false, false, false, false, false, false, true], some b⟩ ⟨toT o r4 r5 r6 ts.length 0, H, b⟩ = some (.exit 0, ⟨toT o r4 r5 r6 ts.length ts.length, s.H, s.n⟩) := by
 have hkl : (keyN v fn ts.length (ts.map (idOf L))).length = 19 := keyN_len (by rw [List.length_map]; exact h16)
 have key := loop_ruleN (P := Try.prog) (pol := plc) (c := b54_0) (m := ⟨[true, false, false, false, true, false, true, false, false, false, false, false, false, false, false, false, false, false, false, false, false, false, false, false, false, false, true, true, true, false, false, false, false, false, false, false, false, false, false, false, false, true], some b⟩)
  (N := fun s : ToS => s.n) (tm := fun s => toT o r4 r5 r6 ts.length s.i) (Hf := fun s => s.H)
  (I := ToI H b r6 q v fn ts) (μ := fun s => ts.length - s.i) (res := fun _ => ()) (R := ToR H b o r4 r5 r6 q v fn ts)
  (fun s hI => by
   have hnx := hI.nx
   rcases Nat.lt_or_ge s.i ts.length with hl | hl
   ·have hmem : ts[s.i] ∈ ts := List.getElem_mem hl
    have hfoot : ∀ p, Foot ⟨o, m1, m2, P⟩ (gr L) p → s.H p = H p := fun p hp => by
     have := h.foot_lt hp
     exact hI.fr p (by omega) (fun e => by rw [e] at this; omega) (fun e => by rw [e] at this; omega)
    obtain ⟨w2, q2, H3, n3, c3, g3, k3, a3, lq, lq2⟩ := hrec _ hmem s.H N (s.n + 13) o m1 m2 P lim L kp up (h.keep hfoot) hb (hts _ hmem) (by omega)
    obtain ⟨v1, fn1, args, hx⟩ : ∃ v1 fn1 args, ts[s.i] = Term.mk v1 fn1 args := by cases ts[s.i]; exact ⟨_, _, _, rfl⟩
    rw [hx] at c3 a3
    simp only [Term.v, Term.fn, Term.args] at c3 a3
    have h5s : s.H r5 = some (.cells ((keyN v fn ts.length (ts.map (idOf L))).map .d)) := (hI.fr r5 hr5 n56 n5q).trans h5
    have hpa := part_as0 (v := v) (fn := fn) (n := ts.length) (ar := ts.map (idOf L)) (i := s.i) (by simpa using hl)
    rw [List.getElem_map, hx] at hpa
    have hw2 : IntKind.i64.wrap ((s.i : Int) + 1) = (s.i : Int) + 1 := wrap_i64 (by omega) (by omega)
    have hjl : (s.i : Int) < (ts.length : Int) := by omega
    have h6s := hI.obj
    have h63 : H3 r6 = some (.cells [.d (.int .i64 v), .d (.str fn), s.w]) := (k3 r6 (by omega)).trans h6s
    obtain ⟨H4, hH4⟩ : ∃ H4, H4 = upd H3 (s.n + 9, 0) (.cells [.d (.int .i64 v1), .d (.str fn1), w2]) := ⟨_, rfl⟩
    have nq9 : q ≠ (s.n + 9, 0) := fun e => by rw [e] at hq; simp only at hq; omega
    have ar4 : ArgsAt H4 s.w q (ts.take s.i) := hI.ar.keep (by rw [hH4, upd_ne nq9, k3 q (by omega)])
    have ar42 : ArgsAt H4 w2 q2 args := a3.keep (by rw [hH4, upd_ne fun e => by rw [e] at lq; simp only at lq; omega])
    have htl : (ts.take s.i).length = s.i := by rw [List.length_take]; omega
    obtain ⟨H5, c5, ar5, k5⟩ := append_arg ar4 ar42 (by rw [hH4]; exact upd_same _ _ _) nq9 (fun e => by rw [e] at hq; omega) (by rw [htl]; omega) (s.n + 10)
    rw [htl] at c5 ar5
    have h65 : H5 r6 = some (.cells [.d (.int .i64 v), .d (.str fn), s.w]) := by
     rw [k5 r6 n6q (fun e => by rw [e] at hr6; simp only at hr6; omega) (fun e => by rw [e] at hr6; omega), hH4, upd_ne (fun e => by rw [e] at hr6; simp only at hr6; omega)]; exact h63
    obtain ⟨H6, hH6⟩ : ∃ H6, H6 = below b (upd H5 r6 (.cells [.d (.int .i64 v), .d (.str fn), .osl q 0 (s.i + 1) 3 (s.i * 3 + 3)])) := ⟨_, rfl⟩
    simp [b54_0, -part, p3_1, p3_2, plc_raw, hkl, h5s, hpa, hw2, hjl, hl, h6s, c3, h63, ← hH4, c5, h65, ← hH6, Nat.add_assoc]
    have hlt6 : ∀ p : Oid, p.1 < b → H6 p = upd H5 r6 (.cells [.d (.int .i64 v), .d (.str fn), .osl q 0 (s.i + 1) 3 (s.i * 3 + 3)]) p := fun p hp => by rw [hH6, below_lt hp]
    have hlq2 : ∀ p : Oid, p.1 < b → p ≠ q2 := fun p hp e => by rw [e] at hp; omega
    have hl9 : ∀ p : Oid, p.1 < b → p ≠ (s.n + 9, 0) := fun p hp e => by rw [e] at hp; simp only at hp; omega
    refine .next (ToS.mk (s.i + 1) H6 _ (.osl q 0 (s.i + 1) 3 (s.i * 3 + 3))) rfl rfl rfl ⟨hl, by simp only; omega, ?_, ?_, fun p hp h1 h2 => ?_⟩ (by simp only; omega) rfl
    ·show H6 r6 = _
     rw [hlt6 r6 hr6, upd_same]
    ·show ArgsAt H6 _ q (ts.take (s.i + 1))
     rw [List.take_succ_eq_append_getElem hl, hx]
     exact ar5.keep (by rw [hlt6 q hq, upd_ne n6q.symm])
    ·show H6 p = H p
     rw [hlt6 p hp, upd_ne h1, k5 p h2 (hl9 p hp) (hlq2 p hp), hH4, upd_ne (hl9 p hp), k3 p (by omega)]
     exact hI.fr p hp h1 h2
   ·have hte : s.i = ts.length := Nat.le_antisymm hI.le hl
    simp [b54_0, hte]
    refine .fin _ _ ⟨rfl, ⟨s.i, below b s.H, s.n + 1, s.w⟩, ⟨hI.le, by simp only; omega, (below_lt hr6).trans hI.obj, hI.ar.keep (below_lt hq), fun p hp h1 h2 => (below_lt hp).trans (hI.fr p hp h1 h2)⟩, hte, by simp⟩) ⟨0, H, b, w⟩ ⟨Nat.zero_le _, Nat.le_refl _, h6, by simpa using hw, fun _ _ _ _ => rfl⟩
 obtain ⟨e, st, hrun, rfl, s, hs, hsi, rfl⟩ := key
 exact ⟨s, hs, hsi, hrun⟩
theorem told_ok (t : Term) : ToldSpec t := by
 refine Term.ind (p := ToldSpec) (fun v fn ts ih => ?_) t
 intro H N nx o m1 m2 P lim L kp up h hb ht hN
 obtain ⟨n, hn, hnt, hni⟩ := idOf_mem ht
 have h16 : ts.length ≤ 16 := by have := hb.small n hn; rw [hnt] at this; exact this
 have hts : ∀ x ∈ ts, hasT L x = true := by have := hb.cl n hn; rw [hnt] at this; exact this
 have hroot := h.root
 obtain ⟨es, c, e1, hel, hf, _⟩ := h.look hb.g.ids
 have hgm : (⟨n.id, n.t.v, n.t.fn, n.t.args.map (idOf L)⟩ : Gn) ∈ gr L := List.mem_map.2 ⟨n, hn, rfl⟩
 obtain ⟨k, st, hfk⟩ := hf _ hgm
 have hnode := h.node _ hgm
 have hPl := h.ltP _ hgm
 have lo := h.ltO
 have l1 := h.lt1
 simp only at hroot e1 hfk hnode hPl lo l1
 simp only [hnt, Gn.key, Term.v, Term.fn, Term.args, List.length_map] at hnode
 rw [hni]
 obtain ⟨ids, hids⟩ : ∃ ids, ids = ts.map (idOf L) := ⟨_, rfl⟩
 have hidl : ids.length = ts.length := by rw [hids, List.length_map]
 rw [← hids] at hnode
 have hgl : (keyN v fn ts.length ids).length = 19 := keyN_len (by omega)
 obtain ⟨qi, hqi⟩ : ∃ qi, qi = P n.id := ⟨_, rfl⟩
 rw [← hqi] at hfk hnode hPl
 have u2 : ∀ (H : Hp) j x, upd H (nx, j) x m1 = H m1 := fun H j x => upd_old (by omega) _ _ _
 have u3 : ∀ (H : Hp) j x, upd H (nx, j) x qi = H qi := fun H j x => upd_old (by omega) _ _ _
 have u1 : ∀ (H : Hp) j x, upd H (nx, j) x o = H o := fun H j x => upd_old (by omega) _ _ _
 obtain ⟨H1, hH1⟩ : ∃ H1, H1 = upd (upd (upd (upd (upd (upd (upd H (nx, 3) .vnil) (nx, 0) (.cells [.d (.int .i64 0), .d (.str { data := #[] }), .osl (nx, 3) 0 0 1 0])) (nx + 10, 0) (.cells ((keyN v fn ts.length ids).map .d))) (nx + 17, 3) .vnil) (nx + 17, 0) (.cells [.d (.int .i64 0), .d (.str { data := #[] }), .osl (nx + 17, 3) 0 0 1 0])) (nx + 18, 3) .vnil) (nx + 17, 0) (.cells [.d (.int .i64 v), .d (.str fn), .osl (nx + 18, 3) 0 0 1 0]) := ⟨_, rfl⟩
 have hk1 : ∀ p : Oid, p.1 < nx → H1 p = H p := fun p hp => by
  rw [hH1]; simp only [upd_old (o := p) (i := nx + 17) (by omega), upd_old (o := p) (i := nx + 18) (by omega), upd_old (o := p) (i := nx + 10) (by omega), upd_old (o := p) (i := nx) hp]
 obtain ⟨s, hs, hsi, hrun⟩ := told_loop (ts := ts) ih h16 (b := nx + 25) (h.keep fun p hp => hk1 p (by have := h.foot_lt hp; omega)) hb (by omega) hts (r4 := (nx, 0)) (r5 := (nx + 10, 0)) (r6 := (nx + 17, 0)) (q := (nx + 18, 3)) (v := v) (fn := fn)
  (by rw [hH1, ← hids]; simp) (by simp only; omega) (by simp only; omega) (by simp only; omega) (by simp only; omega) (by simp only; omega) (by simp) (by simp) (by simp) (.osl (nx + 18, 3) 0 0 1 0) (by rw [hH1]; exact upd_same _ _ _) (.vn _ (by rw [hH1]; simp))
 obtain ⟨i, Hs, ns, w⟩ := s
 obtain ⟨_, hsn, hobj, har, hfr⟩ := hs
 simp only at hsi hrun hobj har hsn hfr
 subst hsi
 rw [List.take_length] at har
 simp [toT] at hrun
 have h10 : H1 (nx + 10, 0) = some (.cells ((keyN v fn ts.length ids).map .d)) := by rw [hH1]; simp
 have h4 : Hs (nx, 0) = some (.cells [.d (.int .i64 0), .d (.str { data := #[] }), .osl (nx, 3) 0 0 1 0]) := by
  rw [hfr (nx, 0) (by simp only; omega) (by simp) (by simp), hH1]; simp
 obtain ⟨z1, z2, z3, rfl⟩ : ∃ a b c, w = AV.osl (nx + 18, 3) 0 a b c := by
  cases har with
  | vn _ h => exact ⟨_, _, _, rfl⟩
  | row _ _ _ _ _ _ _ => exact ⟨_, _, _, rfl⟩
 have hwp : part Try.prog 32 [.d (.int .i64 v), .d (.str fn), .osl (nx + 18, 3) 0 z1 z2 z3] 0 = some (.agg [.d (.int .i64 v), .d (.str fn), .osl (nx + 18, 3) 0 z1 z2 z3]) := by simp [part]
 refine ⟨.osl (nx + 18, 3) 0 z1 z2 z3, (nx + 18, 3), upd Hs (nx, 0) (.cells [.d (.int .i64 v), .d (.str fn), .osl (nx + 18, 3) 0 z1 z2 z3]), ns + 2, acall_body code54 ?_, by omega, fun p hp => ?_, ?_, by simp only; omega, by simp only; omega⟩
 ·simp [plc_raw, Nat.add_assoc, -part, p3_0, p3_1, p3_2, hroot, e1, hfk, hnode, hgl, part_key hgl, u1, u2, u3, lift_key, liftH_key, part_v0, part_fn0, part_n0, h16, ← hH1, h10, hrun, hobj, h4, hwp, Term.v, Term.fn]
 ·rw [upd_old (o := p) (i := nx) hp, hfr p (by omega) (fun e => by rw [e] at hp; simp only at hp; omega) (fun e => by rw [e] at hp; simp only at hp; omega)]
  exact hk1 p hp
 ·exact har.keep (by simp)
end Go.Proofs.Ytiafeijkifpfaaa.Am

/-
 A bank: Make, Drop, Len, New. No condition.
-/
namespace Go.Proofs.Ytiafeijkifpfaaa.Am
open Go Go.Proofs
set_option maxHeartbeats 4000000
set_option maxRecDepth 20000
set_option linter.unusedSimpArgs false
set_option linter.unusedVariables false
theorem kp_bump {L : List Nd} (hb : Bk L) {n : Nd} (hn : n ∈ L) {d : Int} (hb2 : Bk (bump L n.t d)) (i : Int) : kpL (bump L n.t d) i = if i = n.id then n.kept + d else kpL L i := by
 by_cases hi : hasI L i = true
 ·obtain ⟨m, hm, rfl⟩ := hasI_iff.1 hi
  obtain ⟨h1, h2⟩ := hb.kp_bump n.t d hb2 hm
  by_cases e : m.id = n.id
  ·rw [nodup_inj hb.ids hm hn e, if_pos rfl]
   exact (hb.kp_bump n.t d hb2 hn).1 rfl
  ·rw [if_neg e, h2 fun e2 => e (by rw [nodup_inj hb.ts hm hn e2]), hb.kp hm]
 ·have hi : hasI L i = false := by simpa using hi
  have h1 : hasI (bump L n.t d) i = false := hasI_ff.2 fun m hm e => by
   obtain ⟨q, hq, e1, _⟩ := bump_mem hm
   exact hasI_ff.1 hi q hq (by rw [e1, e])
  rw [kp_none hi, kp_none h1, if_neg fun e => hasI_ff.1 hi n hn e.symm]
abbrev ndG (L : List Nd) (n : Nd) : Gn := ⟨n.id, n.t.v, n.t.fn, n.t.args.map (idOf L)⟩
theorem ndG_mem {L : List Nd} {n : Nd} (h : n ∈ L) : ndG L n ∈ gr L := List.mem_map.2 ⟨n, h, rfl⟩
theorem BH.bump {H : Hp} {N : Nat} {o m1 m2 : Oid} {P : Int → Oid} {lim : Int} {L : List Nd} (h : BH H N o m1 m2 P lim L) (hb : Bk L) {n : Nd} (hn : n ∈ L) {d : Int} (hb2 : Bk (Am.bump L n.t d)) :
  BH (upd H (P n.id) (.cells ((ndG L n).key.map .d ++ [.d (.int .i64 (n.kept + d)), .d (.int .i64 (upI (gr L) n.id))]))) N o m1 m2 P lim (Am.bump L n.t d) := by
 unfold BH
 rw [bump_gr]
 refine BkH.turn h (ndG_mem hn) ?_ (fun p hp => upd_ne hp) (fun i hi => ?_) (fun _ _ => rfl) hb.g.ids
 ·rw [kp_bump hb hn hb2, if_pos rfl]; exact upd_same _ _ _
 ·rw [kp_bump hb hn hb2, if_neg hi]
def makeB (lim : Int) (L : List Nd) (t : Term) : (Int × Int) × List Nd :=
 if t.rightE ≠ 0 then ((0, t.rightE), L) else if lim < (layB L t.parts).length then ((0, 5), L) else ((idOf (layB L t.parts) t, 0), bump (layB L t.parts) t 1)
theorem foot_gr {o m1 m2 : Oid} {P : Int → Oid} {L L' : List Nd} {p : Oid} (h : ∀ g ∈ gr L', g ∈ gr L) (hp : Ft o m1 m2 P L' p) : Ft o m1 m2 P L p := foot_sub h hp
theorem foot_bump {o m1 m2 : Oid} {P : Int → Oid} {L : List Nd} {t : Term} {d : Int} {p : Oid} (hp : Ft o m1 m2 P (bump L t d) p) : Ft o m1 m2 P L p := by
 unfold Ft at hp; rw [bump_gr] at hp; exact hp
theorem lay_kp (L : List Nd) (l : List Term) : kpL (layB L l) = kpL L := by
 obtain ⟨M, e, hM, _⟩ := lay_ext l L
 exact funext fun i => by rw [e]; exact kp_append (fun n hn => (hM n hn).1) i
theorem filt_gr {L : List Nd} (h : Bk L) {p : Nd → Bool} (hc : ∀ n ∈ L, p n = true → ∀ a ∈ n.t.args, ∃ m ∈ L, p m = true ∧ m.t = a) : ∀ g ∈ gr (L.filter p), g ∈ gr L := by
 intro g hg
 obtain ⟨n, hn, rfl⟩ := List.mem_map.1 hg
 obtain ⟨h1, h2⟩ := List.mem_filter.1 hn
 have : n.t.args.map (idOf (L.filter p)) = n.t.args.map (idOf L) := List.map_congr_left fun a ha => h.idOf_filter (hc n h1 h2 a ha)
 rw [this]
 exact ndG_mem h1
theorem need_cl {L : List Nd} (h : Bk L) : ∀ n ∈ L, needed L n = true → ∀ a ∈ n.t.args, ∃ m ∈ L, needed L m = true ∧ m.t = a := by
 intro n hn hk a ha
 obtain ⟨m, hm, h0, hp⟩ := needed_iff.1 hk
 obtain ⟨q, hq, rfl⟩ := hasT_iff.1 (h.cl n hn a ha)
 exact ⟨q, hq, needed_iff.2 ⟨m, hm, h0, parts_args m.t hp ha⟩, rfl⟩
theorem kp_filter {L : List Nd} (h : Bk L) (p : Nd → Bool) {n : Nd} (hn : n ∈ L.filter p) (hf : Bk (L.filter p)) : kpL (L.filter p) n.id = kpL L n.id := by
 rw [hf.kp hn, h.kp (List.mem_filter.1 hn).1]
theorem sweep_bank {H : Hp} {N nx : Nat} {o m1 m2 : Oid} {P : Int → Oid} {lim : Int} {L : List Nd} (h : BH H N o m1 m2 P lim L) (hb : Bk L) (hN : N ≤ nx) (hsz : (L.length : Int) ≤ 17592186044416) {i : Int} (hl : LooseOnly L i) :
  ∃ H' nx', acall Try.prog plc 49 [.ptr o 0 3, .d (.int .i64 i)] H nx = some (.d (.tup []), H', nx') ∧ nx ≤ nx' ∧ BH H' N o m1 m2 P lim (L.filter (needed L)) ∧ ∀ p : Oid, p.1 < nx → ¬ Ft o m1 m2 P L p → H' p = H p := by
 obtain ⟨H', nx', c, g, b, k⟩ := sweep_ok (kpL L) (gr L).length (gr L) (Nat.le_refl _) hb.g hb.keyInj (by rw [gr_len]; exact hsz) H N nx o m1 m2 P lim i h hN
 have hs := swept_bank hb (swp_ok (kpL L) ((gr L).length + 1) (gr L) i (by omega) hb.g) hl
 rw [hs] at b
 refine ⟨H', nx', c, g, b.fun (fun y hy => ?_) (fun _ _ => rfl), k⟩
 obtain ⟨n, hn, rfl⟩ := List.mem_map.1 hy
 exact kp_filter hb _ hn hb.needed
theorem make_ok {H : Hp} {N nx : Nat} {o m1 m2 : Oid} {P : Int → Oid} {lim : Int} {L : List Nd} (h : BH H N o m1 m2 P lim L) (hb : Bk L) (hl : Held L) (hN : N ≤ nx) (hsz : (L.length : Int) ≤ 68719476736) (hkp : ∀ n ∈ L, n.kept ≤ 1099511627776)
  (t : Term) (hok : t.ok) (hts : (t.parts.length : Int) ≤ 68719476736) (hfit : t.rightE = 0 → t.fits) :
  ∃ H' nx' P', acall Try.prog plc 16 [.ptr o 0 3, .d (.agg t.enc)] H nx = some (.d (.tup [.int .i64 (makeB lim L t).1.1, .int .i64 (makeB lim L t).1.2]), H', nx') ∧ Did lim o m1 m2 H nx P L H' nx' P' (makeB lim L t).2 := by
 have hr := tright_ok t hok
 unfold makeB
 by_cases he : t.rightE = 0
 ·rw [if_neg (by simp [he])]
  have hf := hfit he
  obtain ⟨H1, hH1⟩ : ∃ H1, H1 = upd H (nx, 0) (.cells [.d (.int .i64 t.v), .d (.str t.fn), .d (.sl (encL t.args) t.args.length false none)]) := ⟨_, rfl⟩
  have hk1 : ∀ p : Oid, p.1 < nx → H1 p = H p := fun p hp => by rw [hH1, upd_old (o := p) (i := nx) hp]
  have hz1 : H1 (nx, 0) = some (.cells [.d (.int .i64 t.v), .d (.str t.fn), .d (.sl (encL t.args) t.args.length false none)]) := by rw [hH1]; exact upd_same _ _ _
  obtain ⟨H2, n2, P2, c2, d2⟩ := lay_ok t hok hf H1 (nx + 14) o m1 m2 P lim L (h.old (fun p hp => hk1 p (by omega)) (by omega)) hb (by omega)
  have hbk := Bk.lay t hf L hb
  have hlen : ((layB L t.parts).length : Int) ≤ 137438953472 := by
   obtain ⟨M, e, _, hM⟩ := lay_ext t.parts L
   have := congrArg List.length e
   rw [List.length_append] at this; omega
  have g2 := d2.le
  have hroot := d2.bh.root
  obtain ⟨es, c, e1, hel, hfk, _⟩ := d2.bh.look hbk.g.ids
  simp only at hroot e1 hfk
  rw [gr_len] at hel
  have hd1 : Did lim o m1 m2 H nx P L H2 n2 P2 (layB L t.parts) := ⟨d2.bh, by omega, fun p hp hF => (d2.fr p (by omega) hF).trans (hk1 p hp), fun p hp => (d2.ft p hp).imp id fun e => by omega⟩
  obtain ⟨v, fn, args⟩ := t
  simp [Term.enc] at hr c2
  simp only [Term.v, Term.fn, Term.args] at hH1 hz1
  by_cases hlim : lim < ((layB L (Term.mk v fn args).parts).length : Int)
  ·rw [if_pos hlim]
   obtain ⟨H3, n3, c3, g3, b3, k3⟩ := sweep_bank d2.bh hbk (nx := n2 + 13) (by omega) (by omega) (lay_loose hb hl hf)
   rw [lay_back hb hl hf] at b3
   refine ⟨H3, n3 + 2, P2, acall_body code16 ?_, b3.mono (by omega), by omega, fun p hp hF => ?_, fun p hp => ?_⟩
   ·simp [Term.enc, plc_raw, -part, p3_0, p3_1, p3_2, p3_t, hr, he, ← hH1, hz1, c2, hroot, e1, hel, hlim, c3, Nat.add_assoc]
   ·have h1 : ¬ Ft o m1 m2 P2 (layB L (Term.mk v fn args).parts) p := fun e => by
     rcases hd1.ft p e with e | e
     ·exact hF e
     ·omega
    rw [k3 p (by omega) h1]; exact hd1.fr p hp hF
   ·refine hd1.ft p (foot_gr (L' := L) (fun g hg => ?_) hp)
    have hg2 := filt_gr hbk (need_cl hbk) g
    rw [lay_back hb hl hf] at hg2
    exact hg2 hg
  ·rw [if_neg hlim]
   obtain ⟨n, hn, hnt, hni⟩ := idOf_mem (L := layB L (Term.mk v fn args).parts) (t := .mk v fn args) (lay_mem _ _ (parts_self _))
   obtain ⟨k, st, hfn⟩ := hfk _ (ndG_mem hn)
   have hnode := d2.bh.node _ (ndG_mem hn)
   simp only at hfn hnode
   rw [hbk.kp hn] at hnode
   have hgl : (ndG (layB L (Term.mk v fn args).parts) n).key.length = 19 := keyN_len (hbk.g.small _ (ndG_mem hn))
   have hkb : n.kept ≤ 1099511627776 := by
    obtain ⟨M, e, hM, _⟩ := lay_ext (Term.mk v fn args).parts L
    rw [e] at hn
    rcases List.mem_append.1 hn with hn | hn
    ·exact hkp n hn
    ·rw [(hM n hn).1]; decide
   have hk0 := hbk.kept n hn
   have hw : IntKind.i64.wrap (n.kept + 1) = n.kept + 1 := wrap_i64 (by omega) (by omega)
   have hb2 : Bk (bump (layB L (Term.mk v fn args).parts) n.t 1) := hbk.bump fun m hm _ => by have := hbk.kept m hm; omega
   have hbh := BH.bump d2.bh hbk hn hb2
   rw [hnt] at hbh
   rw [hni]
   rw [hni] at c2
   refine ⟨_, n2 + 26, P2, acall_body code16 ?_, hbh.mono (by omega), by omega, fun p hp hF => ?_, fun p hp => hd1.ft p (foot_bump hp)⟩
   ·simp [Term.enc, plc_raw, -part, -splice, p3_0, p3_1, p3_2, p3_t, hr, he, ← hH1, hz1, c2, hroot, e1, hel, hlim, hfn, hnode, hgl, part_kept hgl, splice_kept hgl, hw, Nat.add_assoc]
   ·have h1 : ¬ Ft o m1 m2 P2 (layB L (Term.mk v fn args).parts) p := fun e => by
     rcases hd1.ft p e with e | e
     ·exact hF e
     ·omega
    rw [upd_ne fun e => h1 (.inr (.inr (.inr ⟨_, ndG_mem hn, e⟩)))]; exact hd1.fr p hp hF
 ·rw [if_pos he]
  refine ⟨upd H (nx, 0) (.cells [.d (.int .i64 t.v), .d (.str t.fn), .d (.sl (encL t.args) t.args.length false none)]), nx + 13, P, acall_body code16 ?_, Did.refl h (by omega) (by omega) (fun p hp => upd_old (by omega) _ _ _) (fun p hp => upd_old hp _ _ _)⟩
  obtain ⟨v, fn, args⟩ := t
  simp [Term.enc] at hr ⊢
  simp [plc_raw, hr, he, Term.v, Term.fn, Term.args]
end Go.Proofs.Ytiafeijkifpfaaa.Am

/-
 A bank: Drop, Get, Len, New, and a nil bank. No condition.
-/
namespace Go.Proofs.Ytiafeijkifpfaaa.Am
open Go Go.Proofs
set_option maxHeartbeats 4000000
set_option maxRecDepth 20000
set_option linter.unusedSimpArgs false
set_option linter.unusedVariables false
def byId (L : List Nd) (i : Int) : Option Nd := L.find? fun n => decide (n.id = i)
theorem byId_some {L : List Nd} {i : Int} {n : Nd} (h : byId L i = some n) : n ∈ L ∧ n.id = i := ⟨List.mem_of_find?_eq_some h, by simpa using List.find?_some h⟩
theorem byId_none {L : List Nd} {i : Int} (h : byId L i = none) : ∀ n ∈ L, n.id ≠ i := fun n hn => by simpa using List.find?_eq_none.1 h n hn
def dropB (L : List Nd) (i : Int) : Int × List Nd := match byId L i with
 | none => (4, L)
 | some n => if n.kept = 0 then (4, L) else (0, (bump L n.t (-1)).filter (needed (bump L n.t (-1))))
def getB (L : List Nd) (i : Int) : Term × Int := match byId L i with
 | none => (.mk 0 (ByteArray.mk #[]) [], 4)
 | some n => (n.t, 0)
theorem dropB_ok {H : Hp} {N nx : Nat} {o m1 m2 : Oid} {P : Int → Oid} {lim : Int} {L : List Nd} (h : BH H N o m1 m2 P lim L) (hb : Bk L) (hl : Held L) (hN : N ≤ nx) (hsz : (L.length : Int) ≤ 68719476736) (hkp : ∀ n ∈ L, n.kept ≤ 1099511627776) (i : Int) :
  ∃ H' nx', acall Try.prog plc 18 [.ptr o 0 3, .d (.int .i64 i)] H nx = some (.d (.int .i64 (dropB L i).1), H', nx') ∧ Did lim o m1 m2 H nx P L H' nx' P (dropB L i).2 := by
 have hroot := h.root
 obtain ⟨es, c, e1, hel, hfk, hno⟩ := h.look hb.g.ids
 simp only at hroot e1 hfk
 unfold dropB
 cases hi : byId L i with
 | none =>
  have hfn := hno i (fun g hg e => by
   obtain ⟨n, hn, rfl⟩ := List.mem_map.1 hg
   exact byId_none hi n hn e)
  refine ⟨H, nx + 20, acall_body code18 ?_, Did.refl h (by omega) (by omega) (fun _ _ => rfl) fun _ _ => rfl⟩
  simp [plc_raw, -part, p3_1, hroot, e1, hfn, Nat.add_assoc]
 | some n =>
  obtain ⟨hn, rfl⟩ := byId_some hi
  obtain ⟨k, st, hfn⟩ := hfk _ (ndG_mem hn)
  have hnode := h.node _ (ndG_mem hn)
  simp only at hfn hnode
  rw [hb.kp hn] at hnode
  have hgl : (ndG L n).key.length = 19 := keyN_len (hb.g.small _ (ndG_mem hn))
  by_cases h0 : n.kept = 0
  ·simp only [if_pos h0]
   refine ⟨H, nx + 20, acall_body code18 ?_, Did.refl h (by omega) (by omega) (fun _ _ => rfl) fun _ _ => rfl⟩
   simp [plc_raw, -part, p3_1, hroot, e1, hfn, hnode, hgl, part_kept hgl, h0, Nat.add_assoc]
  ·simp only [if_neg h0]
   have hk0 := hb.kept n hn
   have hk1 := hkp n hn
   have hw : IntKind.i64.wrap (n.kept - 1) = n.kept - 1 := wrap_i64 (by omega) (by omega)
   have hb2 : Bk (bump L n.t (-1)) := hb.bump fun m hm e => by rw [nodup_inj hb.ts hm hn e]; omega
   have hbh := BH.bump h hb hn hb2
   obtain ⟨H1, hH1⟩ : ∃ H1, H1 = upd H (P n.id) (.cells ((ndG L n).key.map .d ++ [.d (.int .i64 (n.kept - 1)), .d (.int .i64 (upI (gr L) n.id))])) := ⟨_, rfl⟩
   rw [← Int.sub_eq_add_neg, ← hH1] at hbh
   obtain ⟨H3, n3, c3, g3, b3, k3⟩ := sweep_bank hbh hb2 (nx := nx + 30) (by omega) (by rw [bump_len]; omega) (drop_loose hb hl hn (by omega))
   refine ⟨H3, n3 + 1, acall_body code18 ?_, b3.mono (by omega), by omega, fun p hp hF => ?_, fun p hp => .inl ?_⟩
   ·simp [plc_raw, -part, -splice, p3_1, hroot, e1, hfn, hnode, hgl, part_kept hgl, splice_kept hgl, h0, hw, ← hH1, c3, Nat.add_assoc]
   ·have h1 : ¬ Ft o m1 m2 P (bump L n.t (-1)) p := fun e => hF (foot_bump e)
    rw [k3 p (by omega) h1, hH1, upd_ne fun e => hF (.inr (.inr (.inr ⟨_, ndG_mem hn, e⟩)))]
   ·exact foot_bump (foot_gr (filt_gr hb2 (need_cl hb2)) hp)
theorem get_ok {H : Hp} {N nx : Nat} {o m1 m2 : Oid} {P : Int → Oid} {lim : Int} {L : List Nd} (h : BH H N o m1 m2 P lim L) (hb : Bk L) (hN : N ≤ nx) (i : Int) :
  ∃ w q H' nx', acall Try.prog plc 20 [.ptr o 0 3, .d (.int .i64 i)] H nx = some (.tup [.agg [.d (.int .i64 (getB L i).1.v), .d (.str (getB L i).1.fn), w], .d (.int .i64 (getB L i).2)], H', nx') ∧ nx ≤ nx' ∧ (∀ p : Oid, p.1 < nx → H' p = H p) ∧ ArgsAt H' w q (getB L i).1.args ∧ nx ≤ q.1 ∧ q.1 < nx' := by
 have hroot := h.root
 obtain ⟨es, c, e1, hel, hfk, hno⟩ := h.look hb.g.ids
 have lo := h.ltO
 have l1 := h.lt1
 simp only at hroot e1 hfk lo l1
 have u1 : ∀ (H : Hp) j x, upd H (nx, j) x o = H o := fun H j x => upd_old (by omega) _ _ _
 have u2 : ∀ (H : Hp) j x, upd H (nx, j) x m1 = H m1 := fun H j x => upd_old (by omega) _ _ _
 unfold getB
 cases hi : byId L i with
 | none =>
  have hfn := hno i (fun g hg e => by
   obtain ⟨n, hn, rfl⟩ := List.mem_map.1 hg
   exact byId_none hi n hn e)
  simp only [Term.v, Term.fn, Term.args]
  refine ⟨.osl (nx + 14, 3) 0 0 1 0, (nx + 14, 3), upd (upd (upd (upd H (nx, 3) .vnil) (nx, 0) (.cells [.d (.int .i64 0), .d (.str { data := #[] }), .osl (nx, 3) 0 0 1 0])) (nx + 14, 3) .vnil) (nx, 0) (.cells [.d (.int .i64 0), .d (.str { data := #[] }), .osl (nx + 14, 3) 0 0 1 0]), nx + 16, acall_body code20 ?_, by omega, fun p hp => ?_, .vn _ (by simp), by simp only; omega, by simp only; omega⟩
  ·simp [plc_raw, hroot, e1, hfn, u1, u2, Nat.add_assoc]
  ·simp only [upd_old (o := p) (i := nx + 14) (by omega), upd_old (o := p) (i := nx) hp]
 | some n =>
  obtain ⟨hn, rfl⟩ := byId_some hi
  obtain ⟨k, st, hfn⟩ := hfk _ (ndG_mem hn)
  simp only at hfn
  obtain ⟨H1, hH1⟩ : ∃ H1, H1 = upd (upd H (nx, 3) .vnil) (nx, 0) (.cells [.d (.int .i64 0), .d (.str { data := #[] }), .osl (nx, 3) 0 0 1 0]) := ⟨_, rfl⟩
  have hk1 : ∀ p : Oid, p.1 < nx → H1 p = H p := fun p hp => by rw [hH1, upd_old hp, upd_old hp]
  obtain ⟨w, q, H2, n2, c2, g2, k2, a2, lq, lq2⟩ := told_ok n.t H1 N (nx + 18) o m1 m2 P lim L (kpL L) (upI (gr L)) (h.keep fun p hp => hk1 p (by have := h.foot_lt hp; omega)) hb (hasT_iff.2 ⟨n, hn, rfl⟩) (by omega)
  rw [hb.idOf hn] at c2
  obtain ⟨z1, z2, z3, rfl⟩ : ∃ a b c, w = AV.osl q 0 a b c := by
   generalize n.t.args = ts at a2
   cases a2 with
   | vn _ h => exact ⟨_, _, _, rfl⟩
   | row _ _ _ _ _ _ _ => exact ⟨_, _, _, rfl⟩
  have h20 : H2 (nx, 0) = some (.cells [.d (.int .i64 0), .d (.str { data := #[] }), .osl (nx, 3) 0 0 1 0]) := by rw [k2 (nx, 0) (by simp only; omega), hH1]; exact upd_same _ _ _
  refine ⟨.osl q 0 z1 z2 z3, q, upd H2 (nx, 0) (.cells [.d (.int .i64 n.t.v), .d (.str n.t.fn), .osl q 0 z1 z2 z3]), n2, acall_body code20 ?_, by omega, fun p hp => ?_, a2.keep (upd_ne fun e => by rw [e] at lq; simp only at lq; omega), by omega, lq2⟩
  ·have r1 := (hk1 o (by omega)).trans hroot
   have r2 := (hk1 m1 (by omega)).trans e1
   simp [plc_raw, r1, r2, hfn, ← hH1, c2, h20, Nat.add_assoc]
  ·rw [upd_old hp, k2 p (by omega), hk1 p hp]
theorem len_ok {H : Hp} {N : Nat} {o m1 m2 : Oid} {P : Int → Oid} {lim : Int} {L : List Nd} (h : BH H N o m1 m2 P lim L) (hb : Bk L) (nx : Nat) : acall Try.prog plc 23 [.ptr o 0 3] H nx = some (.d (.int .i64 L.length), H, nx + 9) := by
 have hroot := h.root
 obtain ⟨es, c, e1, hel, hfk, hno⟩ := h.look hb.g.ids
 simp only at hroot e1
 rw [gr_len] at hel
 refine acall_body code23 ?_
 simp [plc_raw, hroot, e1, hel, Nat.add_assoc]
theorem new_bad {lim : Int} (h : lim < 1 ∨ lim > 1000000) (H : Hp) (nx : Nat) : acall Try.prog plc 12 [.d (.int .i64 lim)] H nx = some (.d (.tup [.nilptr, .int .i64 1]), H, nx + 10) := by
 refine acall_body code12 ?_
 by_cases h1 : lim < 1
 ·simp [plc_raw, h1, Nat.add_assoc]
 ·have h2 : 1000000 < lim := by omega
  simp [plc_raw, h1, h2, Nat.add_assoc]
theorem new_ok {lim : Int} (h : 1 ≤ lim) (h2 : lim ≤ 1000000) (H : Hp) (nx : Nat) : ∃ H' nx', acall Try.prog plc 12 [.d (.int .i64 lim)] H nx = some (.tup [.ptr (nx + 12, 0) 0 3, .d (.int .i64 0)], H', nx') ∧ nx ≤ nx' ∧ (∀ p : Oid, p.1 < nx → H' p = H p) ∧ BH H' nx' (nx + 12, 0) (nx + 9, 0) (nx + 10, 0) (fun _ => (0, 0)) lim [] := by
 have h3 : ¬ lim < 1 := by omega
 have h4 : ¬ 1000000 < lim := by omega
 refine ⟨upd (upd (upd H (nx + 9, 0) (.mp shI [] 0)) (nx + 10, 0) (.mp shK [] 0)) (nx + 12, 0) (.cells [.d (.int .i64 lim), .map (nx + 9, 0), .map (nx + 10, 0)]), nx + 15, acall_body code12 ?_, by omega, fun p hp => ?_, ?_⟩
 ·simp [plc_raw, h3, h4, Nat.add_assoc]
 ·simp only [upd_old (o := p) (i := nx + 12) (by omega), upd_old (o := p) (i := nx + 10) (by omega), upd_old (o := p) (i := nx + 9) (by omega)]
 ·refine ⟨upd_same _ _ _, ⟨fun _ => 0, 0, by simp [gr], by simp [gr]⟩, ⟨fun _ => 0, 0, by simp [gr], by simp [gr]⟩, by simp [gr], by simp [gr], by simp, by simp, by simp, by simp [gr], by simp, by simp, by simp, by simp [gr], by simp [gr], by simp [gr]⟩
theorem make_nil (H : Hp) (nx : Nat) : ∃ H' nx', acall Try.prog plc 16 [.d .nilptr, .d (.agg [.int .i64 0, .str { data := #[] }, .sl [] 0 true (some true)])] H nx = some (.d (.tup [.int .i64 0, .int .i64 2]), H', nx') ∧ nx ≤ nx' ∧ ∀ p : Oid, p.1 < nx → H' p = H p := by
 refine ⟨upd (upd H (nx, 3) .vnil) (nx, 0) (.cells [.d (.int .i64 0), .d (.str { data := #[] }), .osl (nx, 3) 0 0 1 0]), nx + 7, acall_body code16 ?_, by omega, fun p hp => ?_⟩
 ·simp [plc_raw, Nat.add_assoc]
 ·rw [upd_old hp, upd_old hp]
theorem get_nil (i : Int) (H : Hp) (nx : Nat) : ∃ q H' nx', acall Try.prog plc 20 [.d .nilptr, .d (.int .i64 i)] H nx = some (.tup [.agg [.d (.int .i64 0), .d (.str { data := #[] }), .osl q 0 0 1 0], .d (.int .i64 2)], H', nx') ∧ nx ≤ nx' ∧ ∀ p : Oid, p.1 < nx → H' p = H p := by
 refine ⟨(nx + 6, 3), upd (upd (upd (upd H (nx, 3) .vnil) (nx, 0) (.cells [.d (.int .i64 0), .d (.str { data := #[] }), .osl (nx, 3) 0 0 1 0])) (nx + 6, 3) .vnil) (nx, 0) (.cells [.d (.int .i64 0), .d (.str { data := #[] }), .osl (nx + 6, 3) 0 0 1 0]), nx + 8, acall_body code20 ?_, by omega, fun p hp => ?_⟩
 ·simp [plc_raw, Nat.add_assoc]
 ·simp only [upd_old (o := p) (i := nx + 6) (by omega), upd_old (o := p) (i := nx) hp]
theorem drop_nil (i : Int) (H : Hp) (nx : Nat) : acall Try.prog plc 18 [.d .nilptr, .d (.int .i64 i)] H nx = some (.d (.int .i64 2), H, nx + 4) := by
 refine acall_body code18 ?_
 simp [plc_raw, Nat.add_assoc]
theorem len_nil (H : Hp) (nx : Nat) : acall Try.prog plc 23 [.d .nilptr] H nx = some (.d (.int .i64 0), H, nx + 4) := by
 refine acall_body code23 ?_
 simp [plc_raw, Nat.add_assoc]
end Go.Proofs.Ytiafeijkifpfaaa.Am

/-
 Rows that grow, of data; which terms are small. No condition.
-/
namespace Go.Proofs.Ytiafeijkifpfaaa.Am
open Go Go.Proofs
set_option maxHeartbeats 4000000
set_option maxRecDepth 20000
set_option linter.unusedSimpArgs false
set_option linter.unusedVariables false
inductive RowD (H : Hp) (sz : Nat) : AV → Oid → List D → Nat → Prop
 | nil (q : Oid) : RowD H sz (.d (.sl [] 0 true (some true))) q [] 0
 | vn (q : Oid) (h : H q = some .vnil) : RowD H sz (.osl q 0 0 1 0) q [] 0
 | row (q : Oid) (cs : List D) (n : Nat) (h : H q = some (.grow (cs.map .d))) (hl : cs.length = n * sz) : RowD H sz (.osl q 0 n sz cs.length) q cs n
theorem RowD.keep {H H' : Hp} {sz : Nat} {v : AV} {q : Oid} {cs : List D} {n : Nat} (h : RowD H sz v q cs n) (k : H' q = H q) : RowD H' sz v q cs n := by
 cases h with
 | nil => exact .nil _
 | vn _ h => exact .vn _ (k.trans h)
 | row _ _ _ h hl => exact .row _ _ _ (k.trans h) hl
theorem RowD.len {H : Hp} {sz : Nat} {v : AV} {q : Oid} {cs : List D} {n : Nat} (h : RowD H sz v q cs n) : cs.length = n * sz := by
 cases h with
 | nil => simp
 | vn _ h => simp
 | row _ _ _ h hl => exact hl
def RowD.next (v : AV) (q : Oid) (id : Nat) : Oid := match v with | .d _ => (id, 0) | _ => q
theorem append_row {T E : TypeId} {sz : Nat} {z : List AV} (hE : telem Try.prog T = some E) (hs : tsize Try.prog E = some sz) (hz : zeroCells Try.prog E = some z) (hzl : z.length = sz) (hb : tbytes Try.prog E = some true) (hk : tkind Try.prog T = 3) (hsz : 0 < sz) (hsz2 : sz ≤ 1024)
  {H : Hp} {v src : AV} {q : Oid} {cs xs : List D} {n : Nat} (h : RowD H sz v q cs n) (hn : n ≤ 33554432) (hx : xs.length = sz) (hsrc : srcCells Try.prog H sz T src = some (xs, 1, [])) (id : Nat) :
  ∃ ver H', appendO Try.prog H id T T v src = some (.osl (RowD.next v q id) 0 (n + 1) sz ver, H') ∧ RowD H' sz (.osl (RowD.next v q id) 0 (n + 1) sz ver) (RowD.next v q id) (cs ++ xs) (n + 1) ∧ ∀ p, p ≠ RowD.next v q id → H' p = H p := by
 have h0 : ¬ sz = 0 := by omega
 have hm : n * sz ≤ 34359738368 := Nat.le_trans (Nat.mul_le_mul hn hsz2) (by decide)
 cases h with
 | nil =>
  refine ⟨xs.length, upd H (id, 0) (.grow (xs.map .d)), ?_, ?_, fun p hp => upd_ne hp⟩
  ·simp only [RowD.next]
   have : ¬ 68719476736 < sz := by omega
   simp [appendO, hE, hs, hz, hsrc, hzl, hb, h0, hx, growO, this]
  ·rw [List.nil_append]; exact .row _ xs 1 (upd_same _ _ _) (by omega)
 | vn _ h =>
  refine ⟨xs.length, upd H q (.grow (xs.map .d)), ?_, ?_, fun p hp => upd_ne hp⟩
  ·simp only [RowD.next]
   have : ¬ 68719476736 < sz := by omega
   simp [appendO, hE, hs, hz, hsrc, hzl, hb, h0, hx, growO, h, this]
  ·rw [List.nil_append]; exact .row _ xs 1 (upd_same _ _ _) (by omega)
 | row _ _ _ h hl =>
  have h3 : List.take (n * sz) (cs.map AV.d) = cs.map .d := List.take_of_length_le (by simp [hl])
  have h4 : ¬ n * sz + sz ≤ n * sz := by omega
  have h5 : n * sz ≤ 68719476736 := by omega
  have hr := RowD.row (H := upd H q (.grow ((cs ++ xs).map .d))) (sz := sz) q (cs ++ xs) (n + 1) (upd_same _ _ _) (by rw [List.length_append, hl, hx, Nat.add_mul, Nat.one_mul])
  refine ⟨_, _, ?_, hr, fun p hp => upd_ne hp⟩
  simp only [RowD.next]
  have : ¬ 68719476736 < sz := by omega
  simp [appendO, hE, hs, hz, hsrc, hzl, hb, h0, hx, growO, h, hl, h3, h4, h5, this]
theorem append_int {H : Hp} {v : AV} {q : Oid} {cs : List D} {n : Nat} (h : RowD H 1 v q cs n) (hn : n ≤ 33554432) {e : Oid} {x : Int} (he : H e = some (.cells [.d (.int .i64 x)])) (id : Nat) :
  ∃ ver H', appendO Try.prog H id 50 50 v (.osl e 0 1 1 1) = some (.osl (RowD.next v q id) 0 (n + 1) 1 ver, H') ∧ RowD H' 1 (.osl (RowD.next v q id) 0 (n + 1) 1 ver) (RowD.next v q id) (cs ++ [.int .i64 x]) (n + 1) ∧ ∀ p, p ≠ RowD.next v q id → H' p = H p :=
 append_row (E := 3) (z := [.d (.int .i64 0)]) (by simp) (by simp) (by simp) (by simp) (by simp) (by simp) (by decide) (by decide) h hn (by simp) (by simp [srcCells, srcRaw, he]) id
theorem append_term {H : Hp} {v : AV} {q : Oid} {cs : List D} {n : Nat} (h : RowD H 3 v q cs n) (hn : n ≤ 33554432) {e : Oid} {a b c : D} (he : H e = some (.cells [.d a, .d b, .d c])) (id : Nat) :
  ∃ ver H', appendO Try.prog H id 30 30 v (.osl e 0 1 3 3) = some (.osl (RowD.next v q id) 0 (n + 1) 3 ver, H') ∧ RowD H' 3 (.osl (RowD.next v q id) 0 (n + 1) 3 ver) (RowD.next v q id) (cs ++ [a, b, c]) (n + 1) ∧ ∀ p, p ≠ RowD.next v q id → H' p = H p := by
 obtain ⟨z, hz, hzl⟩ : ∃ z, zeroCells Try.prog 32 = some z ∧ z.length = 3 := ⟨_, by simp; rfl, by simp⟩
 exact append_row (E := 32) (z := z) (by simp) (by simp) hz hzl (by simp) (by simp) (by decide) (by decide) h hn (by simp) (by simp [srcCells, srcRaw, he]) id
theorem small_ok (t : Term) (h : t.ok) : pcl Cp 15 [.agg t.enc] = some (.bool (decide (t.sizeW ≤ 300) && decide (t.depthW ≤ 100))) := by
 have h1 := rsize_ok t h
 have h2 := rdepth_ok t h
 obtain ⟨v, fn, args⟩ := t
 simp [Term.enc] at h1 h2 ⊢
 refine pcl_body code15 ?_
 by_cases hs : (Term.mk v fn args).sizeW ≤ 300
 ·by_cases hd : (Term.mk v fn args).depthW ≤ 100 <;> simp [plc_raw, h1, h2, hs, hd]
 ·simp [plc_raw, h1, h2, hs]
theorem parts_len (t : Term) : t.parts.length = t.size := by
 refine Term.ind (p := fun t => t.parts.length = t.size) (fun v fn args ih => ?_) t
 have hl : ∀ l : List Term, (∀ x ∈ l, x.parts.length = x.size) → (partsL l).length = sizeL l := by
  intro l
  induction l with
  | nil => intro _; rfl
  | cons t r ih2 => intro h; simp only [partsL, sizeL, List.length_append]; rw [h t (by simp), ih2 fun x hx => h x (by simp [hx])]
 simp only [Term.parts, Term.size, List.length_append, List.length_singleton, hl args ih]; omega
end Go.Proofs.Ytiafeijkifpfaaa.Am

/-
 One number just if it is one term: what is checked of each term. No condition.
-/
namespace Go.Proofs.Ytiafeijkifpfaaa.Am
open Go Go.Proofs
set_option maxHeartbeats 4000000
set_option maxRecDepth 20000
set_option linter.unusedSimpArgs false
set_option linter.unusedVariables false
abbrev ckT (l : List Term) (o : Oid) (vi vk : AV) (i : Nat) (id : Int) (j : Nat) : List AV := [.d (.sl (encL l) l.length false none), .junk, .d (.bool false), .ptr o 0 3, .junk, vi, vk, .d (.int .i64 i), .d (.int .i64 id), .junk, .d (.int .i64 j), .junk, .junk, .junk, .junk, .junk, .junk, .junk, .junk, .junk, .junk, .junk, .junk, .junk, .junk, .junk, .junk, .junk, .junk, .junk, .junk, .junk, .junk, .junk, .junk, .junk, .junk, .junk, .junk, .junk, .junk, .junk, .junk, .junk, .junk, .junk, .junk, .junk, .junk, .junk, .junk, .junk, .junk, .junk, .junk, .junk, .junk, .junk, .junk, .junk, .junk, .junk, .junk, .junk, .junk, .junk, .junk, .junk, .junk, .junk, .junk, .junk, .junk, .junk, .junk, .junk, .junk, .junk, .junk, .junk, .junk, .junk, .junk, .junk, .junk, .junk, .junk, .junk, .junk, .junk, .junk, .junk, .junk, .junk, .junk, .junk, .junk, .junk, .junk, .junk, .junk, .junk, .junk, .junk, .junk, .junk, .junk, .junk, .junk, .junk, .junk, .junk, .junk, .junk, .junk, .junk, .junk, .junk, .junk, .junk, .junk, .junk, .junk, .junk, .junk, .junk, .junk, .junk, .junk, .junk, .junk, .junk, .junk, .junk, .junk, .junk, .junk, .junk, .junk, .junk, .junk, .junk, .junk, .junk, .junk, .junk, .junk, .junk, .junk, .junk, .junk, .junk, .junk, .junk, .junk, .junk, .junk, .junk, .junk, .junk, .junk, .junk]
theorem RowD.pos {H : Hp} {sz : Nat} {v : AV} {q : Oid} {cs : List D} {n : Nat} (h : RowD H sz v q cs n) (hn : 0 < n) : v = .osl q 0 n sz cs.length ∧ H q = some (.grow (cs.map .d)) ∧ cs.length = n * sz := by
 cases h with
 | nil => omega
 | vn _ h => omega
 | row _ _ _ h hl => exact ⟨rfl, h, hl⟩
theorem RowD.lenI {H : Hp} {sz : Nat} {v : AV} {q : Oid} {cs : List D} {n : Nat} (h : RowD H sz v q cs n) {T : TypeId} (hk : tkind Try.prog T = 3) : lenD Try.prog T v = some (.int .i64 n) := by
 cases h with
 | nil => simp [hk]
 | vn _ h => simp [hk]
 | row _ _ _ h hl => simp [hk]
theorem RowD.form {H : Hp} {sz : Nat} {v : AV} {q : Oid} {cs : List D} {n : Nat} (h : RowD H sz v q cs n) : (v = .d (.sl [] 0 true (some true)) ∧ n = 0) ∨ ∃ s ver, v = .osl q 0 n s ver := by
 cases h with
 | nil => exact .inl ⟨rfl, rfl⟩
 | vn _ h => exact .inr ⟨_, _, rfl⟩
 | row _ _ _ h hl => exact .inr ⟨_, _, rfl⟩
theorem check_loop (l : List Term) (o : Oid) {H : Hp} {vi vk : AV} {q1 q2 : Oid} {ids : List Int} {ks : List Term} (hlen : ids.length = ks.length) (hks : ks.length ≤ 1000000) (r1 : RowD H 1 vi q1 (ids.map (D.int .i64 ·)) ks.length) (r2 : RowD H 3 vk q2 (encL ks) ks.length) (hl : l.length ≤ 9223372036854775807) {i : Nat} (hi : i < l.length) (hok : l[i].ok) (hko : ∀ k ∈ ks, k.ok) (id : Int)
  (hsame : ∀ (j : Nat) (hj : j < ks.length), decide (ids[j]'(by omega) = id) = ks[j].sameB l[i]) (nx : Nat) :
  ∃ nx', aloop Try.prog plc b4_1 ⟨[true, false, true, true, false, true, true, true, true, false, true, true, true, true, true, false, true, true, true, false, false, false, false, false, false, false, false, false, false, false, false, false, false, false, false, false, false, false, false, true, true, false, false, false, false, false, false, false, false, false, false, false, false, false, false, false, false, false, false, false, false, false, false, false, false, false, false, false, false, false, false, false, false, false, false, false, false, false, false, false, false, true, true, true, true, true, true, true, true, true, true, true, true, true, true, true, true, true, true, true, true, true, true, true, true, true, true, true, true, true, true, true, true, true, true, true, true, true, true, true, true, true, true, true, true, true, true, true, true, true, true, true, true, true, true, true, true, true, true, true, true, true, true, true, true, true, true, true, true, true, true, true, true, true, true, true, true, true, true, true, true, true], none⟩ ⟨ckT l o vi vk i id 0, H, nx⟩ = some (.exit 2, ⟨ckT l o vi vk i id ks.length, H, nx'⟩) ∧ nx ≤ nx' := by
 obtain ⟨v, fn, args, a⟩ := at_ok hl hi
 have hget : l[i] = .mk v fn args := a.get
 rw [hget] at hok hsame
 have key := loop_ruleN (P := Try.prog) (pol := plc) (c := b4_1) (m := ⟨[true, false, true, true, false, true, true, true, true, false, true, true, true, true, true, false, true, true, true, false, false, false, false, false, false, false, false, false, false, false, false, false, false, false, false, false, false, false, false, true, true, false, false, false, false, false, false, false, false, false, false, false, false, false, false, false, false, false, false, false, false, false, false, false, false, false, false, false, false, false, false, false, false, false, false, false, false, false, false, false, false, true, true, true, true, true, true, true, true, true, true, true, true, true, true, true, true, true, true, true, true, true, true, true, true, true, true, true, true, true, true, true, true, true, true, true, true, true, true, true, true, true, true, true, true, true, true, true, true, true, true, true, true, true, true, true, true, true, true, true, true, true, true, true, true, true, true, true, true, true, true, true, true, true, true, true, true, true, true, true, true, true], none⟩)
  (N := fun s : Nat × Nat => s.2) (tm := fun s => ckT l o vi vk i id s.1) (Hf := fun _ => H) (I := fun s => s.1 ≤ ks.length ∧ nx ≤ s.2)
  (μ := fun s => ks.length - s.1) (res := fun _ => ()) (R := fun _ e st => e = .exit 2 ∧ ∃ nx', st = ⟨ckT l o vi vk i id ks.length, H, nx'⟩ ∧ nx ≤ nx')
  (fun s hI => by
   obtain ⟨j, n⟩ := s
   obtain ⟨hj, hle⟩ := hI
   simp only at hj hle
   rcases Nat.lt_or_ge j ks.length with hlt | hlt
   ·obtain ⟨rfl, e1, l1⟩ := r1.pos (by omega)
    obtain ⟨rfl, e2, l2⟩ := r2.pos (by omega)
    obtain ⟨v2, fn2, args2, b⟩ := at_ok (ts := ks) (by omega) hlt
    have hget2 : ks[j] = .mk v2 fn2 args2 := b.get
    have hs := same_ok (.mk v2 fn2 args2) (hko _ b.mem) (.mk v fn args) hok
    have hse := hsame j hlt
    rw [hget2] at hse
    rw [← hse] at hs
    simp [Term.enc] at hs
    have hjl : (j : Int) < (ks.length : Int) := by omega
    have hji : j < ids.length := by omega
    have hx : (List.map AV.d (ids.map (D.int .i64 ·)))[j]? = some (.d (.int .i64 ids[j])) := by simp [hji]
    have hd : List.take 3 (List.drop (j * 3) (List.map AV.d (encL ks))) = [.d (.int .i64 v2), .d (.str fn2), .d (.sl (encL args2) args2.length false none)] := by
     rw [← List.map_drop, ← List.map_take, b.cells]; rfl
    obtain ⟨cs1, hcs1⟩ : ∃ cs, cs = ids.map (D.int .i64 ·) := ⟨_, rfl⟩
    obtain ⟨cs2, hcs2⟩ : ∃ cs, cs = encL ks := ⟨_, rfl⟩
    rw [← hcs1] at e1 l1 hx ⊢
    rw [← hcs2] at e2 l2 hd ⊢
    have hw : IntKind.i64.wrap ((j : Int) + 1) = (j : Int) + 1 := wrap_i64 (by omega) (by omega)
    have h33 : j * 3 + 3 ≤ ks.length * 3 := by omega
    simp [b4_1, plc_raw, a.lti, a.sz, a.ltm, a.cells, a.le3, e1, e2, l1, l2, hjl, hx, hd, hs, hw, h33, Nat.add_assoc]
    exact .next (j + 1, _) rfl rfl rfl ⟨hlt, by simp only; omega⟩ (by simp only; omega) rfl
   ·obtain rfl : j = ks.length := Nat.le_antisymm hj hlt
    rcases r1.form with ⟨rfl, h0⟩ | ⟨s1, ver, rfl⟩
    ·simp [b4_1, plc_raw, h0, Nat.add_assoc]
     exact .fin _ _ ⟨rfl, n + 4, by simp [h0], by omega⟩
    ·simp [b4_1, plc_raw, Nat.add_assoc]
     exact .fin _ _ ⟨rfl, n + 4, by simp, by omega⟩) (0, nx) ⟨Nat.zero_le _, Nat.le_refl _⟩
 obtain ⟨e, st, hrun, rfl, nx', rfl, hle⟩ := key
 exact ⟨nx', hrun, hle⟩
end Go.Proofs.Ytiafeijkifpfaaa.Am

/-
 One number just if it is one term: the terms are laid. No condition.
-/
namespace Go.Proofs.Ytiafeijkifpfaaa.Am
open Go Go.Proofs
set_option maxHeartbeats 4000000
set_option maxRecDepth 20000
set_option linter.unusedSimpArgs false
set_option linter.unusedVariables false
theorem alive_ok : pcl Cp 14 [] = some (.bool true) := by
 have h : acall Try.prog plc 14 [] (fun _ => none) 0 = some (.d (.bool true), fun _ => none, 0) := by
  refine acall_of Try.prog plc ?_
  unfold callF
  have : plc.ext 14 = some aliveX := rfl
  rw [this]
  rfl
 unfold pcl
 simp [h, reify]
def cntT (ks : List Term) (t : Term) : Nat := ks.countP fun x => x.sameB t
structure OnS where
 i : Nat
 H : Hp
 N : Nat
 P : Int → Oid
 L : List Nd
 ks : List Term
 vi : AV
 q1 : Oid
 vk : AV
 q2 : Oid
structure OnI (l : List Term) (o m1 m2 : Oid) (s : OnS) : Prop where
 le : s.i ≤ l.length
 bh : BH s.H s.N o m1 m2 s.P 1000000 s.L
 bk : Bk s.L
 lv : Held s.L
 cnt : ∀ n ∈ s.L, n.kept = cntT s.ks n.t
 has : ∀ k ∈ s.ks, hasT s.L k = true
 r1 : RowD s.H 1 s.vi s.q1 ((s.ks.map (idOf s.L)).map (D.int .i64 ·)) s.ks.length
 r2 : RowD s.H 3 s.vk s.q2 (encL s.ks) s.ks.length
 kl : s.ks.length ≤ s.i
 sz : s.L.length ≤ 300 * s.i
 lt1 : s.q1.1 < s.N
 lt2 : s.q2.1 < s.N
 no1 : ¬ Ft o m1 m2 s.P s.L s.q1
 no2 : ¬ Ft o m1 m2 s.P s.L s.q2
 n12 : s.q1 ≠ s.q2
 sub : ∀ k ∈ s.ks, k ∈ l
abbrev onT (l : List Term) (o : Oid) (vi vk : AV) (i : Nat) : List AV := [.d (.sl (encL l) l.length false none), .junk, .d (.bool false), .ptr o 0 3, .junk, vi, vk, .d (.int .i64 i), .junk, .junk, .junk, .junk, .junk, .junk, .junk, .junk, .junk, .junk, .junk, .junk, .junk, .junk, .junk, .junk, .junk, .junk, .junk, .junk, .junk, .junk, .junk, .junk, .junk, .junk, .junk, .junk, .junk, .junk, .junk, .junk, .junk, .junk, .junk, .junk, .junk, .junk, .junk, .junk, .junk, .junk, .junk, .junk, .junk, .junk, .junk, .junk, .junk, .junk, .junk, .junk, .junk, .junk, .junk, .junk, .junk, .junk, .junk, .junk, .junk, .junk, .junk, .junk, .junk, .junk, .junk, .junk, .junk, .junk, .junk, .junk, .junk, .junk, .junk, .junk, .junk, .junk, .junk, .junk, .junk, .junk, .junk, .junk, .junk, .junk, .junk, .junk, .junk, .junk, .junk, .junk, .junk, .junk, .junk, .junk, .junk, .junk, .junk, .junk, .junk, .junk, .junk, .junk, .junk, .junk, .junk, .junk, .junk, .junk, .junk, .junk, .junk, .junk, .junk, .junk, .junk, .junk, .junk, .junk, .junk, .junk, .junk, .junk, .junk, .junk, .junk, .junk, .junk, .junk, .junk, .junk, .junk, .junk, .junk, .junk, .junk, .junk, .junk, .junk, .junk, .junk, .junk, .junk, .junk, .junk, .junk, .junk, .junk, .junk, .junk, .junk, .junk, .junk]
def OnR (l : List Term) (o m1 m2 : Oid) (_ : Unit) (e : Ex) (st : St) : Prop :=
 AtRet 2 (.d (.bool true)) e st ∨ (e = .exit 0 ∧ ∃ s, OnI l o m1 m2 s ∧ st = ⟨onT l o s.vi s.vk l.length, s.H, s.N⟩)
theorem cnt_le (ks : List Term) (t : Term) : cntT ks t ≤ ks.length := List.countP_le_length
theorem cnt_append (ks : List Term) (x t : Term) : cntT (ks ++ [x]) t = cntT ks t + if x.sameB t then 1 else 0 := by
 unfold cntT
 rw [List.countP_append, List.countP_cons, List.countP_nil, Nat.zero_add]
theorem RowD.next_or (v : AV) (q : Oid) (id : Nat) : RowD.next v q id = (id, 0) ∨ RowD.next v q id = q := by
 unfold RowD.next; split
 ·exact .inl rfl
 ·exact .inr rfl
theorem cnt_zero {ks : List Term} {t : Term} (h : t ∉ ks) : cntT ks t = 0 := by
 unfold cntT
 rw [List.countP_eq_zero]
 intro x hx e
 rw [(sameB_eq _ _).1 e] at hx
 exact h hx
theorem RowD.lt_next {v : AV} {q : Oid} {id N : Nat} (h : q.1 < N) (h2 : id < N) : (RowD.next v q id).1 < N := by
 unfold RowD.next; split
 ·exact h2
 ·exact h
theorem once_loop (l : List Term) (hl : l.length ≤ 50) (hok : ∀ x ∈ l, x.ok) (hsz : ∀ x ∈ l, (x.size : Int) ≤ 4611686018427387904) (o m1 m2 : Oid) (s0 : OnS) (h0 : OnI l o m1 m2 s0) (hi : s0.i = 0) :
  ∃ e st, aloop Try.prog plc b4_2 ⟨[true, false, true, true, false, true, true, true, false, false, false, true, true, true, true, false, true, true, true, false, false, false, false, false, false, false, false, false, false, false, false, false, false, false, false, false, false, false, false, false, false, false, false, false, false, false, false, false, false, false, false, false, false, false, false, false, false, false, false, false, false, false, false, false, false, false, false, false, false, false, false, false, false, false, false, false, false, false, false, false, false, false, false, false, false, false, false, false, false, false, false, false, true, true, true, true, true, true, true, true, true, true, true, true, true, true, true, true, true, true, true, true, true, true, true, true, true, true, true, true, true, true, true, true, true, true, true, true, true, true, true, true, true, true, true, true, true, true, true, true, true, true, true, true, true, true, true, true, true, true, true, true, true, true, true, true, true, true, true, true, true, true], none⟩ ⟨onT l o s0.vi s0.vk 0, s0.H, s0.N⟩ = some (e, st) ∧ OnR l o m1 m2 () e st := by
 have key := loop_ruleN (P := Try.prog) (pol := plc) (c := b4_2) (m := ⟨[true, false, true, true, false, true, true, true, false, false, false, true, true, true, true, false, true, true, true, false, false, false, false, false, false, false, false, false, false, false, false, false, false, false, false, false, false, false, false, false, false, false, false, false, false, false, false, false, false, false, false, false, false, false, false, false, false, false, false, false, false, false, false, false, false, false, false, false, false, false, false, false, false, false, false, false, false, false, false, false, false, false, false, false, false, false, false, false, false, false, false, false, true, true, true, true, true, true, true, true, true, true, true, true, true, true, true, true, true, true, true, true, true, true, true, true, true, true, true, true, true, true, true, true, true, true, true, true, true, true, true, true, true, true, true, true, true, true, true, true, true, true, true, true, true, true, true, true, true, true, true, true, true, true, true, true, true, true, true, true, true, true], none⟩)
  (N := fun s : OnS => s.N) (tm := fun s => onT l o s.vi s.vk s.i) (Hf := fun s => s.H) (I := OnI l o m1 m2) (μ := fun s => l.length - s.i) (res := fun _ => ()) (R := OnR l o m1 m2)
  (fun s hI => by
   rcases Nat.lt_or_ge s.i l.length with hlt | hlt
   ·obtain ⟨v, fn, args, a⟩ := at_ok (by omega) hlt
    have hget : l[s.i] = .mk v fn args := a.get
    have hsm := small_ok (.mk v fn args) (hok _ a.mem)
    have hts := hsz _ a.mem
    simp [Term.enc] at hsm
    by_cases hS : (Term.mk v fn args).sizeW ≤ 300 ∧ (Term.mk v fn args).depthW ≤ 100
    ·rw [sizeW_eq _ hts] at hS
     have h300 : (Term.mk v fn args).size ≤ 300 := by omega
     rw [sizeW_eq _ hts] at hsm
     have hpl := parts_len (.mk v fn args)
     have hk50 := hI.kl
     have hi50 := hI.le
     have hLs := hI.sz
     have hm := make_ok hI.bh hI.bk hI.lv (nx := s.N + 21) (by omega) (by omega) (fun n hn => by rw [hI.cnt n hn]; have := cnt_le s.ks n.t; omega) (.mk v fn args) (hok _ a.mem) (by omega) (fun he => shape_fits _ ((rightE_iff _ hts).1 he).1)
     obtain ⟨H1, n1, P1, c1, d1⟩ := hm
     simp only [Term.enc] at c1
     have g1 := d1.le
     by_cases he : (Term.mk v fn args).rightE = 0
     ·have hnl : ¬ (1000000 : Int) < ((layB s.L (Term.mk v fn args).parts).length : Int) := by
       obtain ⟨M, e, _, hM⟩ := lay_ext (Term.mk v fn args).parts s.L
       have := congrArg List.length e
       rw [List.length_append] at this; omega
      have hmk : makeB 1000000 s.L (.mk v fn args) = ((idOf (layB s.L (Term.mk v fn args).parts) (.mk v fn args), 0), bump (layB s.L (Term.mk v fn args).parts) (.mk v fn args) 1) := by
       unfold makeB; rw [if_neg (by simp [he]), if_neg hnl]
      rw [hmk] at c1 d1
      simp only at c1 d1
      have hf : (Term.mk v fn args).fits := shape_fits _ ((rightE_iff _ hts).1 he).1
      obtain ⟨L1, hL1⟩ : ∃ L1, L1 = layB s.L (Term.mk v fn args).parts := ⟨_, rfl⟩
      obtain ⟨M, hLM, hM, hMl⟩ := lay_ext (Term.mk v fn args).parts s.L
      have hb1 : Bk L1 := hL1 ▸ Bk.lay _ hf _ hI.bk
      have hin : hasT L1 (.mk v fn args) = true := by rw [hL1]; exact lay_mem _ _ (parts_self _)
      have hlv : Held (bump L1 (.mk v fn args) 1) := by rw [hL1]; exact lay_live hI.bk hI.lv hf
      have hid1 : ∀ k ∈ s.ks, idOf L1 k = idOf s.L k := fun k hk => by rw [hL1]; exact lay_id (hI.has k hk)
      have hh1 : ∀ k ∈ s.ks, hasT L1 k = true := fun k hk => by rw [hL1]; exact lay_has (hI.has k hk)
      rw [← hL1] at c1 d1 hLM
      obtain ⟨id, hid⟩ : ∃ id, id = idOf L1 (.mk v fn args) := ⟨_, rfl⟩
      rw [← hid] at c1
      have hq1 : H1 s.q1 = s.H s.q1 := d1.fr _ (by have := hI.lt1; omega) hI.no1
      have hq2 : H1 s.q2 = s.H s.q2 := d1.fr _ (by have := hI.lt2; omega) hI.no2
      obtain ⟨n2, ck, gk⟩ := check_loop l o (H := H1) (vi := s.vi) (vk := s.vk) (q1 := s.q1) (q2 := s.q2) (ids := s.ks.map (idOf s.L)) (ks := s.ks) (by simp) (by omega) (hI.r1.keep hq1) (hI.r2.keep hq2) (by omega) hlt (by rw [hget]; exact hok _ a.mem) (fun k hk => hok _ (hI.sub k hk)) id (fun j hj => by
       have hkm : s.ks[j] ∈ s.ks := List.getElem_mem hj
       rw [hget, List.getElem_map, ← hid1 _ hkm, hid]
       rw [Bool.eq_iff_iff, decide_eq_true_eq, sameB_eq]
       exact ⟨fun e => hb1.id_inj (hh1 _ hkm) hin e, fun e => by rw [e]⟩) (n1 + 3)
      simp [ckT] at ck
      obtain ⟨Ha, hHa⟩ : ∃ Ha, Ha = upd H1 (n2 + 2, 0) (.cells [.d (.int .i64 id)]) := ⟨_, rfl⟩
      have lt1 := hI.lt1
      have lt2 := hI.lt2
      have hne : ∀ (p : Oid) (k j : Nat), p.1 < n1 → p ≠ (n2 + k, j) := fun p k j hp e => by rw [e] at hp; simp only at hp; omega
      obtain ⟨ver1, H2, c2, ra, ka⟩ := append_int (H := Ha) ((hI.r1.keep hq1).keep (by rw [hHa]; exact upd_ne (hne _ 2 0 (by omega)))) (by omega) (e := (n2 + 2, 0)) (x := id) (by rw [hHa]; exact upd_same _ _ _) (n2 + 3)
      obtain ⟨Hb, hHb⟩ : ∃ Hb, Hb = upd H2 (n2 + 10, 0) (.cells [.d (.int .i64 v), .d (.str fn), .d (.sl (encL args) args.length false none)]) := ⟨_, rfl⟩
      obtain ⟨qa, hqa⟩ : ∃ qa, qa = RowD.next s.vi s.q1 (n2 + 3) := ⟨_, rfl⟩
      obtain ⟨qb, hqb⟩ : ∃ qb, qb = RowD.next s.vk s.q2 (n2 + 11) := ⟨_, rfl⟩
      have hqa' : qa = (n2 + 3, 0) ∨ qa = s.q1 := hqa ▸ RowD.next_or _ _ _
      have hqb' : qb = (n2 + 11, 0) ∨ qb = s.q2 := hqb ▸ RowD.next_or _ _ _
      rw [← hqa] at c2 ra ka
      have nq2a : s.q2 ≠ qa := by
       rcases hqa' with e | e
       ·rw [e]; exact hne _ 3 0 (by omega)
       ·rw [e]; exact hI.n12.symm
      have hq2b : Hb s.q2 = H1 s.q2 := by
       rw [hHb, upd_ne (hne _ 10 0 (by omega)), ka _ nq2a, hHa, upd_ne (hne _ 2 0 (by omega))]
      obtain ⟨ver2, H3, c3, rb, kb⟩ := append_term (H := Hb) ((hI.r2.keep hq2).keep hq2b) (by omega) (e := (n2 + 10, 0)) (by rw [hHb]; exact upd_same _ _ _) (n2 + 11)
      rw [← hqb] at c3 rb kb
      simp [b4_2, plc_raw, a.lti, a.sz, a.ltm, a.cells, a.le3, a.w, hsm, hS, c1, ck, ← hHa, c2, ← hHb, c3, Nat.add_assoc]
      have bft : ∀ p : Oid, Ft o m1 m2 P1 (bump L1 (.mk v fn args) 1) p → p.1 < n1 ∧ p ≠ s.q1 ∧ p ≠ s.q2 := fun p hp => by
       have h1 := d1.bh.foot_lt hp
       rcases d1.ft p hp with e | e
       ·exact ⟨h1, fun e2 => hI.no1 (e2 ▸ e), fun e2 => hI.no2 (e2 ▸ e)⟩
       ·exact ⟨h1, fun e2 => by rw [e2] at e; omega, fun e2 => by rw [e2] at e; omega⟩
      have nqb : ∀ p : Oid, p.1 < n1 → p ≠ s.q2 → p ≠ qb := fun p hp h2 => by
       rcases hqb' with e | e
       ·rw [e]; exact hne _ 11 0 hp
       ·rw [e]; exact h2
      have nqa : ∀ p : Oid, p.1 < n1 → p ≠ s.q1 → p ≠ qa := fun p hp h2 => by
       rcases hqa' with e | e
       ·rw [e]; exact hne _ 3 0 hp
       ·rw [e]; exact h2
      have hH3 : ∀ p : Oid, p.1 < n1 → p ≠ s.q1 → p ≠ s.q2 → H3 p = H1 p := fun p hp h1 h2 => by
       rw [kb _ (nqb p hp h2), hHb, upd_ne (hne _ 10 0 hp), ka _ (nqa p hp h1), hHa, upd_ne (hne _ 2 0 hp)]
      have nab : qa ≠ qb := by
       rcases hqa' with e | e
       ·rcases hqb' with e2 | e2
        ·rw [e, e2]; simp
        ·rw [e, e2]; exact (hne _ 3 0 (by omega)).symm
       ·rcases hqb' with e2 | e2
        ·rw [e, e2]; exact hne _ 11 0 (by omega)
        ·rw [e, e2]; exact hI.n12
      have na10 : qa ≠ (n2 + 10, 0) := by
       rcases hqa' with e | e
       ·rw [e]; simp
       ·rw [e]; exact hne _ 10 0 (by omega)
      have ha3 : H3 qa = H2 qa := by rw [kb _ nab, hHb, upd_ne na10]
      have hla : qa.1 < n2 + 16 := by
       rcases hqa' with e | e
       ·rw [e]; simp
       ·rw [e]; omega
      have hlb : qb.1 < n2 + 16 := by
       rcases hqb' with e | e
       ·rw [e]; simp
       ·rw [e]; omega
      have hids : (s.ks ++ [Term.mk v fn args]).map (idOf (bump L1 (.mk v fn args) 1)) = s.ks.map (idOf s.L) ++ [id] := by
       have : idOf (bump L1 (.mk v fn args) 1) = idOf L1 := funext fun u => bump_find _ _ _ u
       rw [this, List.map_append, List.map_cons, List.map_nil, ← hid]
       congr 1
       exact List.map_congr_left fun k hk => hid1 k hk
      have hnx : OnI l o m1 m2 ⟨s.i + 1, H3, n2 + 16, P1, bump L1 (.mk v fn args) 1, s.ks ++ [.mk v fn args], .osl qa 0 (s.ks.length + 1) 1 ver1, qa, .osl qb 0 (s.ks.length + 1) 3 ver2, qb⟩ := by
       refine ⟨hlt, (d1.bh.keep fun p hp => ?_).mono (show n1 ≤ n2 + 16 by omega), hb1.bump fun m hm _ => by have := hb1.kept m hm; omega, hlv, fun n hn => ?_, fun k hk => ?_, ?_, ?_, by simp only [List.length_append, List.length_singleton]; omega, ?_, hla, hlb, fun e => ?_, fun e => ?_, nab, fun k hk => ?_⟩
       ·obtain ⟨h1, h2, h3⟩ := bft p hp
        exact hH3 p h1 h2 h3
       ·obtain ⟨m, hm, _, e2, e3, e4⟩ := bump_mem hn
        have hmk : m.kept = cntT s.ks m.t := by
         rw [hLM] at hm
         rcases List.mem_append.1 hm with hm | hm
         ·exact hI.cnt m hm
         ·rw [(hM m hm).1, cnt_zero]; rfl
          intro hk
          obtain ⟨p, hp, hpe⟩ := hasT_iff.1 (hI.has _ hk)
          have h4 := hb1.ts
          rw [hLM, List.map_append, List.nodup_append] at h4
          exact h4.2.2 p.t (List.mem_map.2 ⟨p, hp, rfl⟩) m.t (List.mem_map.2 ⟨m, hm, rfl⟩) hpe
        simp only
        rw [cnt_append, ← e2]
        by_cases e : m.t = .mk v fn args
        ·rw [e3 e, hmk, if_pos (by rw [sameB_eq, e])]; simp
        ·rw [e4 e, hmk, if_neg (by rw [sameB_eq]; exact fun h => e h.symm)]; simp
       ·rw [bump_has]
        rcases List.mem_append.1 hk with hk | hk
        ·exact hh1 k hk
        ·rw [List.mem_singleton] at hk; subst hk; exact hin
       ·simp only
        rw [hids, List.map_append, List.length_append, List.length_singleton]
        exact ra.keep ha3
       ·simp only
        rw [encL_append, List.length_append, List.length_singleton]
        exact rb
       ·simp only
        rw [bump_len, hLM, List.length_append]; omega
       ·obtain ⟨h1, h2, h3⟩ := bft _ e
        exact nqa _ h1 h2 rfl
       ·obtain ⟨h1, h2, h3⟩ := bft _ e
        exact nqb _ h1 h3 rfl
       ·rcases List.mem_append.1 hk with hk | hk
        ·exact hI.sub k hk
        ·rw [List.mem_singleton] at hk; subst hk; exact a.mem
      exact .next _ rfl rfl rfl hnx (by simp only; omega) rfl
     ·have hmk : makeB 1000000 s.L (.mk v fn args) = ((0, (Term.mk v fn args).rightE), s.L) := by unfold makeB; rw [if_pos he]
      rw [hmk] at c1 d1
      simp only at c1 d1
      simp [b4_2, plc_raw, a.lti, a.sz, a.ltm, a.cells, a.le3, a.w, hsm, hS, c1, he, Nat.add_assoc]
      have hft : ∀ p : Oid, p.1 < s.N → ¬ Ft o m1 m2 s.P s.L p → ¬ Ft o m1 m2 P1 s.L p := fun p hp hF e => by
       rcases d1.ft p e with e | e
       ·exact hF e
       ·omega
      have hnx : ∀ n, n1 ≤ n → OnI l o m1 m2 ⟨s.i + 1, H1, n, P1, s.L, s.ks, s.vi, s.q1, s.vk, s.q2⟩ := fun n hn => ⟨hlt, d1.bh.mono hn, hI.bk, hI.lv, hI.cnt, hI.has, hI.r1.keep (d1.fr _ (by have := hI.lt1; omega) hI.no1), hI.r2.keep (d1.fr _ (by have := hI.lt2; omega) hI.no2), by simp only; omega, by simp only; omega, by have := hI.lt1; simp only; omega, by have := hI.lt2; simp only; omega, hft _ hI.lt1 hI.no1, hft _ hI.lt2 hI.no2, hI.n12, hI.sub⟩
      exact .next _ rfl rfl rfl (hnx (n1 + 5) (by omega)) (by simp only; omega) rfl
    ·have hb : (decide ((Term.mk v fn args).sizeW ≤ 300) && decide ((Term.mk v fn args).depthW ≤ 100)) = false := by
      rw [← Bool.not_eq_true]; simpa using hS
     rw [hb] at hsm
     simp [b4_2, plc_raw, a.lti, a.sz, a.ltm, a.cells, a.le3, a.w, hsm, alive_ok, Nat.add_assoc]
     exact .fin _ _ (.inl ⟨rfl, rfl⟩)
   ·have hte : s.i = l.length := Nat.le_antisymm hI.le hlt
    simp [b4_2, hte, Nat.add_assoc]
    refine .fin _ _ (.inr ⟨rfl, { s with N := s.N + 4 }, ?_, by simp⟩)
    exact { hI with bh := hI.bh.mono (Nat.le_add_right _ _), lt1 := by have := hI.lt1; simp only; omega, lt2 := by have := hI.lt2; simp only; omega }) s0 h0
 rw [hi] at key
 exact key
end Go.Proofs.Ytiafeijkifpfaaa.Am

/-
 One number just if it is one term: all is dropped; the whole law. No condition.
-/
namespace Go.Proofs.Ytiafeijkifpfaaa.Am
open Go Go.Proofs
set_option maxHeartbeats 4000000
set_option maxRecDepth 20000
set_option linter.unusedSimpArgs false
set_option linter.unusedVariables false
structure TwS where
 j : Nat
 H : Hp
 N : Nat
 L : List Nd
structure TwI (o m1 m2 : Oid) (P : Int → Oid) (L0 : List Nd) (ks : List Term) (vi : AV) (q1 : Oid) (vk : AV) (q2 : Oid) (s : TwS) : Prop where
 le : s.j ≤ ks.length
 bh : BH s.H s.N o m1 m2 P 1000000 s.L
 bk : Bk s.L
 lv : Held s.L
 cnt : ∀ n ∈ s.L, n.kept = cntT (ks.drop s.j) n.t
 has : ∀ k ∈ ks.drop s.j, hasT s.L k = true ∧ idOf s.L k = idOf L0 k
 r1 : RowD s.H 1 vi q1 ((ks.map (idOf L0)).map (D.int .i64 ·)) ks.length
 r2 : RowD s.H 3 vk q2 (encL ks) ks.length
 sz : s.L.length ≤ 15000
 lt1 : q1.1 < s.N
 lt2 : q2.1 < s.N
 no1 : ¬ Ft o m1 m2 P s.L q1
 no2 : ¬ Ft o m1 m2 P s.L q2
abbrev twT (o : Oid) (vi vk : AV) (j : Nat) : List AV := [.junk, .junk, .d (.bool false), .ptr o 0 3, .junk, vi, vk, .junk, .junk, .junk, .junk, .d (.int .i64 j), .junk, .junk, .junk, .junk, .junk, .junk, .junk, .junk, .junk, .junk, .junk, .junk, .junk, .junk, .junk, .junk, .junk, .junk, .junk, .junk, .junk, .junk, .junk, .junk, .junk, .junk, .junk, .junk, .junk, .junk, .junk, .junk, .junk, .junk, .junk, .junk, .junk, .junk, .junk, .junk, .junk, .junk, .junk, .junk, .junk, .junk, .junk, .junk, .junk, .junk, .junk, .junk, .junk, .junk, .junk, .junk, .junk, .junk, .junk, .junk, .junk, .junk, .junk, .junk, .junk, .junk, .junk, .junk, .junk, .junk, .junk, .junk, .junk, .junk, .junk, .junk, .junk, .junk, .junk, .junk, .junk, .junk, .junk, .junk, .junk, .junk, .junk, .junk, .junk, .junk, .junk, .junk, .junk, .junk, .junk, .junk, .junk, .junk, .junk, .junk, .junk, .junk, .junk, .junk, .junk, .junk, .junk, .junk, .junk, .junk, .junk, .junk, .junk, .junk, .junk, .junk, .junk, .junk, .junk, .junk, .junk, .junk, .junk, .junk, .junk, .junk, .junk, .junk, .junk, .junk, .junk, .junk, .junk, .junk, .junk, .junk, .junk, .junk, .junk, .junk, .junk, .junk, .junk, .junk, .junk, .junk, .junk, .junk, .junk, .junk]
def TwR (o m1 m2 : Oid) (P : Int → Oid) (L0 : List Nd) (ks : List Term) (vi : AV) (q1 : Oid) (vk : AV) (q2 : Oid) (_ : Unit) (e : Ex) (st : St) : Prop :=
 e = .exit 4 ∧ ∃ s, TwI o m1 m2 P L0 ks vi q1 vk q2 s ∧ s.j = ks.length ∧ st = ⟨twT o vi vk ks.length, s.H, s.N⟩
theorem byId_of {L : List Nd} (hb : Bk L) {n : Nd} (hn : n ∈ L) : byId L n.id = some n := by
 cases e : byId L n.id with
 | none => exact absurd rfl (byId_none e n hn)
 | some m =>
  obtain ⟨h1, h2⟩ := byId_some e
  rw [nodup_inj hb.ids h1 hn h2]
theorem drop_loop (o m1 m2 : Oid) (P : Int → Oid) (L0 : List Nd) (ks : List Term) (hok : ∀ k ∈ ks, k.ok) (hk50 : ks.length ≤ 1000000) (vi : AV) (q1 : Oid) (vk : AV) (q2 : Oid) (s0 : TwS) (h0 : TwI o m1 m2 P L0 ks vi q1 vk q2 s0) (hj0 : s0.j = 0) :
  ∃ s, TwI o m1 m2 P L0 ks vi q1 vk q2 s ∧ s.j = ks.length ∧ aloop Try.prog plc b4_0 ⟨[false, false, true, true, false, true, true, false, false, false, false, true, false, false, true, false, true, true, true, false, false, false, false, false, false, false, false, false, false, false, false, false, false, false, false, false, false, false, false, false, false, false, false, false, false, false, false, false, false, false, false, false, false, false, false, false, false, false, false, false, false, false, false, false, false, false, false, false, false, false, false, false, false, false, false, false, false, false, false, false, false, false, false, false, false, false, false, false, false, false, false, false, false, false, false, false, false, false, false, false, false, false, false, false, false, false, false, false, false, false, false, false, false, false, false, false, false, false, false, false, false, false, false, false, false, false, false, true, true, true, true, true, true, true, true, true, true, true, true, true, true, true, true, true, true, true, true, true, true, true, true, true, true, true, true, true, true, true, true, true, true, true], none⟩ ⟨twT o vi vk 0, s0.H, s0.N⟩ = some (.exit 4, ⟨twT o vi vk ks.length, s.H, s.N⟩) := by
 have key := loop_ruleN (P := Try.prog) (pol := plc) (c := b4_0) (m := ⟨[false, false, true, true, false, true, true, false, false, false, false, true, false, false, true, false, true, true, true, false, false, false, false, false, false, false, false, false, false, false, false, false, false, false, false, false, false, false, false, false, false, false, false, false, false, false, false, false, false, false, false, false, false, false, false, false, false, false, false, false, false, false, false, false, false, false, false, false, false, false, false, false, false, false, false, false, false, false, false, false, false, false, false, false, false, false, false, false, false, false, false, false, false, false, false, false, false, false, false, false, false, false, false, false, false, false, false, false, false, false, false, false, false, false, false, false, false, false, false, false, false, false, false, false, false, false, false, true, true, true, true, true, true, true, true, true, true, true, true, true, true, true, true, true, true, true, true, true, true, true, true, true, true, true, true, true, true, true, true, true, true, true], none⟩)
  (N := fun s : TwS => s.N) (tm := fun s => twT o vi vk s.j) (Hf := fun s => s.H) (I := TwI o m1 m2 P L0 ks vi q1 vk q2) (μ := fun s => ks.length - s.j) (res := fun _ => ()) (R := TwR o m1 m2 P L0 ks vi q1 vk q2)
  (fun s hI => by
   rcases Nat.lt_or_ge s.j ks.length with hlt | hlt
   ·obtain ⟨v, fn, args, b⟩ := at_ok (ts := ks) (by omega) hlt
    have hget : ks[s.j] = .mk v fn args := b.get
    have hdr : ks.drop s.j = .mk v fn args :: ks.drop (s.j + 1) := b.dr
    obtain ⟨hhas, hid0⟩ := hI.has (.mk v fn args) (by rw [hdr]; simp)
    obtain ⟨n, hn, hnt, hni⟩ := idOf_mem hhas
    have hby := byId_of hI.bk hn
    have hkn : n.kept ≠ 0 := by
     rw [hI.cnt n hn, hnt, hdr]
     unfold cntT
     rw [List.countP_cons, if_pos ((sameB_eq _ _).2 rfl)]; omega
    have hg : getB s.L n.id = (.mk v fn args, 0) := by unfold getB; rw [hby]; simp only [hnt]
    have hd : dropB s.L n.id = (0, (bump s.L n.t (-1)).filter (needed (bump s.L n.t (-1)))) := by unfold dropB; rw [hby]; simp only [if_neg hkn]
    obtain ⟨w, q, H1, n1, c1, g1, k1, a1, lq, lq2⟩ := get_ok (nx := s.N + 16) hI.bh hI.bk (by omega) n.id
    rw [hg] at c1 a1
    simp only [Term.v, Term.fn, Term.args] at c1 a1
    obtain ⟨z1, z2, z3, rfl⟩ : ∃ a b c, w = AV.osl q 0 a b c := by
     cases a1 with
     | vn _ h => exact ⟨_, _, _, rfl⟩
     | row _ _ _ _ _ _ _ => exact ⟨_, _, _, rfl⟩
    obtain ⟨H2, hH2⟩ : ∃ H2, H2 = upd (upd H1 (s.N + 13, 3) .vnil) (s.N + 13, 0) (.cells [.d (.int .i64 v), .d (.str fn), .osl q 0 z1 z2 z3]) := ⟨_, rfl⟩
    have hk2 : ∀ p : Oid, p.1 < s.N → H2 p = s.H p := fun p hp => by rw [hH2, upd_old (by omega), upd_old (by omega), k1 p (by omega)]
    have h2o : H2 (s.N + 13, 0) = some (.cells [.d (.int .i64 v), .d (.str fn), .osl q 0 z1 z2 z3]) := by rw [hH2]; exact upd_same _ _ _
    have a2 : ArgsAt H2 (.osl q 0 z1 z2 z3) q args := a1.keep (by rw [hH2, upd_ne fun e => by rw [e] at lq; simp only at lq; omega, upd_ne fun e => by rw [e] at lq; simp only at lq; omega])
    obtain ⟨cs, nl, is, hre, hwk, his⟩ := a2.reify 4
    have hsame := same_ok (.mk v fn args) (hok _ b.mem) (.mk v fn args) (hok _ b.mem)
    rw [(sameB_eq _ _).2 rfl] at hsame
    simp only [Term.enc] at hsame
    have hra : reifyAll 6 H2 [.agg [.d (.int .i64 v), .d (.str fn), .osl q 0 z1 z2 z3], .d (.agg [.int .i64 v, .str fn, .sl (encL args) args.length false none])] = some ([.agg [.int .i64 v, .str fn, .sl cs args.length false nl], .agg [.int .i64 v, .str fn, .sl (encL args) args.length false none]], is) := by
     simp only [Nat.reduceAdd] at hre
     have h1 : reify H2 6 (.agg [.d (.int .i64 v), .d (.str fn), .osl q 0 z1 z2 z3]) = some (.agg [.int .i64 v, .str fn, .sl cs args.length false nl], is) := by
      rw [reify]; simp only [mapD, hre]; simp [reify]
     simp only [reifyAll, mapD, h1]; simp [reify]
    obtain ⟨H3, n3, c3, d3⟩ := dropB_ok (nx := n1 + 20) (hI.bh.old (M := n1 + 20) hk2 (by omega)) hI.bk hI.lv (by omega) (by have := hI.sz; omega) (fun m hm => by
     rw [hI.cnt m hm]
     have := cnt_le (ks.drop s.j) m.t
     rw [List.length_drop] at this; omega) n.id
    rw [hd] at c3 d3
    simp only at c3 d3
    obtain ⟨rfl, e1, l1⟩ := hI.r1.pos (by omega)
    obtain ⟨rfl, e2, l2⟩ := hI.r2.pos (by omega)
    have f1 := (hk2 q1 hI.lt1).trans e1
    have f2 := (hk2 q2 hI.lt2).trans e2
    have hjl : (s.j : Int) < (ks.length : Int) := by omega
    have hx : (List.map AV.d ((ks.map (idOf L0)).map (D.int .i64 ·)))[s.j]? = some (.d (.int .i64 n.id)) := by
     rw [← hni, hid0]; simp [hlt, hget]
    have hdd : List.take 3 (List.drop (s.j * 3) (List.map AV.d (encL ks))) = [.d (.int .i64 v), .d (.str fn), .d (.sl (encL args) args.length false none)] := by
     rw [← List.map_drop, ← List.map_take, b.cells]; rfl
    obtain ⟨cs1, hcs1⟩ : ∃ cs, cs = (ks.map (idOf L0)).map (D.int .i64 ·) := ⟨_, rfl⟩
    obtain ⟨cs2, hcs2⟩ : ∃ cs, cs = encL ks := ⟨_, rfl⟩
    rw [← hcs1] at e1 l1 hx f1 ⊢
    rw [← hcs2] at e2 l2 hdd f2 ⊢
    have hw : IntKind.i64.wrap ((s.j : Int) + 1) = (s.j : Int) + 1 := wrap_i64 (by omega) (by omega)
    have h33 : s.j * 3 + 3 ≤ ks.length * 3 := by omega
    simp [b4_0, plc_raw, e1, e2, f1, f2, l1, l2, hjl, hx, hdd, hw, h33, c1, ← hH2, h2o, hra, -reifyAll, hwk, hsame, c3, Nat.add_assoc]
    have hb2 : Bk (bump s.L n.t (-1)) := hI.bk.bump fun m hm e => by
     rw [nodup_inj hI.bk.ts hm hn e]
     have := hI.bk.kept n hn; omega
    have hcn : ∀ m ∈ bump s.L n.t (-1), m.kept = cntT (ks.drop (s.j + 1)) m.t := fun m hm => by
     obtain ⟨p, hp, _, e2, e3, e4⟩ := bump_mem hm
     have h1 := hI.cnt p hp
     rw [hdr] at h1
     unfold cntT at h1 ⊢
     rw [List.countP_cons] at h1
     rw [← e2]
     by_cases e : p.t = n.t
     ·rw [if_pos ((sameB_eq _ _).2 (by rw [e, hnt]))] at h1
      rw [e3 e, h1]; omega
     ·rw [if_neg (by rw [sameB_eq]; exact fun h => e (by rw [hnt, h]))] at h1
      rw [e4 e, h1]; omega
    have hdrp : ∀ k ∈ ks.drop (s.j + 1), k ∈ ks.drop s.j := fun k hk => by rw [hdr]; exact List.mem_cons_of_mem _ hk
    have hnb : ∀ k ∈ ks.drop (s.j + 1), ∃ m ∈ bump s.L n.t (-1), needed (bump s.L n.t (-1)) m = true ∧ m.t = k := fun k hk => by
     obtain ⟨p, hp, hpk⟩ := hasT_iff.1 (hI.has k (hdrp k hk)).1
     obtain ⟨m, hm, _, e2, _⟩ := mem_bump n.t (-1) hp
     refine ⟨m, hm, needed_iff.2 ⟨m, hm, ?_, parts_self _⟩, by rw [e2, hpk]⟩
     rw [hcn m hm, e2, hpk]
     have : 0 < cntT (ks.drop (s.j + 1)) k := List.countP_pos_iff.2 ⟨k, hk, (sameB_eq _ _).2 rfl⟩
     omega
    have g3 := d3.le
    have nft : ∀ p : Oid, p.1 < s.N → ¬ Ft o m1 m2 P s.L p → ¬ Ft o m1 m2 P ((bump s.L n.t (-1)).filter (needed (bump s.L n.t (-1)))) p := fun p hp hF e => by
     rcases d3.ft p e with e | e
     ·exact hF e
     ·omega
    have k3 : ∀ p : Oid, p.1 < s.N → ¬ Ft o m1 m2 P s.L p → H3 p = s.H p := fun p hp hF => (d3.fr p (by omega) hF).trans (hk2 p hp)
    have lt1 := hI.lt1
    have lt2 := hI.lt2
    have hnx : TwI o m1 m2 P L0 ks (.osl q1 0 ks.length 1 ks.length) q1 (.osl q2 0 ks.length 3 (ks.length * 3)) q2 ⟨s.j + 1, H3, n3 + 3, (bump s.L n.t (-1)).filter (needed (bump s.L n.t (-1)))⟩ := by
     refine ⟨hlt, d3.bh.mono (show n3 ≤ n3 + 3 by omega), hb2.needed, needed_live hb2, fun m hm => hcn m (List.mem_filter.1 hm).1, fun k hk => ⟨?_, ?_⟩, ?_, ?_, ?_, by simp only; omega, by simp only; omega, nft _ lt1 hI.no1, nft _ lt2 hI.no2⟩
     ·obtain ⟨m, hm, h1, h2⟩ := hnb k hk
      exact hasT_iff.2 ⟨m, List.mem_filter.2 ⟨hm, h1⟩, h2⟩
     ·simp only
      rw [hb2.idOf_filter (hnb k hk), bump_find]
      exact (hI.has k (hdrp k hk)).2
     ·have := RowD.row (H := H3) (sz := 1) q1 cs1 ks.length ((k3 _ lt1 hI.no1).trans e1) (by omega)
      rw [l1, Nat.mul_one] at this
      rw [← hcs1]; exact this
     ·have := RowD.row (H := H3) (sz := 3) q2 cs2 ks.length ((k3 _ lt2 hI.no2).trans e2) l2
      rw [l2] at this
      rw [← hcs2]; exact this
     ·have h1 := List.length_filter_le (needed (bump s.L n.t (-1))) (bump s.L n.t (-1))
      rw [bump_len] at h1
      have := hI.sz
      simp only; omega
    exact .next _ rfl rfl rfl hnx (by simp only; omega) rfl
   ·have hte : s.j = ks.length := Nat.le_antisymm hI.le hlt
    have hfin : ∀ N, s.N ≤ N → TwI o m1 m2 P L0 ks vi q1 vk q2 ⟨s.j, s.H, N, s.L⟩ := fun N hN => { hI with bh := hI.bh.mono hN, lt1 := Nat.lt_of_lt_of_le hI.lt1 hN, lt2 := Nat.lt_of_lt_of_le hI.lt2 hN }
    rcases hI.r1.form with ⟨rfl, h0⟩ | ⟨s1, ver, rfl⟩
    ·simp [b4_0, plc_raw, hte, h0, Nat.add_assoc]
     exact .fin _ _ ⟨rfl, ⟨s.j, s.H, s.N + 4, s.L⟩, hfin _ (by omega), hte, by simp [h0]⟩
    ·simp [b4_0, plc_raw, hte, Nat.add_assoc]
     exact .fin _ _ ⟨rfl, ⟨s.j, s.H, s.N + 4, s.L⟩, hfin _ (by omega), hte, by simp⟩) s0 h0
 obtain ⟨e, st, hrun, rfl, s, hs, hsj, rfl⟩ := key
 rw [hj0] at hrun
 exact ⟨s, hs, hsj, hrun⟩
end Go.Proofs.Ytiafeijkifpfaaa.Am

/-
 One number just if it is one term: the whole law. No condition.
-/
namespace Go.Proofs.Ytiafeijkifpfaaa.Am
open Go Go.Proofs
set_option maxHeartbeats 4000000
set_option maxRecDepth 20000
set_option linter.unusedSimpArgs false
set_option linter.unusedVariables false
theorem termOnce_ok (l : List Term) (hok : ∀ x ∈ l, x.ok) (hsz : ∀ x ∈ l, (x.size : Int) ≤ 4611686018427387904) : pcl Cp 4 [.sl (encL l) l.length false none] = some (.bool true) := by
 refine pcl_body code4 ?_
 obtain ⟨H0, n0, c0, g0, k0, b0⟩ := new_ok (lim := 1000000) (by omega) (by omega) (fun _ => none) 7
 simp only [Nat.reduceAdd] at c0 b0
 by_cases h50 : l.length ≤ 50
 ·have hli : ¬ (50 : Int) < (l.length : Int) := by omega
  obtain ⟨Hi, hHi⟩ : ∃ Hi, Hi = upd (upd H0 (n0 + 11, 1) .vnil) (n0 + 12, 1) .vnil := ⟨_, rfl⟩
  have hbi : BH Hi (n0 + 14) (19, 0) (16, 0) (17, 0) (fun _ => (0, 0)) 1000000 [] := b0.old (fun p hp => by rw [hHi, upd_old (by omega), upd_old (by omega)]) (by omega)
  obtain ⟨e, st, hrun, hR⟩ := once_loop l h50 hok hsz (19, 0) (16, 0) (17, 0) ⟨0, Hi, n0 + 14, fun _ => (0, 0), [], [], .osl (n0 + 11, 1) 0 0 1 0, (n0 + 11, 1), .osl (n0 + 12, 1) 0 0 1 0, (n0 + 12, 1)⟩
   ⟨Nat.zero_le _, hbi, Bk.nil, (by intro n hn; simp at hn), by simp, by simp, .vn _ (by rw [hHi]; simp), .vn _ (by rw [hHi]; exact upd_same _ _ _), Nat.le_refl _, by simp, by simp only; omega, by simp only; omega, (by rintro (e | e | e | ⟨g, hg, _⟩) <;> simp_all [gr]), (by rintro (e | e | e | ⟨g, hg, _⟩) <;> simp_all [gr]), by simp, by simp⟩ rfl
  simp [onT] at hrun
  rcases hR with ⟨rfl, hv⟩ | ⟨rfl, s, hs, rfl⟩
  ·simp [plc_raw, c0, hli, ← hHi, hrun, hv, Nat.add_assoc]
  ·obtain ⟨i1, H1, N1, P1, L1, ks, vi, q1, vk, q2⟩ := s
   simp only at hrun
   obtain ⟨s2, hs2, hj2, hrun2⟩ := drop_loop (19, 0) (16, 0) (17, 0) P1 L1 ks (fun k hk => hok k (hs.sub k hk)) (by have := hs.kl; have := hs.le; simp only at *; omega) vi q1 vk q2 ⟨0, H1, N1 + 1, L1⟩
    ⟨Nat.zero_le _, hs.bh.mono (by simp only; omega), hs.bk, hs.lv, by simpa using hs.cnt, fun k hk => ⟨hs.has k (by simpa using hk), rfl⟩, hs.r1, hs.r2, by have := hs.sz; have := hs.le; simp only at *; omega, by have := hs.lt1; simp only at *; omega, by have := hs.lt2; simp only at *; omega, hs.no1, hs.no2⟩ rfl
   simp [twT] at hrun2
   obtain ⟨j2, H2, n2, L2⟩ := s2
   simp only at hj2 hrun2
   subst hj2
   have hL2 : L2 = [] := live_nil hs2.lv fun n hn => by
    have := hs2.cnt n hn
    simp only [List.drop_length] at this
    rw [this]; rfl
   subst hL2
   obtain ⟨H3, n3, c3, g3, k3⟩ := make_nil H2 (n2 + 9)
   obtain ⟨q4, H4, n4, c4, g4, k4⟩ := get_nil 1 H3 (n3 + 8)
   obtain ⟨H5, hH5⟩ : ∃ H5, H5 = upd (upd H4 (n3 + 5, 3) .vnil) (n3 + 5, 0) (.cells [.d (.int .i64 0), .d (.str { data := #[] }), .osl q4 0 0 1 0]) := ⟨_, rfl⟩
   have hb5 : BH H5 n2 (19, 0) (16, 0) (17, 0) P1 1000000 [] := hs2.bh.keep fun p hp => by
    have := hs2.bh.foot_lt hp
    simp only at this
    rw [hH5, upd_old (by omega), upd_old (by omega), k4 p (by omega), k3 p (by omega)]
   have hlen := fun nx => len_ok hb5 Bk.nil nx
   simp only [List.length_nil] at hlen
   simp [plc_raw, c0, hli, ← hHi, hrun, hrun2, c3, c4, ← hH5, hlen, drop_nil, len_nil, alive_ok, Nat.add_assoc]
 ·have hli : (50 : Int) < (l.length : Int) := by omega
  simp [plc_raw, c0, hli, alive_ok, Nat.add_assoc]
theorem termOnce_row (l : List Term) {B : Prop} (h : B ∧ ∀ x ∈ l, x.ok) (hs : ∀ x ∈ l, x.size ≤ 4611686018427387904) : pcl Cp 4 [.sl (encL l) l.length false none] = some (.bool true) :=
 termOnce_ok l h.2 fun x hx => by have := hs x hx; omega
end Go.Proofs.Ytiafeijkifpfaaa.Am


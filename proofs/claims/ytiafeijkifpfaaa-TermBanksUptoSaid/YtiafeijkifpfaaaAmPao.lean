/-
  Joined texts: AmJg, AmJg2, AmJh, AmJi, AmJj, AmJk, AmJl, AmJm, AmJq, AmJr, AmJs, AmJt, AmJu, AmJv, AmJw, AmJx. No condition.
-/
import Derived.Test.YtiafeijkifpfaaaAmPan
/-
 A node that nothing needs goes away, and what it needed alone. No condition.
-/
namespace Go.Proofs.Ytiafeijkifpfaaa.Am
open Go Go.Proofs
set_option maxHeartbeats 4000000
set_option maxRecDepth 20000
set_option linter.unusedSimpArgs false
set_option linter.unusedVariables false
def SwSpec (kp : Int → Int) (n : Nat) : Prop := ∀ (G : List Gn), G.length ≤ n → GOk G → KeyInj G → (G.length : Int) ≤ 17592186044416 → ∀ (H : Hp) (N nx : Nat) (o m1 m2 : Oid) (P : Int → Oid) (lim i : Int), BkH H N ⟨o, m1, m2, P⟩ lim G kp (upI G) → N ≤ nx →
 ∃ H' nx', acall Try.prog plc 49 [.ptr o 0 3, .d (.int .i64 i)] H nx = some (.d (.tup []), H', nx') ∧ nx ≤ nx' ∧ BkH H' N ⟨o, m1, m2, P⟩ lim (swp kp (n + 1) G i) kp (upI (swp kp (n + 1) G i)) ∧ ∀ p : Oid, p.1 < nx → ¬ Foot ⟨o, m1, m2, P⟩ G p → H' p = H p
theorem foot_sub {V : Vw} {G G' : List Gn} (h : ∀ g ∈ G', g ∈ G) {p : Oid} (hp : Foot V G' p) : Foot V G p := by
 rcases hp with e | e | e | ⟨g, hg, e⟩
 ·exact .inl e
 ·exact .inr (.inl e)
 ·exact .inr (.inr (.inl e))
 ·exact .inr (.inr (.inr ⟨g, h g hg, e⟩))
theorem Swept.sub {kp : Int → Int} {G G' : List Gn} {is : List Int} (h : Swept kp G G' is) : ∀ g ∈ G', g ∈ G := by
 obtain ⟨p, e, _⟩ := h.fil
 intro g hg; rw [e] at hg; exact (List.mem_filter.1 hg).1
theorem KeyInj.sub {G G' : List Gn} (h : KeyInj G) (k : ∀ g ∈ G', g ∈ G) : KeyInj G' := fun g hg y hy => h g (k g hg) y (k y hy)
theorem swps_ok (kp : Int → Int) (f : Nat) : ∀ (l : List Int) (G0 : List Gn), G0.length < f → GOk G0 → Swept kp G0 (l.foldl (swp kp f) G0) l
 | [], G0, _, h0 => Swept.refl h0
 | a :: r, G0, hl, h0 => by
  have h1 := swp_ok kp f G0 a hl h0
  exact h1.trans (swps_ok kp f r (swp kp f G0 a) (by have := h1.len; omega) h1.ok)
abbrev swT (o q : Oid) (n : Nat) (j : Nat) : List AV := [.ptr o 0 3, .junk, .junk, .junk, .junk, .junk, .junk, .junk, .junk, .junk, .junk, .junk, .junk, .junk, .junk, .junk, .junk, .junk, .junk, .junk, .junk, .junk, .junk, .junk, .junk, .junk, .junk, .junk, .junk, .junk, .junk, .junk, .junk, .junk, .junk, .junk, .junk, .junk, .junk, .junk, .junk, .junk, .junk, .junk, .junk, .junk, .junk, .junk, .junk, .junk, .junk, .junk, .junk, .junk, .junk, .junk, .junk, .junk, .junk, .junk, .junk, .junk, .junk, .junk, .junk, .junk, .junk, .junk, .junk, .junk, .junk, .junk, .junk, .junk, .junk, .junk, .junk, .junk, .junk, .junk, .junk, .vsl q 3 n 1 21, .d (.int .i64 n), .d (.int .i64 j), .junk, .junk, .junk, .junk, .junk, .junk, .junk]
structure SwS (H : Hp) (N b : Nat) (V : Vw) (lim : Int) (G : List Gn) (kp : Int → Int) (f : Nat) (ids : List Int) (s : Nat × Hp × Nat) : Prop where
 le : s.1 ≤ ids.length
 nx : b ≤ s.2.2
 bh : BkH s.2.1 N V lim ((ids.take s.1).foldl (swp kp f) G) kp (upI ((ids.take s.1).foldl (swp kp f) G))
 fr : ∀ p : Oid, p.1 < b → ¬ Foot V G p → s.2.1 p = H p
def SwR (H : Hp) (N b : Nat) (V : Vw) (lim : Int) (G : List Gn) (kp : Int → Int) (f : Nat) (ids : List Int) (tm : List AV) (x : Ex) (_ : Unit) (e : Ex) (st : St) : Prop := e = x ∧ ∃ H' nx', st = ⟨tm, H', nx'⟩ ∧ SwS H N b V lim G kp f ids (ids.length, H', nx')
theorem sw_loop {kp : Int → Int} {f : Nat} (hspec : SwSpec kp f) {H : Hp} {N b : Nat} {o m1 m2 : Oid} {P : Int → Oid} {lim : Int} {G : List Gn} (h : BkH H N ⟨o, m1, m2, P⟩ lim G kp (upI G)) (hN : N ≤ b) (hg : GOk G) (hki : KeyInj G) (hGf : G.length ≤ f) (hsz : (G.length : Int) ≤ 17592186044416) {v : Int} {fn : ByteArray} {ids : List Int} (h16 : ids.length ≤ 16)
  {q : Oid} {x y : AV} (hq : H q = some (.cells ((keyN v fn ids.length ids).map .d ++ [x, y]))) (hqb : q.1 < b) (hno : ¬ Foot ⟨o, m1, m2, P⟩ G q) :
  ∃ H' nx', aloop Try.prog plc b49_0 ⟨[true, false, false, false, false, false, false, false, false, false, false, false, false, false, false, false, false, false, false, false, false, false, false, false, false, false, false, false, false, false, false, false, false, false, false, false, false, false, false, false, false, false, false, false, false, false, false, false, false, false, false, false, false, false, false, false, false, false, false, false, false, false, false, false, false, false, false, false, false, false, false, false, false, false, false, false, false, false, false, false, false, true, true, true, false, false, false, false, false, false, false], some b⟩ ⟨swT o q ids.length 0, H, b⟩ = some (.exit 2, ⟨swT o q ids.length ids.length, H', nx'⟩) ∧ SwS H N b ⟨o, m1, m2, P⟩ lim G kp (f + 1) ids (ids.length, H', nx') := by
 have hkl : (keyN v fn ids.length ids).length = 19 := keyN_len h16
 have key := loop_ruleN (P := Try.prog) (pol := plc) (c := b49_0) (m := ⟨[true, false, false, false, false, false, false, false, false, false, false, false, false, false, false, false, false, false, false, false, false, false, false, false, false, false, false, false, false, false, false, false, false, false, false, false, false, false, false, false, false, false, false, false, false, false, false, false, false, false, false, false, false, false, false, false, false, false, false, false, false, false, false, false, false, false, false, false, false, false, false, false, false, false, false, false, false, false, false, false, false, true, true, true, false, false, false, false, false, false, false], some b⟩)
  (N := fun s : Nat × Hp × Nat => s.2.2) (tm := fun s => swT o q ids.length s.1) (Hf := fun s => s.2.1)
  (I := SwS H N b ⟨o, m1, m2, P⟩ lim G kp (f + 1) ids) (μ := fun s => ids.length - s.1) (res := fun _ => ()) (R := SwR H N b ⟨o, m1, m2, P⟩ lim G kp (f + 1) ids (swT o q ids.length ids.length) (.exit 2))
  (fun s hI => by
   obtain ⟨j, H1, n⟩ := s
   obtain ⟨hj, hle, h1, hk⟩ := hI
   simp only at hj hle h1 hk
   rcases Nat.lt_or_ge j ids.length with hl | hl
   ·have hsw := swps_ok kp (f + 1) (ids.take j) G (by omega) hg
    have hlen := hsw.len
    have hq1 : H1 q = some (.cells ((keyN v fn ids.length ids).map .d ++ [x, y])) := (hk q hqb hno).trans hq
    have hw2 : IntKind.i64.wrap ((j : Int) + 1) = (j : Int) + 1 := wrap_i64 (by omega) (by omega)
    have hjl : (j : Int) < (ids.length : Int) := by omega
    obtain ⟨H3, n3, c3, g3, b3, k3⟩ := hspec _ (by omega) hsw.ok (hki.sub hsw.sub) (by omega) H1 N (n + 7) o m1 m2 P lim ids[j] h1 (by omega)
    simp [b49_0, -splice, -part, plc_raw, hkl, hq1, part_as hl, hw2, hjl, hl, c3, Nat.add_assoc]
    have hnext : SwS H N b ⟨o, m1, m2, P⟩ lim G kp (f + 1) ids (j + 1, below b H3, n3 + 2) := by
     refine ⟨hl, by simp only; omega, ?_, fun p hp hn => ?_⟩
     ·simp only [List.take_succ_eq_append_getElem hl, List.foldl_append, List.foldl_cons, List.foldl_nil]
      exact b3.keep fun p hp => below_lt (by have := b3.foot_lt hp; omega)
     ·show below b H3 p = H p
      rw [below_lt hp, k3 p (by omega) fun e => hn (foot_sub hsw.sub e), hk p hp hn]
    exact .next _ rfl rfl rfl hnext (by simp only; omega) rfl
   ·obtain rfl : j = ids.length := Nat.le_antisymm hj hl
    simp [b49_0]
    refine .fin _ _ ⟨rfl, _, _, rfl, ⟨Nat.le_refl _, by simp only; omega, h1.keep fun p hp => below_lt (by have := h1.foot_lt hp; omega), fun p hp hn => (below_lt hp).trans (hk p hp hn)⟩⟩) (0, H, b) ⟨Nat.zero_le _, Nat.le_refl _, by simpa using h, fun _ _ _ => rfl⟩
 obtain ⟨e, st, hrun, rfl, H', nx', rfl, h0⟩ := key
 exact ⟨H', nx', hrun, h0⟩
end Go.Proofs.Ytiafeijkifpfaaa.Am

/-
 A sweep as a whole. No condition.
-/
namespace Go.Proofs.Ytiafeijkifpfaaa.Am
open Go Go.Proofs
set_option maxHeartbeats 4000000
set_option maxRecDepth 20000
set_option linter.unusedSimpArgs false
set_option linter.unusedVariables false
theorem find_id {G : List Gn} (hn : (G.map (·.id)).Nodup) {g : Gn} (hg : g ∈ G) : G.find? (fun y => decide (y.id = g.id)) = some g := by
 cases e : G.find? (fun y => decide (y.id = g.id)) with
 | none => rw [List.find?_eq_none] at e; exact absurd (by simp) (e g hg)
 | some y =>
  have h2 := List.find?_some e
  simp only [decide_eq_true_eq] at h2
  rw [nodup_inj hn (List.mem_of_find?_eq_some e) hg h2]
theorem sweep_none {kp : Int → Int} {G : List Gn} (hg : GOk G) {H : Hp} {N nx : Nat} {o m1 m2 : Oid} {P : Int → Oid} {lim i : Int} (h : BkH H N ⟨o, m1, m2, P⟩ lim G kp (upI G)) (hi : ∀ g ∈ G, g.id ≠ i) :
  ∃ H' nx', acall Try.prog plc 49 [.ptr o 0 3, .d (.int .i64 i)] H nx = some (.d (.tup []), H', nx') ∧ nx ≤ nx' ∧ H' = H := by
 have hroot := h.root
 obtain ⟨es, c, e1, hel, hf, hno⟩ := h.look hg.ids
 have hfn := hno i hi
 simp only at hroot e1
 refine ⟨H, nx + 23, acall_body code49 ?_, by omega, rfl⟩
 simp [plc_raw, Nat.add_assoc, -part, p3_1, hroot, e1, hfn]
theorem sweep_stay {kp : Int → Int} {G : List Gn} (hg : GOk G) {H : Hp} {N nx : Nat} {o m1 m2 : Oid} {P : Int → Oid} {lim : Int} (h : BkH H N ⟨o, m1, m2, P⟩ lim G kp (upI G)) {g : Gn} (hgm : g ∈ G) (hc : kp g.id > 0 ∨ upG G g.id > 0) :
  ∃ H' nx', acall Try.prog plc 49 [.ptr o 0 3, .d (.int .i64 g.id)] H nx = some (.d (.tup []), H', nx') ∧ nx ≤ nx' ∧ H' = H := by
 have hroot := h.root
 obtain ⟨es, c, e1, hel, hf, hno⟩ := h.look hg.ids
 obtain ⟨k, st, hfk⟩ := hf g hgm
 have hnode := h.node g hgm
 have hgl : g.key.length = 19 := keyN_len (hg.small g hgm)
 simp only at hroot e1 hfk hnode
 by_cases hk : kp g.id > 0
 ·refine ⟨H, nx + 23, acall_body code49 ?_, by omega, rfl⟩
  simp [plc_raw, Nat.add_assoc, -part, p3_1, hroot, e1, hfk, hnode, hgl, part_kept hgl, part_up hgl, hk]
 ·have hu : 0 < upG G g.id := by omega
  refine ⟨H, nx + 23, acall_body code49 ?_, by omega, rfl⟩
  simp [plc_raw, Nat.add_assoc, -part, p3_1, hroot, e1, hfk, hnode, hgl, part_kept hgl, part_up hgl, hk, hu, upI]
theorem sweep_del {kp : Int → Int} {n : Nat} (hspec : SwSpec kp n) {G : List Gn} (hG : G.length ≤ n + 1) (hg : GOk G) (hki : KeyInj G) (hsz : (G.length : Int) ≤ 17592186044416) {H : Hp} {N nx : Nat} {o m1 m2 : Oid} {P : Int → Oid} {lim : Int} (h : BkH H N ⟨o, m1, m2, P⟩ lim G kp (upI G)) (hN : N ≤ nx) {i v : Int} {fn : ByteArray} {ar : List Int} (hgm : (⟨i, v, fn, ar⟩ : Gn) ∈ G) (hk : ¬ kp i > 0) (hu : upG G i = 0) :
  ∃ H' nx', acall Try.prog plc 49 [.ptr o 0 3, .d (.int .i64 i)] H nx = some (.d (.tup []), H', nx') ∧ nx ≤ nx' ∧ BkH H' N ⟨o, m1, m2, P⟩ lim (ar.foldl (swp kp (n + 1)) (delG G i)) kp (upI (ar.foldl (swp kp (n + 1)) (delG G i))) ∧ ∀ p : Oid, p.1 < nx → ¬ Foot ⟨o, m1, m2, P⟩ G p → H' p = H p := by
 have hroot := h.root
 have hnode := h.node _ hgm
 have h16 : ar.length ≤ 16 := hg.small _ hgm
 have hgl : (keyN v fn ar.length ar).length = 19 := keyN_len h16
 have hfit := fit_key (v := v) (fn := fn) (n := ar.length) (ar := ar) h16
 simp only at hfit
 obtain ⟨s1, c1, e1, hs1⟩ := h.nodes
 obtain ⟨s2, c2, e2, hs2⟩ := h.idm
 obtain ⟨A, B, hAB, hA, hB, hd⟩ := GOk.split hg.ids hgm
 simp only at hA hB hd hroot hnode e1 e2
 simp only [Gn.key] at hnode
 have f1 : findK (.int .i64 i) (ents (fun g => .int .i64 g.id) (fun g => .ptr (P g.id) 0 21) s1 G) 0 = some (A.length, .ptr (P i) 0 21, s1 i) := by
  rw [hAB, findK_at 0 (fun y hy => by simpa [eqD, eq1] using (hA y hy).symm) (by simp [eqD, eq1]), Nat.zero_add]
 have hA2 : ∀ y ∈ A, eqD (.agg (keyN v fn ar.length ar)) (.agg y.key) = false := fun y hy => by
  show eqL (keyN v fn ar.length ar) y.key = false
  rw [← Bool.not_eq_true]
  exact fun e => hA y hy (hki ⟨i, v, fn, ar⟩ hgm y (by rw [hAB]; simp [hy]) e).symm
 have hself : eqD (.agg (keyN v fn ar.length ar)) (.agg (Gn.key ⟨i, v, fn, ar⟩)) = true := by
  show eqL (keyN v fn ar.length ar) (keyN v fn ar.length ar) = true
  exact key_eq.2 ⟨rfl, rfl, rfl⟩
 have f2 : findK (.agg (keyN v fn ar.length ar)) (ents (fun g => .agg g.key) (fun g => .d (.int .i64 g.id)) s2 G) 0 = some (A.length, .d (.int .i64 i), s2 i) := by
  rw [hAB, findK_at (k := fun g => .agg g.key) 0 hA2 hself, Nat.zero_add]
 have x1 : (ents (fun g => .int .i64 g.id) (fun g => .ptr (P g.id) 0 21) s1 G).eraseIdx A.length = ents (fun g => .int .i64 g.id) (fun g => .ptr (P g.id) 0 21) s1 (delG G i) := by
  rw [hd]; exact (congrArg (fun G => (ents (fun g => .int .i64 g.id) (fun g => .ptr (P g.id) 0 21) s1 G).eraseIdx A.length) hAB).trans ents_erase
 have x2 : (ents (fun g => .agg g.key) (fun g => .d (.int .i64 g.id)) s2 G).eraseIdx A.length = ents (fun g => .agg g.key) (fun g => .d (.int .i64 g.id)) s2 (delG G i) := by
  rw [hd]; exact (congrArg (fun G => (ents (fun g => .agg g.key) (fun g => .d (.int .i64 g.id)) s2 G).eraseIdx A.length) hAB).trans ents_erase
 obtain ⟨es1, hes1⟩ : ∃ es, es = ents (fun g => .int .i64 g.id) (fun g => .ptr (P g.id) 0 21) s1 G := ⟨_, rfl⟩
 obtain ⟨es2, hes2⟩ : ∃ es, es = ents (fun g => .agg g.key) (fun g => .d (.int .i64 g.id)) s2 G := ⟨_, rfl⟩
 obtain ⟨fs1, hfs1⟩ : ∃ es, es = ents (fun g => .int .i64 g.id) (fun g => .ptr (P g.id) 0 21) s1 (delG G i) := ⟨_, rfl⟩
 obtain ⟨fs2, hfs2⟩ : ∃ es, es = ents (fun g => .agg g.key) (fun g => .d (.int .i64 g.id)) s2 (delG G i) := ⟨_, rfl⟩
 rw [← hes1] at e1 f1 x1
 rw [← hes2] at e2 f2 x2
 rw [← hfs1] at x1
 rw [← hfs2] at x2
 have n12 : m1 ≠ m2 := h.ne12
 have no1 : o ≠ m1 := h.ne1
 have no2 : o ≠ m2 := h.ne2
 have nq1 : P i ≠ m1 := h.neM _ hgm
 have nq2 : P i ≠ m2 := h.neN _ hgm
 have u1 : ∀ (H : Hp) x, upd H m1 x m2 = H m2 := fun H x => upd_ne n12.symm
 have u2 : ∀ (H : Hp) x, upd H m1 x o = H o := fun H x => upd_ne no1
 have u3 : ∀ (H : Hp) x, upd H m2 x o = H o := fun H x => upd_ne no2
 have u4 : ∀ (H : Hp) x, upd H m1 x (P i) = H (P i) := fun H x => upd_ne nq1
 have u5 : ∀ (H : Hp) x, upd H m2 x (P i) = H (P i) := fun H x => upd_ne nq2
 obtain ⟨H1, hH1⟩ : ∃ H1, H1 = upd (upd H m1 (.mp shI fs1 c1)) m2 (.mp shK fs2 c2) := ⟨_, rfl⟩
 have hr1 : H1 o = some (.cells [.d (.int .i64 lim), .map m1, .map m2]) := by rw [hH1, u3, u2]; exact hroot
 have hq1 : H1 (P i) = some (.cells ((keyN v fn ar.length ar).map .d ++ [.d (.int .i64 (kp i)), .d (.int .i64 (upI G i))])) := by rw [hH1, u5, u4]; exact hnode
 have hdel : BkH H1 N ⟨o, m1, m2, P⟩ lim (delG G i) kp (upI G) := by
  refine BkH.del h hs1 hs2 ?_ ?_ (fun p h1 h2 => ?_)
  ·rw [← hfs1, hH1, upd_ne n12]; exact upd_same _ _ _
  ·rw [← hfs2, hH1]; exact upd_same _ _ _
  ·rw [hH1, upd_ne h2, upd_ne h1]
 have hgd := hg.del hu
 have hnof : ¬ Foot ⟨o, m1, m2, P⟩ (delG G i) (P i) := by
  rintro (e | e | e | ⟨g, hg2, e⟩)
  ·exact h.neO _ hgm e
  ·exact nq1 e
  ·exact nq2 e
  ·obtain ⟨hg3, hg4⟩ := delG_mem.1 hg2
   exact hg4 (h.inj _ hgm g hg3 e).symm
 have hPi : (P i).1 < N := h.ltP _ hgm
 have hnid : ∀ a ∈ ar, ∃ g ∈ delG G i, g.id = a := fun a ha => by
  obtain ⟨m, hm, e⟩ := hg.cl _ hgm a ha
  refine ⟨m, delG_mem.2 ⟨hm, fun e2 => ?_⟩, e⟩
  have : 0 < upG G i := upG_pos.2 ⟨_, hgm, by rw [← e2, e]; exact ha⟩
  omega
 obtain ⟨H2, n2, c1', d2⟩ := dn_loop (b := nx + 50) hdel (by omega) hgd (v := v) (fn := fn) hnid h16 (fun j => by
  have := upG_le hg.small j
  simp only [upI]; omega) hq1 (by omega) hnof
 have hb2 : BkH H2 N ⟨o, m1, m2, P⟩ lim (delG G i) kp (upI (delG G i)) := by
  have h1 := d2.bh
  simp only [List.take_length] at h1
  refine h1.fun (fun _ _ => rfl) fun g _ => ?_
  have := upG_del hg.ids hgm rfl g.id
  simp only [upI] at this ⊢; omega
 have hq2 : H2 (P i) = some (.cells ((keyN v fn ar.length ar).map .d ++ [.d (.int .i64 (kp i)), .d (.int .i64 (upI G i))])) := by
  exact (d2.fr (P i) (by omega) fun ⟨g, hg2, e⟩ => hnof (.inr (.inr (.inr ⟨g, hg2, e⟩)))).trans hq1
 have hdl := delG_len hg.ids hgm rfl
 simp only at hdl
 have hn2 : nx + 50 ≤ n2 := d2.nx
 obtain ⟨H3, n3, c3, d3⟩ := sw_loop hspec (b := n2 + 12) hb2 (by omega) hgd (hki.sub fun g hg => (delG_mem.1 hg).1) (by omega) (by omega) (v := v) (fn := fn) h16 hq2 (by omega) hnof
 simp [dnT] at c1'
 simp [swT] at c3
 have hn3 : n2 + 12 ≤ n3 := d3.nx
 refine ⟨H3, n3, acall_body code49 ?_, by omega, ?_, fun p hp hF => ?_⟩
 ·simp [plc_raw, Nat.add_assoc, -part, p3_1, p3_2, hroot, e1, e2, f1, f2, x1, x2, hnode, hgl, part_kept hgl, part_up hgl, part_key hgl, part_n, hk, hu, upI, hfit, u1, u2, u3, u4, u5, ← hH1, hr1, hq1, h16, c1', hq2, c3]
 ·have h1 := d3.bh
  simp only [List.take_length] at h1
  exact h1
 ·have hF2 : ¬ Foot ⟨o, m1, m2, P⟩ (delG G i) p := fun e => hF (foot_sub (fun g hg => (delG_mem.1 hg).1) e)
  have a1 := d3.fr p (by omega) hF2
  have a2 := d2.fr p (by omega) fun ⟨g, hg2, e⟩ => hF2 (.inr (.inr (.inr ⟨g, hg2, e⟩)))
  simp only at a1 a2
  rw [a1, a2, hH1, upd_ne fun e => hF (.inr (.inr (.inl e))), upd_ne fun e => hF (.inr (.inl e))]
theorem sweep_ok (kp : Int → Int) : ∀ n, SwSpec kp n := by
 intro n
 induction n with
 | zero =>
  intro G hG hg hki hsz H N nx o m1 m2 P lim i h hN
  obtain rfl : G = [] := List.eq_nil_of_length_eq_zero (by omega)
  obtain ⟨H', nx', c, h1, rfl⟩ := sweep_none hg h (nx := nx) (i := i) (by simp)
  exact ⟨H', nx', c, h1, by simpa [swp] using h, fun _ _ _ => rfl⟩
 | succ n ih =>
  intro G hG hg hki hsz H N nx o m1 m2 P lim i h hN
  by_cases hi : ∃ g ∈ G, g.id = i
  ·obtain ⟨g, hgm, rfl⟩ := hi
   have hfind := find_id hg.ids hgm
   by_cases hc : kp g.id > 0 ∨ upG G g.id > 0
   ·obtain ⟨H', nx', c, h1, rfl⟩ := sweep_stay hg h (nx := nx) hgm hc
    refine ⟨H', nx', c, h1, ?_, fun _ _ _ => rfl⟩
    have : swp kp (n + 1 + 1) G g.id = G := by rw [swp, hfind]; simp only [if_pos hc]
    rw [this]; exact h
   ·have : swp kp (n + 1 + 1) G g.id = g.ar.foldl (swp kp (n + 1)) (delG G g.id) := by rw [swp, hfind]; simp only [if_neg hc]
    rw [this]
    exact sweep_del ih hG hg hki hsz h hN hgm (by omega) (by omega)
  ·have hi2 : ∀ g ∈ G, g.id ≠ i := fun g hg e => hi ⟨g, hg, e⟩
   obtain ⟨H', nx', c, h1, rfl⟩ := sweep_none hg h (nx := nx) hi2
   refine ⟨H', nx', c, h1, ?_, fun _ _ _ => rfl⟩
   have : swp kp (n + 1 + 1) G i = G := by
    have hn : G.find? (fun y => decide (y.id = i)) = none := List.find?_eq_none.2 fun g hg => by simpa using hi2 g hg
    rw [swp, hn]
   rw [this]; exact h
end Go.Proofs.Ytiafeijkifpfaaa.Am

/-
 A bank tells a term: its arguments in a row. No condition.
-/
namespace Go.Proofs.Ytiafeijkifpfaaa.Am
open Go Go.Proofs
set_option maxHeartbeats 4000000
set_option maxRecDepth 20000
set_option linter.unusedSimpArgs false
set_option linter.unusedVariables false
inductive ArgsAt (H : Hp) : AV → Oid → List Term → Prop
 | vn (q : Oid) (h : H q = some .vnil) : ArgsAt H (.osl q 0 0 1 0) q []
 | row (q : Oid) (ts : List Term) (cs : List D) (hne : ts ≠ []) (h : H q = some (.grow (cs.map .d))) (hw : wkL cs = encL ts) (hl : cs.length = ts.length * 3) : ArgsAt H (.osl q 0 ts.length 3 (ts.length * 3)) q ts
theorem ArgsAt.keep {H H' : Hp} {w : AV} {q : Oid} {ts : List Term} (h : ArgsAt H w q ts) (k : H' q = H q) : ArgsAt H' w q ts := by
 cases h with
 | vn _ h => exact .vn _ (k.trans h)
 | row _ _ cs hne h hw hl => exact .row _ _ cs hne (k.trans h) hw hl
theorem ArgsAt.reify {H : Hp} {w : AV} {q : Oid} {ts : List Term} (h : ArgsAt H w q ts) (k : Nat) : ∃ cs nl is, Am.reify H (k + 1) w = some (.sl cs ts.length false nl, is) ∧ wkL cs = encL ts ∧ ∀ p ∈ is, p = q := by
 cases h with
 | vn _ h => exact ⟨[], some true, [], by simp [Am.reify, h, mapD], by simp [wkL, encL], by simp⟩
 | row _ _ cs hne h hw hl =>
  have h1 := mapD_encT H k cs
  have h2 : cs ≠ [] := fun e => by rw [e] at hl; simp at hl; exact hne (List.eq_nil_of_length_eq_zero (by omega))
  have h3 : List.take (ts.length * 3) (cs.map AV.d) = cs.map .d := List.take_of_length_le (by simp [hl])
  refine ⟨cs, some false, [q], ?_, hw, by simp⟩
  simp [Am.reify, h, hl, h3, h1, h2]
theorem kill_ne {H : Hp} {is : List Oid} {p : Oid} (h : p ∉ is) : kill H is p = H p := by simp only [kill]; rw [if_neg h]
theorem encL_append (a b : List Term) : encL (a ++ b) = encL a ++ encL b := by
 induction a with
 | nil => rfl
 | cons t r ih => simp [encL, ih]
theorem wkL_append (a b : List D) : wkL (a ++ b) = wkL a ++ wkL b := by
 induction a with
 | nil => rfl
 | cons t r ih => simp [wkL, ih]
theorem append_arg {H : Hp} {w w2 : AV} {q q2 e : Oid} {ts ts2 : List Term} {v : Int} {fn : ByteArray} (h : ArgsAt H w q ts) (h2 : ArgsAt H w2 q2 ts2) (he : H e = some (.cells [.d (.int .i64 v), .d (.str fn), w2])) (hq1 : q ≠ e) (hq2 : q ≠ q2) (hn : ts.length ≤ 16) (id : Nat) :
  ∃ H', appendO Try.prog H id 30 30 w (.osl e 0 1 3 3) = some (.osl q 0 (ts.length + 1) 3 (ts.length * 3 + 3), H') ∧ ArgsAt H' (.osl q 0 (ts.length + 1) 3 (ts.length * 3 + 3)) q (ts ++ [.mk v fn ts2]) ∧ ∀ p, p ≠ q → p ≠ e → p ≠ q2 → H' p = H p := by
 obtain ⟨cs2, nl, is, hre, hw2, his⟩ := h2.reify 4
 have hnd : ∀ x, w2 ≠ .d x := by cases h2 <;> simp
 have hqi : q ∉ e :: is := by
  rw [List.mem_cons]
  rintro (e1 | e1)
  ·exact hq1 e1
  ·exact hq2 (his q e1)
 have hqe : ¬ q = e := hq1
 have hqis : q ∉ is := fun h => hqi (by simp [h])
 have hsrc : srcCells Try.prog H 3 30 (.osl e 0 1 3 3) = some ([.int .i64 v, .str fn, .sl cs2 ts2.length false nl], 1, e :: is) := by
  have h0 : allD [AV.d (.int .i64 v), .d (.str fn), w2] = none := by
   cases h2 <;> rfl
  have h1 : srcRaw Try.prog H 3 30 (.osl e 0 1 3 3) = none := by simp [srcRaw, he, h0, -allD]
  simp only [srcCells, h1]
  simp [reify, he, hre, -reify, mapD]
  simp [Am.reify, he, mapD, hre]
 have hk : ∀ p, p ≠ q → p ≠ e → p ≠ q2 → ∀ x, upd (kill H (e :: is)) q x p = H p := fun p h1 h2 h3 x => by
  rw [upd_ne h1, kill_ne]
  rw [List.mem_cons]
  rintro (e1 | e1)
  ·exact h2 e1
  ·exact h3 (his p e1)
 cases h with
 | vn _ h =>
  refine ⟨upd (kill H (e :: is)) q (.grow [.d (.int .i64 v), .d (.str fn), .d (.sl cs2 ts2.length false nl)]), ?_, ?_, fun p h1 h2 h3 => hk p h1 h2 h3 _⟩
  ·simp [appendO, hsrc, h, growO, hqe, hqis]
  ·exact .row q [.mk v fn ts2] [.int .i64 v, .str fn, .sl cs2 ts2.length false nl] (by simp) (upd_same _ _ _) (by simp [encL, Term.enc, hw2]) (by simp)
 | row _ _ cs hne h hw hl =>
  have hv : ts.length * 3 ≤ 68719476736 := by omega
  have h3 : List.take (ts.length * 3) (cs.map AV.d) = cs.map .d := List.take_of_length_le (by simp [hl])
  have h4 : ¬ ts.length * 3 + 3 ≤ ts.length * 3 := by omega
  refine ⟨upd (kill H (e :: is)) q (.grow ((cs ++ [D.int .i64 v, D.str fn, D.sl cs2 ts2.length false nl]).map .d)), ?_, ?_, fun p h1 h2 h3 => hk p h1 h2 h3 _⟩
  ·simp [appendO, hsrc, h, growO, hqe, hqis, hl, hv, h3, h4]
  ·have := ArgsAt.row (H := upd (kill H (e :: is)) q (.grow ((cs ++ [D.int .i64 v, D.str fn, D.sl cs2 ts2.length false nl]).map .d))) q (ts ++ [.mk v fn ts2]) (cs ++ [D.int .i64 v, D.str fn, D.sl cs2 ts2.length false nl]) (by simp) (upd_same _ _ _) (by rw [wkL_append, encL_append, hw]; simp [encL, Term.enc, hw2]) (by simp [hl]; omega)
   rw [List.length_append, List.length_singleton, Nat.add_mul, Nat.one_mul] at this
   exact this
end Go.Proofs.Ytiafeijkifpfaaa.Am

/-
 A bank tells a term. No condition.
-/
namespace Go.Proofs.Ytiafeijkifpfaaa.Am
open Go Go.Proofs
set_option maxHeartbeats 4000000
set_option maxRecDepth 20000
set_option linter.unusedSimpArgs false
set_option linter.unusedVariables false
theorem part_v0 {v : Int} {fn : ByteArray} {n : Nat} {ar : List Int} : part Try.prog 3 ((keyN v fn n ar).map .d) 0 = some (.d (.int .i64 v)) := by simp [part, keyN]
theorem part_fn0 {v : Int} {fn : ByteArray} {n : Nat} {ar : List Int} : part Try.prog 9 ((keyN v fn n ar).map .d) 1 = some (.d (.str fn)) := by simp [part, keyN]
def ToldSpec (t : Term) : Prop := ∀ (H : Hp) (N nx : Nat) (o m1 m2 : Oid) (P : Int → Oid) (lim : Int) (L : List Nd) (kp up : Int → Int), BkH H N ⟨o, m1, m2, P⟩ lim (gr L) kp up → Bk L → hasT L t = true → N ≤ nx →
 ∃ w q H' nx', acall Try.prog plc 54 [.ptr o 0 3, .d (.int .i64 (idOf L t))] H nx = some (.agg [.d (.int .i64 t.v), .d (.str t.fn), w], H', nx') ∧ nx ≤ nx' ∧ (∀ p : Oid, p.1 < nx → H' p = H p) ∧ ArgsAt H' w q t.args ∧ nx ≤ q.1 ∧ q.1 < nx'
structure ToS where
 i : Nat
 H : Hp
 n : Nat
 w : AV
abbrev toT (o r4 r5 r6 : Oid) (n i : Nat) : List AV := [.ptr o 0 3, .junk, .junk, .junk, .ptr r4 0 3, .junk, .ptr r6 0 3, .junk, .junk, .junk, .junk, .junk, .junk, .junk, .junk, .junk, .junk, .junk, .junk, .junk, .junk, .junk, .junk, .junk, .junk, .junk, .vsl r5 3 n 1 19, .d (.int .i64 n), .d (.int .i64 i), .junk, .junk, .junk, .junk, .junk, .junk, .junk, .junk, .junk, .junk, .junk, .junk, .junk]
structure ToI (H : Hp) (b : Nat) (r6 q : Oid) (v : Int) (fn : ByteArray) (ts : List Term) (s : ToS) : Prop where
 le : s.i ≤ ts.length
 nx : b ≤ s.n
 obj : s.H r6 = some (.cells [.d (.int .i64 v), .d (.str fn), s.w])
 ar : ArgsAt s.H s.w q (ts.take s.i)
 fr : ∀ p : Oid, p.1 < b → p ≠ r6 → p ≠ q → s.H p = H p
def ToR (H : Hp) (b : Nat) (o r4 r5 r6 q : Oid) (v : Int) (fn : ByteArray) (ts : List Term) (_ : Unit) (e : Ex) (st : St) : Prop :=
 e = .exit 0 ∧ ∃ s, ToI H b r6 q v fn ts s ∧ s.i = ts.length ∧ st = ⟨toT o r4 r5 r6 ts.length ts.length, s.H, s.n⟩
theorem told_loop {ts : List Term} (hrec : ∀ x ∈ ts, ToldSpec x) (h16 : ts.length ≤ 16) {H : Hp} {N b : Nat} {o m1 m2 : Oid} {P : Int → Oid} {lim : Int} {L : List Nd} {kp up : Int → Int} (h : BkH H N ⟨o, m1, m2, P⟩ lim (gr L) kp up) (hb : Bk L) (hN : N ≤ b) (hts : ∀ x ∈ ts, hasT L x = true)
  {r4 r5 r6 q : Oid} {v : Int} {fn : ByteArray} (h5 : H r5 = some (.cells ((keyN v fn ts.length (ts.map (idOf L))).map .d))) (hr5 : r5.1 < b) (hr6 : r6.1 < b) (hq : q.1 < b) (hN6 : N ≤ r6.1) (hNq : N ≤ q.1) (n56 : r5 ≠ r6) (n5q : r5 ≠ q) (n6q : r6 ≠ q)
  (w : AV) (h6 : H r6 = some (.cells [.d (.int .i64 v), .d (.str fn), w])) (hw : ArgsAt H w q []) :
  ∃ s, ToI H b r6 q v fn ts s ∧ s.i = ts.length ∧ aloop Try.prog plc b54_0 ⟨[true, false, false, false, true, false, true, false, false, false, false, false, false, false, false, false, false, false, false, false, false, false, false, false, false, false, true, true, true, false, false, false, false, false, false, false, false, false, false, false, false, true], some b⟩ ⟨toT o r4 r5 r6 ts.length 0, H, b⟩ = some (.exit 0, ⟨toT o r4 r5 r6 ts.length ts.length, s.H, s.n⟩) := by
 have hkl : (keyN v fn ts.length (ts.map (idOf L))).length = 19 := keyN_len (by rw [List.length_map]; exact h16)
 have key := loop_ruleN (P := Try.prog) (pol := plc) (c := b54_0) (m := ⟨[true, false, false, false, true, false, true, false, false, false, false, false, false, false, false, false, false, false, false, false, false, false, false, false, false, false, true, true, true, false, false, false, false, false, false, false, false, false, false, false, false, true], some b⟩)
  (N := fun s : ToS => s.n) (tm := fun s => toT o r4 r5 r6 ts.length s.i) (Hf := fun s => s.H)
  (I := ToI H b r6 q v fn ts) (μ := fun s => ts.length - s.i) (res := fun _ => ()) (R := ToR H b o r4 r5 r6 q v fn ts)
  (fun s hI => by
   have hnx := hI.nx
   rcases Nat.lt_or_ge s.i ts.length with hl | hl
   ·have hmem : ts[s.i] ∈ ts := List.getElem_mem hl
    have hfoot : ∀ p, Foot ⟨o, m1, m2, P⟩ (gr L) p → s.H p = H p := fun p hp => by
     have := h.foot_lt hp
     exact hI.fr p (by omega) (fun e => by rw [e] at this; omega) (fun e => by rw [e] at this; omega)
    obtain ⟨w2, q2, H3, n3, c3, g3, k3, a3, lq, lq2⟩ := hrec _ hmem s.H N (s.n + 13) o m1 m2 P lim L kp up (h.keep hfoot) hb (hts _ hmem) (by omega)
    obtain ⟨v1, fn1, args, hx⟩ : ∃ v1 fn1 args, ts[s.i] = Term.mk v1 fn1 args := by cases ts[s.i]; exact ⟨_, _, _, rfl⟩
    rw [hx] at c3 a3
    simp only [Term.v, Term.fn, Term.args] at c3 a3
    have h5s : s.H r5 = some (.cells ((keyN v fn ts.length (ts.map (idOf L))).map .d)) := (hI.fr r5 hr5 n56 n5q).trans h5
    have hpa := part_as0 (v := v) (fn := fn) (n := ts.length) (ar := ts.map (idOf L)) (i := s.i) (by simpa using hl)
    rw [List.getElem_map, hx] at hpa
    have hw2 : IntKind.i64.wrap ((s.i : Int) + 1) = (s.i : Int) + 1 := wrap_i64 (by omega) (by omega)
    have hjl : (s.i : Int) < (ts.length : Int) := by omega
    have h6s := hI.obj
    have h63 : H3 r6 = some (.cells [.d (.int .i64 v), .d (.str fn), s.w]) := (k3 r6 (by omega)).trans h6s
    obtain ⟨H4, hH4⟩ : ∃ H4, H4 = upd H3 (s.n + 9, 0) (.cells [.d (.int .i64 v1), .d (.str fn1), w2]) := ⟨_, rfl⟩
    have nq9 : q ≠ (s.n + 9, 0) := fun e => by rw [e] at hq; simp only at hq; omega
    have ar4 : ArgsAt H4 s.w q (ts.take s.i) := hI.ar.keep (by rw [hH4, upd_ne nq9, k3 q (by omega)])
    have ar42 : ArgsAt H4 w2 q2 args := a3.keep (by rw [hH4, upd_ne fun e => by rw [e] at lq; simp only at lq; omega])
    have htl : (ts.take s.i).length = s.i := by rw [List.length_take]; omega
    obtain ⟨H5, c5, ar5, k5⟩ := append_arg ar4 ar42 (by rw [hH4]; exact upd_same _ _ _) nq9 (fun e => by rw [e] at hq; omega) (by rw [htl]; omega) (s.n + 10)
    rw [htl] at c5 ar5
    have h65 : H5 r6 = some (.cells [.d (.int .i64 v), .d (.str fn), s.w]) := by
     rw [k5 r6 n6q (fun e => by rw [e] at hr6; simp only at hr6; omega) (fun e => by rw [e] at hr6; omega), hH4, upd_ne (fun e => by rw [e] at hr6; simp only at hr6; omega)]; exact h63
    obtain ⟨H6, hH6⟩ : ∃ H6, H6 = below b (upd H5 r6 (.cells [.d (.int .i64 v), .d (.str fn), .osl q 0 (s.i + 1) 3 (s.i * 3 + 3)])) := ⟨_, rfl⟩
    simp [b54_0, -part, p3_1, p3_2, plc_raw, hkl, h5s, hpa, hw2, hjl, hl, h6s, c3, h63, ← hH4, c5, h65, ← hH6, Nat.add_assoc]
    have hlt6 : ∀ p : Oid, p.1 < b → H6 p = upd H5 r6 (.cells [.d (.int .i64 v), .d (.str fn), .osl q 0 (s.i + 1) 3 (s.i * 3 + 3)]) p := fun p hp => by rw [hH6, below_lt hp]
    have hlq2 : ∀ p : Oid, p.1 < b → p ≠ q2 := fun p hp e => by rw [e] at hp; omega
    have hl9 : ∀ p : Oid, p.1 < b → p ≠ (s.n + 9, 0) := fun p hp e => by rw [e] at hp; simp only at hp; omega
    refine .next (ToS.mk (s.i + 1) H6 _ (.osl q 0 (s.i + 1) 3 (s.i * 3 + 3))) rfl rfl rfl ⟨hl, by simp only; omega, ?_, ?_, fun p hp h1 h2 => ?_⟩ (by simp only; omega) rfl
    ·show H6 r6 = _
     rw [hlt6 r6 hr6, upd_same]
    ·show ArgsAt H6 _ q (ts.take (s.i + 1))
     rw [List.take_succ_eq_append_getElem hl, hx]
     exact ar5.keep (by rw [hlt6 q hq, upd_ne n6q.symm])
    ·show H6 p = H p
     rw [hlt6 p hp, upd_ne h1, k5 p h2 (hl9 p hp) (hlq2 p hp), hH4, upd_ne (hl9 p hp), k3 p (by omega)]
     exact hI.fr p hp h1 h2
   ·have hte : s.i = ts.length := Nat.le_antisymm hI.le hl
    simp [b54_0, hte]
    refine .fin _ _ ⟨rfl, ⟨s.i, below b s.H, s.n + 1, s.w⟩, ⟨hI.le, by simp only; omega, (below_lt hr6).trans hI.obj, hI.ar.keep (below_lt hq), fun p hp h1 h2 => (below_lt hp).trans (hI.fr p hp h1 h2)⟩, hte, by simp⟩) ⟨0, H, b, w⟩ ⟨Nat.zero_le _, Nat.le_refl _, h6, by simpa using hw, fun _ _ _ _ => rfl⟩
 obtain ⟨e, st, hrun, rfl, s, hs, hsi, rfl⟩ := key
 exact ⟨s, hs, hsi, hrun⟩
theorem told_ok (t : Term) : ToldSpec t := by
 refine Term.ind (p := ToldSpec) (fun v fn ts ih => ?_) t
 intro H N nx o m1 m2 P lim L kp up h hb ht hN
 obtain ⟨n, hn, hnt, hni⟩ := idOf_mem ht
 have h16 : ts.length ≤ 16 := by have := hb.small n hn; rw [hnt] at this; exact this
 have hts : ∀ x ∈ ts, hasT L x = true := by have := hb.cl n hn; rw [hnt] at this; exact this
 have hroot := h.root
 obtain ⟨es, c, e1, hel, hf, _⟩ := h.look hb.g.ids
 have hgm : (⟨n.id, n.t.v, n.t.fn, n.t.args.map (idOf L)⟩ : Gn) ∈ gr L := List.mem_map.2 ⟨n, hn, rfl⟩
 obtain ⟨k, st, hfk⟩ := hf _ hgm
 have hnode := h.node _ hgm
 have hPl := h.ltP _ hgm
 have lo := h.ltO
 have l1 := h.lt1
 simp only at hroot e1 hfk hnode hPl lo l1
 simp only [hnt, Gn.key, Term.v, Term.fn, Term.args, List.length_map] at hnode
 rw [hni]
 obtain ⟨ids, hids⟩ : ∃ ids, ids = ts.map (idOf L) := ⟨_, rfl⟩
 have hidl : ids.length = ts.length := by rw [hids, List.length_map]
 rw [← hids] at hnode
 have hgl : (keyN v fn ts.length ids).length = 19 := keyN_len (by omega)
 obtain ⟨qi, hqi⟩ : ∃ qi, qi = P n.id := ⟨_, rfl⟩
 rw [← hqi] at hfk hnode hPl
 have u2 : ∀ (H : Hp) j x, upd H (nx, j) x m1 = H m1 := fun H j x => upd_old (by omega) _ _ _
 have u3 : ∀ (H : Hp) j x, upd H (nx, j) x qi = H qi := fun H j x => upd_old (by omega) _ _ _
 have u1 : ∀ (H : Hp) j x, upd H (nx, j) x o = H o := fun H j x => upd_old (by omega) _ _ _
 obtain ⟨H1, hH1⟩ : ∃ H1, H1 = upd (upd (upd (upd (upd (upd (upd H (nx, 3) .vnil) (nx, 0) (.cells [.d (.int .i64 0), .d (.str { data := #[] }), .osl (nx, 3) 0 0 1 0])) (nx + 10, 0) (.cells ((keyN v fn ts.length ids).map .d))) (nx + 17, 3) .vnil) (nx + 17, 0) (.cells [.d (.int .i64 0), .d (.str { data := #[] }), .osl (nx + 17, 3) 0 0 1 0])) (nx + 18, 3) .vnil) (nx + 17, 0) (.cells [.d (.int .i64 v), .d (.str fn), .osl (nx + 18, 3) 0 0 1 0]) := ⟨_, rfl⟩
 have hk1 : ∀ p : Oid, p.1 < nx → H1 p = H p := fun p hp => by
  rw [hH1]; simp only [upd_old (o := p) (i := nx + 17) (by omega), upd_old (o := p) (i := nx + 18) (by omega), upd_old (o := p) (i := nx + 10) (by omega), upd_old (o := p) (i := nx) hp]
 obtain ⟨s, hs, hsi, hrun⟩ := told_loop (ts := ts) ih h16 (b := nx + 25) (h.keep fun p hp => hk1 p (by have := h.foot_lt hp; omega)) hb (by omega) hts (r4 := (nx, 0)) (r5 := (nx + 10, 0)) (r6 := (nx + 17, 0)) (q := (nx + 18, 3)) (v := v) (fn := fn)
  (by rw [hH1, ← hids]; simp) (by simp only; omega) (by simp only; omega) (by simp only; omega) (by simp only; omega) (by simp only; omega) (by simp) (by simp) (by simp) (.osl (nx + 18, 3) 0 0 1 0) (by rw [hH1]; exact upd_same _ _ _) (.vn _ (by rw [hH1]; simp))
 obtain ⟨i, Hs, ns, w⟩ := s
 obtain ⟨_, hsn, hobj, har, hfr⟩ := hs
 simp only at hsi hrun hobj har hsn hfr
 subst hsi
 rw [List.take_length] at har
 simp [toT] at hrun
 have h10 : H1 (nx + 10, 0) = some (.cells ((keyN v fn ts.length ids).map .d)) := by rw [hH1]; simp
 have h4 : Hs (nx, 0) = some (.cells [.d (.int .i64 0), .d (.str { data := #[] }), .osl (nx, 3) 0 0 1 0]) := by
  rw [hfr (nx, 0) (by simp only; omega) (by simp) (by simp), hH1]; simp
 obtain ⟨z1, z2, z3, rfl⟩ : ∃ a b c, w = AV.osl (nx + 18, 3) 0 a b c := by
  cases har with
  | vn _ h => exact ⟨_, _, _, rfl⟩
  | row _ _ _ _ _ _ _ => exact ⟨_, _, _, rfl⟩
 have hwp : part Try.prog 32 [.d (.int .i64 v), .d (.str fn), .osl (nx + 18, 3) 0 z1 z2 z3] 0 = some (.agg [.d (.int .i64 v), .d (.str fn), .osl (nx + 18, 3) 0 z1 z2 z3]) := by simp [part]
 refine ⟨.osl (nx + 18, 3) 0 z1 z2 z3, (nx + 18, 3), upd Hs (nx, 0) (.cells [.d (.int .i64 v), .d (.str fn), .osl (nx + 18, 3) 0 z1 z2 z3]), ns + 2, acall_body code54 ?_, by omega, fun p hp => ?_, ?_, by simp only; omega, by simp only; omega⟩
 ·simp [plc_raw, Nat.add_assoc, -part, p3_0, p3_1, p3_2, hroot, e1, hfk, hnode, hgl, part_key hgl, u1, u2, u3, lift_key, liftH_key, part_v0, part_fn0, part_n0, h16, ← hH1, h10, hrun, hobj, h4, hwp, Term.v, Term.fn]
 ·rw [upd_old (o := p) (i := nx) hp, hfr p (by omega) (fun e => by rw [e] at hp; simp only at hp; omega) (fun e => by rw [e] at hp; simp only at hp; omega)]
  exact hk1 p hp
 ·exact har.keep (by simp)
end Go.Proofs.Ytiafeijkifpfaaa.Am

/-
 A bank: Make, Drop, Len, New. No condition.
-/
namespace Go.Proofs.Ytiafeijkifpfaaa.Am
open Go Go.Proofs
set_option maxHeartbeats 4000000
set_option maxRecDepth 20000
set_option linter.unusedSimpArgs false
set_option linter.unusedVariables false
theorem kp_bump {L : List Nd} (hb : Bk L) {n : Nd} (hn : n ∈ L) {d : Int} (hb2 : Bk (bump L n.t d)) (i : Int) : kpL (bump L n.t d) i = if i = n.id then n.kept + d else kpL L i := by
 by_cases hi : hasI L i = true
 ·obtain ⟨m, hm, rfl⟩ := hasI_iff.1 hi
  obtain ⟨h1, h2⟩ := hb.kp_bump n.t d hb2 hm
  by_cases e : m.id = n.id
  ·rw [nodup_inj hb.ids hm hn e, if_pos rfl]
   exact (hb.kp_bump n.t d hb2 hn).1 rfl
  ·rw [if_neg e, h2 fun e2 => e (by rw [nodup_inj hb.ts hm hn e2]), hb.kp hm]
 ·have hi : hasI L i = false := by simpa using hi
  have h1 : hasI (bump L n.t d) i = false := hasI_ff.2 fun m hm e => by
   obtain ⟨q, hq, e1, _⟩ := bump_mem hm
   exact hasI_ff.1 hi q hq (by rw [e1, e])
  rw [kp_none hi, kp_none h1, if_neg fun e => hasI_ff.1 hi n hn e.symm]
abbrev ndG (L : List Nd) (n : Nd) : Gn := ⟨n.id, n.t.v, n.t.fn, n.t.args.map (idOf L)⟩
theorem ndG_mem {L : List Nd} {n : Nd} (h : n ∈ L) : ndG L n ∈ gr L := List.mem_map.2 ⟨n, h, rfl⟩
theorem BH.bump {H : Hp} {N : Nat} {o m1 m2 : Oid} {P : Int → Oid} {lim : Int} {L : List Nd} (h : BH H N o m1 m2 P lim L) (hb : Bk L) {n : Nd} (hn : n ∈ L) {d : Int} (hb2 : Bk (Am.bump L n.t d)) :
  BH (upd H (P n.id) (.cells ((ndG L n).key.map .d ++ [.d (.int .i64 (n.kept + d)), .d (.int .i64 (upI (gr L) n.id))]))) N o m1 m2 P lim (Am.bump L n.t d) := by
 unfold BH
 rw [bump_gr]
 refine BkH.turn h (ndG_mem hn) ?_ (fun p hp => upd_ne hp) (fun i hi => ?_) (fun _ _ => rfl) hb.g.ids
 ·rw [kp_bump hb hn hb2, if_pos rfl]; exact upd_same _ _ _
 ·rw [kp_bump hb hn hb2, if_neg hi]
def makeB (lim : Int) (L : List Nd) (t : Term) : (Int × Int) × List Nd :=
 if t.rightE ≠ 0 then ((0, t.rightE), L) else if lim < (layB L t.parts).length then ((0, 5), L) else ((idOf (layB L t.parts) t, 0), bump (layB L t.parts) t 1)
theorem foot_gr {o m1 m2 : Oid} {P : Int → Oid} {L L' : List Nd} {p : Oid} (h : ∀ g ∈ gr L', g ∈ gr L) (hp : Ft o m1 m2 P L' p) : Ft o m1 m2 P L p := foot_sub h hp
theorem foot_bump {o m1 m2 : Oid} {P : Int → Oid} {L : List Nd} {t : Term} {d : Int} {p : Oid} (hp : Ft o m1 m2 P (bump L t d) p) : Ft o m1 m2 P L p := by
 unfold Ft at hp; rw [bump_gr] at hp; exact hp
theorem lay_kp (L : List Nd) (l : List Term) : kpL (layB L l) = kpL L := by
 obtain ⟨M, e, hM, _⟩ := lay_ext l L
 exact funext fun i => by rw [e]; exact kp_append (fun n hn => (hM n hn).1) i
theorem filt_gr {L : List Nd} (h : Bk L) {p : Nd → Bool} (hc : ∀ n ∈ L, p n = true → ∀ a ∈ n.t.args, ∃ m ∈ L, p m = true ∧ m.t = a) : ∀ g ∈ gr (L.filter p), g ∈ gr L := by
 intro g hg
 obtain ⟨n, hn, rfl⟩ := List.mem_map.1 hg
 obtain ⟨h1, h2⟩ := List.mem_filter.1 hn
 have : n.t.args.map (idOf (L.filter p)) = n.t.args.map (idOf L) := List.map_congr_left fun a ha => h.idOf_filter (hc n h1 h2 a ha)
 rw [this]
 exact ndG_mem h1
theorem need_cl {L : List Nd} (h : Bk L) : ∀ n ∈ L, needed L n = true → ∀ a ∈ n.t.args, ∃ m ∈ L, needed L m = true ∧ m.t = a := by
 intro n hn hk a ha
 obtain ⟨m, hm, h0, hp⟩ := needed_iff.1 hk
 obtain ⟨q, hq, rfl⟩ := hasT_iff.1 (h.cl n hn a ha)
 exact ⟨q, hq, needed_iff.2 ⟨m, hm, h0, parts_args m.t hp ha⟩, rfl⟩
theorem kp_filter {L : List Nd} (h : Bk L) (p : Nd → Bool) {n : Nd} (hn : n ∈ L.filter p) (hf : Bk (L.filter p)) : kpL (L.filter p) n.id = kpL L n.id := by
 rw [hf.kp hn, h.kp (List.mem_filter.1 hn).1]
theorem sweep_bank {H : Hp} {N nx : Nat} {o m1 m2 : Oid} {P : Int → Oid} {lim : Int} {L : List Nd} (h : BH H N o m1 m2 P lim L) (hb : Bk L) (hN : N ≤ nx) (hsz : (L.length : Int) ≤ 17592186044416) {i : Int} (hl : LooseOnly L i) :
  ∃ H' nx', acall Try.prog plc 49 [.ptr o 0 3, .d (.int .i64 i)] H nx = some (.d (.tup []), H', nx') ∧ nx ≤ nx' ∧ BH H' N o m1 m2 P lim (L.filter (needed L)) ∧ ∀ p : Oid, p.1 < nx → ¬ Ft o m1 m2 P L p → H' p = H p := by
 obtain ⟨H', nx', c, g, b, k⟩ := sweep_ok (kpL L) (gr L).length (gr L) (Nat.le_refl _) hb.g hb.keyInj (by rw [gr_len]; exact hsz) H N nx o m1 m2 P lim i h hN
 have hs := swept_bank hb (swp_ok (kpL L) ((gr L).length + 1) (gr L) i (by omega) hb.g) hl
 rw [hs] at b
 refine ⟨H', nx', c, g, b.fun (fun y hy => ?_) (fun _ _ => rfl), k⟩
 obtain ⟨n, hn, rfl⟩ := List.mem_map.1 hy
 exact kp_filter hb _ hn hb.needed
theorem make_ok {H : Hp} {N nx : Nat} {o m1 m2 : Oid} {P : Int → Oid} {lim : Int} {L : List Nd} (h : BH H N o m1 m2 P lim L) (hb : Bk L) (hl : Held L) (hN : N ≤ nx) (hsz : (L.length : Int) ≤ 68719476736) (hkp : ∀ n ∈ L, n.kept ≤ 1099511627776)
  (t : Term) (hok : t.ok) (hts : (t.parts.length : Int) ≤ 68719476736) (hfit : t.rightE = 0 → t.fits) :
  ∃ H' nx' P', acall Try.prog plc 16 [.ptr o 0 3, .d (.agg t.enc)] H nx = some (.d (.tup [.int .i64 (makeB lim L t).1.1, .int .i64 (makeB lim L t).1.2]), H', nx') ∧ Did lim o m1 m2 H nx P L H' nx' P' (makeB lim L t).2 := by
 have hr := tright_ok t hok
 unfold makeB
 by_cases he : t.rightE = 0
 ·rw [if_neg (by simp [he])]
  have hf := hfit he
  obtain ⟨H1, hH1⟩ : ∃ H1, H1 = upd H (nx, 0) (.cells [.d (.int .i64 t.v), .d (.str t.fn), .d (.sl (encL t.args) t.args.length false none)]) := ⟨_, rfl⟩
  have hk1 : ∀ p : Oid, p.1 < nx → H1 p = H p := fun p hp => by rw [hH1, upd_old (o := p) (i := nx) hp]
  have hz1 : H1 (nx, 0) = some (.cells [.d (.int .i64 t.v), .d (.str t.fn), .d (.sl (encL t.args) t.args.length false none)]) := by rw [hH1]; exact upd_same _ _ _
  obtain ⟨H2, n2, P2, c2, d2⟩ := lay_ok t hok hf H1 (nx + 14) o m1 m2 P lim L (h.old (fun p hp => hk1 p (by omega)) (by omega)) hb (by omega)
  have hbk := Bk.lay t hf L hb
  have hlen : ((layB L t.parts).length : Int) ≤ 137438953472 := by
   obtain ⟨M, e, _, hM⟩ := lay_ext t.parts L
   have := congrArg List.length e
   rw [List.length_append] at this; omega
  have g2 := d2.le
  have hroot := d2.bh.root
  obtain ⟨es, c, e1, hel, hfk, _⟩ := d2.bh.look hbk.g.ids
  simp only at hroot e1 hfk
  rw [gr_len] at hel
  have hd1 : Did lim o m1 m2 H nx P L H2 n2 P2 (layB L t.parts) := ⟨d2.bh, by omega, fun p hp hF => (d2.fr p (by omega) hF).trans (hk1 p hp), fun p hp => (d2.ft p hp).imp id fun e => by omega⟩
  obtain ⟨v, fn, args⟩ := t
  simp [Term.enc] at hr c2
  simp only [Term.v, Term.fn, Term.args] at hH1 hz1
  by_cases hlim : lim < ((layB L (Term.mk v fn args).parts).length : Int)
  ·rw [if_pos hlim]
   obtain ⟨H3, n3, c3, g3, b3, k3⟩ := sweep_bank d2.bh hbk (nx := n2 + 13) (by omega) (by omega) (lay_loose hb hl hf)
   rw [lay_back hb hl hf] at b3
   refine ⟨H3, n3 + 2, P2, acall_body code16 ?_, b3.mono (by omega), by omega, fun p hp hF => ?_, fun p hp => ?_⟩
   ·simp [Term.enc, plc_raw, -part, p3_0, p3_1, p3_2, p3_t, hr, he, ← hH1, hz1, c2, hroot, e1, hel, hlim, c3, Nat.add_assoc]
   ·have h1 : ¬ Ft o m1 m2 P2 (layB L (Term.mk v fn args).parts) p := fun e => by
     rcases hd1.ft p e with e | e
     ·exact hF e
     ·omega
    rw [k3 p (by omega) h1]; exact hd1.fr p hp hF
   ·refine hd1.ft p (foot_gr (L' := L) (fun g hg => ?_) hp)
    have hg2 := filt_gr hbk (need_cl hbk) g
    rw [lay_back hb hl hf] at hg2
    exact hg2 hg
  ·rw [if_neg hlim]
   obtain ⟨n, hn, hnt, hni⟩ := idOf_mem (L := layB L (Term.mk v fn args).parts) (t := .mk v fn args) (lay_mem _ _ (parts_self _))
   obtain ⟨k, st, hfn⟩ := hfk _ (ndG_mem hn)
   have hnode := d2.bh.node _ (ndG_mem hn)
   simp only at hfn hnode
   rw [hbk.kp hn] at hnode
   have hgl : (ndG (layB L (Term.mk v fn args).parts) n).key.length = 19 := keyN_len (hbk.g.small _ (ndG_mem hn))
   have hkb : n.kept ≤ 1099511627776 := by
    obtain ⟨M, e, hM, _⟩ := lay_ext (Term.mk v fn args).parts L
    rw [e] at hn
    rcases List.mem_append.1 hn with hn | hn
    ·exact hkp n hn
    ·rw [(hM n hn).1]; decide
   have hk0 := hbk.kept n hn
   have hw : IntKind.i64.wrap (n.kept + 1) = n.kept + 1 := wrap_i64 (by omega) (by omega)
   have hb2 : Bk (bump (layB L (Term.mk v fn args).parts) n.t 1) := hbk.bump fun m hm _ => by have := hbk.kept m hm; omega
   have hbh := BH.bump d2.bh hbk hn hb2
   rw [hnt] at hbh
   rw [hni]
   rw [hni] at c2
   refine ⟨_, n2 + 26, P2, acall_body code16 ?_, hbh.mono (by omega), by omega, fun p hp hF => ?_, fun p hp => hd1.ft p (foot_bump hp)⟩
   ·simp [Term.enc, plc_raw, -part, -splice, p3_0, p3_1, p3_2, p3_t, hr, he, ← hH1, hz1, c2, hroot, e1, hel, hlim, hfn, hnode, hgl, part_kept hgl, splice_kept hgl, hw, Nat.add_assoc]
   ·have h1 : ¬ Ft o m1 m2 P2 (layB L (Term.mk v fn args).parts) p := fun e => by
     rcases hd1.ft p e with e | e
     ·exact hF e
     ·omega
    rw [upd_ne fun e => h1 (.inr (.inr (.inr ⟨_, ndG_mem hn, e⟩)))]; exact hd1.fr p hp hF
 ·rw [if_pos he]
  refine ⟨upd H (nx, 0) (.cells [.d (.int .i64 t.v), .d (.str t.fn), .d (.sl (encL t.args) t.args.length false none)]), nx + 13, P, acall_body code16 ?_, Did.refl h (by omega) (by omega) (fun p hp => upd_old (by omega) _ _ _) (fun p hp => upd_old hp _ _ _)⟩
  obtain ⟨v, fn, args⟩ := t
  simp [Term.enc] at hr ⊢
  simp [plc_raw, hr, he, Term.v, Term.fn, Term.args]
end Go.Proofs.Ytiafeijkifpfaaa.Am

/-
 A bank: Drop, Get, Len, New, and a nil bank. No condition.
-/
namespace Go.Proofs.Ytiafeijkifpfaaa.Am
open Go Go.Proofs
set_option maxHeartbeats 4000000
set_option maxRecDepth 20000
set_option linter.unusedSimpArgs false
set_option linter.unusedVariables false
def byId (L : List Nd) (i : Int) : Option Nd := L.find? fun n => decide (n.id = i)
theorem byId_some {L : List Nd} {i : Int} {n : Nd} (h : byId L i = some n) : n ∈ L ∧ n.id = i := ⟨List.mem_of_find?_eq_some h, by simpa using List.find?_some h⟩
theorem byId_none {L : List Nd} {i : Int} (h : byId L i = none) : ∀ n ∈ L, n.id ≠ i := fun n hn => by simpa using List.find?_eq_none.1 h n hn
def dropB (L : List Nd) (i : Int) : Int × List Nd := match byId L i with
 | none => (4, L)
 | some n => if n.kept = 0 then (4, L) else (0, (bump L n.t (-1)).filter (needed (bump L n.t (-1))))
def getB (L : List Nd) (i : Int) : Term × Int := match byId L i with
 | none => (.mk 0 (ByteArray.mk #[]) [], 4)
 | some n => (n.t, 0)
theorem dropB_ok {H : Hp} {N nx : Nat} {o m1 m2 : Oid} {P : Int → Oid} {lim : Int} {L : List Nd} (h : BH H N o m1 m2 P lim L) (hb : Bk L) (hl : Held L) (hN : N ≤ nx) (hsz : (L.length : Int) ≤ 68719476736) (hkp : ∀ n ∈ L, n.kept ≤ 1099511627776) (i : Int) :
  ∃ H' nx', acall Try.prog plc 18 [.ptr o 0 3, .d (.int .i64 i)] H nx = some (.d (.int .i64 (dropB L i).1), H', nx') ∧ Did lim o m1 m2 H nx P L H' nx' P (dropB L i).2 := by
 have hroot := h.root
 obtain ⟨es, c, e1, hel, hfk, hno⟩ := h.look hb.g.ids
 simp only at hroot e1 hfk
 unfold dropB
 cases hi : byId L i with
 | none =>
  have hfn := hno i (fun g hg e => by
   obtain ⟨n, hn, rfl⟩ := List.mem_map.1 hg
   exact byId_none hi n hn e)
  refine ⟨H, nx + 20, acall_body code18 ?_, Did.refl h (by omega) (by omega) (fun _ _ => rfl) fun _ _ => rfl⟩
  simp [plc_raw, -part, p3_1, hroot, e1, hfn, Nat.add_assoc]
 | some n =>
  obtain ⟨hn, rfl⟩ := byId_some hi
  obtain ⟨k, st, hfn⟩ := hfk _ (ndG_mem hn)
  have hnode := h.node _ (ndG_mem hn)
  simp only at hfn hnode
  rw [hb.kp hn] at hnode
  have hgl : (ndG L n).key.length = 19 := keyN_len (hb.g.small _ (ndG_mem hn))
  by_cases h0 : n.kept = 0
  ·simp only [if_pos h0]
   refine ⟨H, nx + 20, acall_body code18 ?_, Did.refl h (by omega) (by omega) (fun _ _ => rfl) fun _ _ => rfl⟩
   simp [plc_raw, -part, p3_1, hroot, e1, hfn, hnode, hgl, part_kept hgl, h0, Nat.add_assoc]
  ·simp only [if_neg h0]
   have hk0 := hb.kept n hn
   have hk1 := hkp n hn
   have hw : IntKind.i64.wrap (n.kept - 1) = n.kept - 1 := wrap_i64 (by omega) (by omega)
   have hb2 : Bk (bump L n.t (-1)) := hb.bump fun m hm e => by rw [nodup_inj hb.ts hm hn e]; omega
   have hbh := BH.bump h hb hn hb2
   obtain ⟨H1, hH1⟩ : ∃ H1, H1 = upd H (P n.id) (.cells ((ndG L n).key.map .d ++ [.d (.int .i64 (n.kept - 1)), .d (.int .i64 (upI (gr L) n.id))])) := ⟨_, rfl⟩
   rw [← Int.sub_eq_add_neg, ← hH1] at hbh
   obtain ⟨H3, n3, c3, g3, b3, k3⟩ := sweep_bank hbh hb2 (nx := nx + 30) (by omega) (by rw [bump_len]; omega) (drop_loose hb hl hn (by omega))
   refine ⟨H3, n3 + 1, acall_body code18 ?_, b3.mono (by omega), by omega, fun p hp hF => ?_, fun p hp => .inl ?_⟩
   ·simp [plc_raw, -part, -splice, p3_1, hroot, e1, hfn, hnode, hgl, part_kept hgl, splice_kept hgl, h0, hw, ← hH1, c3, Nat.add_assoc]
   ·have h1 : ¬ Ft o m1 m2 P (bump L n.t (-1)) p := fun e => hF (foot_bump e)
    rw [k3 p (by omega) h1, hH1, upd_ne fun e => hF (.inr (.inr (.inr ⟨_, ndG_mem hn, e⟩)))]
   ·exact foot_bump (foot_gr (filt_gr hb2 (need_cl hb2)) hp)
theorem get_ok {H : Hp} {N nx : Nat} {o m1 m2 : Oid} {P : Int → Oid} {lim : Int} {L : List Nd} (h : BH H N o m1 m2 P lim L) (hb : Bk L) (hN : N ≤ nx) (i : Int) :
  ∃ w q H' nx', acall Try.prog plc 20 [.ptr o 0 3, .d (.int .i64 i)] H nx = some (.tup [.agg [.d (.int .i64 (getB L i).1.v), .d (.str (getB L i).1.fn), w], .d (.int .i64 (getB L i).2)], H', nx') ∧ nx ≤ nx' ∧ (∀ p : Oid, p.1 < nx → H' p = H p) ∧ ArgsAt H' w q (getB L i).1.args ∧ nx ≤ q.1 ∧ q.1 < nx' := by
 have hroot := h.root
 obtain ⟨es, c, e1, hel, hfk, hno⟩ := h.look hb.g.ids
 have lo := h.ltO
 have l1 := h.lt1
 simp only at hroot e1 hfk lo l1
 have u1 : ∀ (H : Hp) j x, upd H (nx, j) x o = H o := fun H j x => upd_old (by omega) _ _ _
 have u2 : ∀ (H : Hp) j x, upd H (nx, j) x m1 = H m1 := fun H j x => upd_old (by omega) _ _ _
 unfold getB
 cases hi : byId L i with
 | none =>
  have hfn := hno i (fun g hg e => by
   obtain ⟨n, hn, rfl⟩ := List.mem_map.1 hg
   exact byId_none hi n hn e)
  simp only [Term.v, Term.fn, Term.args]
  refine ⟨.osl (nx + 14, 3) 0 0 1 0, (nx + 14, 3), upd (upd (upd (upd H (nx, 3) .vnil) (nx, 0) (.cells [.d (.int .i64 0), .d (.str { data := #[] }), .osl (nx, 3) 0 0 1 0])) (nx + 14, 3) .vnil) (nx, 0) (.cells [.d (.int .i64 0), .d (.str { data := #[] }), .osl (nx + 14, 3) 0 0 1 0]), nx + 16, acall_body code20 ?_, by omega, fun p hp => ?_, .vn _ (by simp), by simp only; omega, by simp only; omega⟩
  ·simp [plc_raw, hroot, e1, hfn, u1, u2, Nat.add_assoc]
  ·simp only [upd_old (o := p) (i := nx + 14) (by omega), upd_old (o := p) (i := nx) hp]
 | some n =>
  obtain ⟨hn, rfl⟩ := byId_some hi
  obtain ⟨k, st, hfn⟩ := hfk _ (ndG_mem hn)
  simp only at hfn
  obtain ⟨H1, hH1⟩ : ∃ H1, H1 = upd (upd H (nx, 3) .vnil) (nx, 0) (.cells [.d (.int .i64 0), .d (.str { data := #[] }), .osl (nx, 3) 0 0 1 0]) := ⟨_, rfl⟩
  have hk1 : ∀ p : Oid, p.1 < nx → H1 p = H p := fun p hp => by rw [hH1, upd_old hp, upd_old hp]
  obtain ⟨w, q, H2, n2, c2, g2, k2, a2, lq, lq2⟩ := told_ok n.t H1 N (nx + 18) o m1 m2 P lim L (kpL L) (upI (gr L)) (h.keep fun p hp => hk1 p (by have := h.foot_lt hp; omega)) hb (hasT_iff.2 ⟨n, hn, rfl⟩) (by omega)
  rw [hb.idOf hn] at c2
  obtain ⟨z1, z2, z3, rfl⟩ : ∃ a b c, w = AV.osl q 0 a b c := by
   generalize n.t.args = ts at a2
   cases a2 with
   | vn _ h => exact ⟨_, _, _, rfl⟩
   | row _ _ _ _ _ _ _ => exact ⟨_, _, _, rfl⟩
  have h20 : H2 (nx, 0) = some (.cells [.d (.int .i64 0), .d (.str { data := #[] }), .osl (nx, 3) 0 0 1 0]) := by rw [k2 (nx, 0) (by simp only; omega), hH1]; exact upd_same _ _ _
  refine ⟨.osl q 0 z1 z2 z3, q, upd H2 (nx, 0) (.cells [.d (.int .i64 n.t.v), .d (.str n.t.fn), .osl q 0 z1 z2 z3]), n2, acall_body code20 ?_, by omega, fun p hp => ?_, a2.keep (upd_ne fun e => by rw [e] at lq; simp only at lq; omega), by omega, lq2⟩
  ·have r1 := (hk1 o (by omega)).trans hroot
   have r2 := (hk1 m1 (by omega)).trans e1
   simp [plc_raw, r1, r2, hfn, ← hH1, c2, h20, Nat.add_assoc]
  ·rw [upd_old hp, k2 p (by omega), hk1 p hp]
theorem len_ok {H : Hp} {N : Nat} {o m1 m2 : Oid} {P : Int → Oid} {lim : Int} {L : List Nd} (h : BH H N o m1 m2 P lim L) (hb : Bk L) (nx : Nat) : acall Try.prog plc 23 [.ptr o 0 3] H nx = some (.d (.int .i64 L.length), H, nx + 9) := by
 have hroot := h.root
 obtain ⟨es, c, e1, hel, hfk, hno⟩ := h.look hb.g.ids
 simp only at hroot e1
 rw [gr_len] at hel
 refine acall_body code23 ?_
 simp [plc_raw, hroot, e1, hel, Nat.add_assoc]
theorem new_bad {lim : Int} (h : lim < 1 ∨ lim > 1000000) (H : Hp) (nx : Nat) : acall Try.prog plc 12 [.d (.int .i64 lim)] H nx = some (.d (.tup [.nilptr, .int .i64 1]), H, nx + 10) := by
 refine acall_body code12 ?_
 by_cases h1 : lim < 1
 ·simp [plc_raw, h1, Nat.add_assoc]
 ·have h2 : 1000000 < lim := by omega
  simp [plc_raw, h1, h2, Nat.add_assoc]
theorem new_ok {lim : Int} (h : 1 ≤ lim) (h2 : lim ≤ 1000000) (H : Hp) (nx : Nat) : ∃ H' nx', acall Try.prog plc 12 [.d (.int .i64 lim)] H nx = some (.tup [.ptr (nx + 12, 0) 0 3, .d (.int .i64 0)], H', nx') ∧ nx ≤ nx' ∧ (∀ p : Oid, p.1 < nx → H' p = H p) ∧ BH H' nx' (nx + 12, 0) (nx + 9, 0) (nx + 10, 0) (fun _ => (0, 0)) lim [] := by
 have h3 : ¬ lim < 1 := by omega
 have h4 : ¬ 1000000 < lim := by omega
 refine ⟨upd (upd (upd H (nx + 9, 0) (.mp shI [] 0)) (nx + 10, 0) (.mp shK [] 0)) (nx + 12, 0) (.cells [.d (.int .i64 lim), .map (nx + 9, 0), .map (nx + 10, 0)]), nx + 15, acall_body code12 ?_, by omega, fun p hp => ?_, ?_⟩
 ·simp [plc_raw, h3, h4, Nat.add_assoc]
 ·simp only [upd_old (o := p) (i := nx + 12) (by omega), upd_old (o := p) (i := nx + 10) (by omega), upd_old (o := p) (i := nx + 9) (by omega)]
 ·refine ⟨upd_same _ _ _, ⟨fun _ => 0, 0, by simp [gr], by simp [gr]⟩, ⟨fun _ => 0, 0, by simp [gr], by simp [gr]⟩, by simp [gr], by simp [gr], by simp, by simp, by simp, by simp [gr], by simp, by simp, by simp, by simp [gr], by simp [gr], by simp [gr]⟩
theorem make_nil (H : Hp) (nx : Nat) : ∃ H' nx', acall Try.prog plc 16 [.d .nilptr, .d (.agg [.int .i64 0, .str { data := #[] }, .sl [] 0 true (some true)])] H nx = some (.d (.tup [.int .i64 0, .int .i64 2]), H', nx') ∧ nx ≤ nx' ∧ ∀ p : Oid, p.1 < nx → H' p = H p := by
 refine ⟨upd (upd H (nx, 3) .vnil) (nx, 0) (.cells [.d (.int .i64 0), .d (.str { data := #[] }), .osl (nx, 3) 0 0 1 0]), nx + 7, acall_body code16 ?_, by omega, fun p hp => ?_⟩
 ·simp [plc_raw, Nat.add_assoc]
 ·rw [upd_old hp, upd_old hp]
theorem get_nil (i : Int) (H : Hp) (nx : Nat) : ∃ q H' nx', acall Try.prog plc 20 [.d .nilptr, .d (.int .i64 i)] H nx = some (.tup [.agg [.d (.int .i64 0), .d (.str { data := #[] }), .osl q 0 0 1 0], .d (.int .i64 2)], H', nx') ∧ nx ≤ nx' ∧ ∀ p : Oid, p.1 < nx → H' p = H p := by
 refine ⟨(nx + 6, 3), upd (upd (upd (upd H (nx, 3) .vnil) (nx, 0) (.cells [.d (.int .i64 0), .d (.str { data := #[] }), .osl (nx, 3) 0 0 1 0])) (nx + 6, 3) .vnil) (nx, 0) (.cells [.d (.int .i64 0), .d (.str { data := #[] }), .osl (nx + 6, 3) 0 0 1 0]), nx + 8, acall_body code20 ?_, by omega, fun p hp => ?_⟩
 ·simp [plc_raw, Nat.add_assoc]
 ·simp only [upd_old (o := p) (i := nx + 6) (by omega), upd_old (o := p) (i := nx) hp]
theorem drop_nil (i : Int) (H : Hp) (nx : Nat) : acall Try.prog plc 18 [.d .nilptr, .d (.int .i64 i)] H nx = some (.d (.int .i64 2), H, nx + 4) := by
 refine acall_body code18 ?_
 simp [plc_raw, Nat.add_assoc]
theorem len_nil (H : Hp) (nx : Nat) : acall Try.prog plc 23 [.d .nilptr] H nx = some (.d (.int .i64 0), H, nx + 4) := by
 refine acall_body code23 ?_
 simp [plc_raw, Nat.add_assoc]
end Go.Proofs.Ytiafeijkifpfaaa.Am

/-
 Rows that grow, of data; which terms are small. No condition.
-/
namespace Go.Proofs.Ytiafeijkifpfaaa.Am
open Go Go.Proofs
set_option maxHeartbeats 4000000
set_option maxRecDepth 20000
set_option linter.unusedSimpArgs false
set_option linter.unusedVariables false
inductive RowD (H : Hp) (sz : Nat) : AV → Oid → List D → Nat → Prop
 | nil (q : Oid) : RowD H sz (.d (.sl [] 0 true (some true))) q [] 0
 | vn (q : Oid) (h : H q = some .vnil) : RowD H sz (.osl q 0 0 1 0) q [] 0
 | row (q : Oid) (cs : List D) (n : Nat) (h : H q = some (.grow (cs.map .d))) (hl : cs.length = n * sz) : RowD H sz (.osl q 0 n sz cs.length) q cs n
theorem RowD.keep {H H' : Hp} {sz : Nat} {v : AV} {q : Oid} {cs : List D} {n : Nat} (h : RowD H sz v q cs n) (k : H' q = H q) : RowD H' sz v q cs n := by
 cases h with
 | nil => exact .nil _
 | vn _ h => exact .vn _ (k.trans h)
 | row _ _ _ h hl => exact .row _ _ _ (k.trans h) hl
theorem RowD.len {H : Hp} {sz : Nat} {v : AV} {q : Oid} {cs : List D} {n : Nat} (h : RowD H sz v q cs n) : cs.length = n * sz := by
 cases h with
 | nil => simp
 | vn _ h => simp
 | row _ _ _ h hl => exact hl
def RowD.next (v : AV) (q : Oid) (id : Nat) : Oid := match v with | .d _ => (id, 0) | _ => q
theorem append_row {T E : TypeId} {sz : Nat} {z : List AV} (hE : telem Try.prog T = some E) (hs : tsize Try.prog E = some sz) (hz : zeroCells Try.prog E = some z) (hzl : z.length = sz) (hb : tbytes Try.prog E = some true) (hk : tkind Try.prog T = 3) (hsz : 0 < sz) (hsz2 : sz ≤ 1024)
  {H : Hp} {v src : AV} {q : Oid} {cs xs : List D} {n : Nat} (h : RowD H sz v q cs n) (hn : n ≤ 33554432) (hx : xs.length = sz) (hsrc : srcCells Try.prog H sz T src = some (xs, 1, [])) (id : Nat) :
  ∃ ver H', appendO Try.prog H id T T v src = some (.osl (RowD.next v q id) 0 (n + 1) sz ver, H') ∧ RowD H' sz (.osl (RowD.next v q id) 0 (n + 1) sz ver) (RowD.next v q id) (cs ++ xs) (n + 1) ∧ ∀ p, p ≠ RowD.next v q id → H' p = H p := by
 have h0 : ¬ sz = 0 := by omega
 have hm : n * sz ≤ 34359738368 := Nat.le_trans (Nat.mul_le_mul hn hsz2) (by decide)
 cases h with
 | nil =>
  refine ⟨xs.length, upd H (id, 0) (.grow (xs.map .d)), ?_, ?_, fun p hp => upd_ne hp⟩
  ·simp only [RowD.next]
   have : ¬ 68719476736 < sz := by omega
   simp [appendO, hE, hs, hz, hsrc, hzl, hb, h0, hx, growO, this]
  ·rw [List.nil_append]; exact .row _ xs 1 (upd_same _ _ _) (by omega)
 | vn _ h =>
  refine ⟨xs.length, upd H q (.grow (xs.map .d)), ?_, ?_, fun p hp => upd_ne hp⟩
  ·simp only [RowD.next]
   have : ¬ 68719476736 < sz := by omega
   simp [appendO, hE, hs, hz, hsrc, hzl, hb, h0, hx, growO, h, this]
  ·rw [List.nil_append]; exact .row _ xs 1 (upd_same _ _ _) (by omega)
 | row _ _ _ h hl =>
  have h3 : List.take (n * sz) (cs.map AV.d) = cs.map .d := List.take_of_length_le (by simp [hl])
  have h4 : ¬ n * sz + sz ≤ n * sz := by omega
  have h5 : n * sz ≤ 68719476736 := by omega
  have hr := RowD.row (H := upd H q (.grow ((cs ++ xs).map .d))) (sz := sz) q (cs ++ xs) (n + 1) (upd_same _ _ _) (by rw [List.length_append, hl, hx, Nat.add_mul, Nat.one_mul])
  refine ⟨_, _, ?_, hr, fun p hp => upd_ne hp⟩
  simp only [RowD.next]
  have : ¬ 68719476736 < sz := by omega
  simp [appendO, hE, hs, hz, hsrc, hzl, hb, h0, hx, growO, h, hl, h3, h4, h5, this]
theorem append_int {H : Hp} {v : AV} {q : Oid} {cs : List D} {n : Nat} (h : RowD H 1 v q cs n) (hn : n ≤ 33554432) {e : Oid} {x : Int} (he : H e = some (.cells [.d (.int .i64 x)])) (id : Nat) :
  ∃ ver H', appendO Try.prog H id 50 50 v (.osl e 0 1 1 1) = some (.osl (RowD.next v q id) 0 (n + 1) 1 ver, H') ∧ RowD H' 1 (.osl (RowD.next v q id) 0 (n + 1) 1 ver) (RowD.next v q id) (cs ++ [.int .i64 x]) (n + 1) ∧ ∀ p, p ≠ RowD.next v q id → H' p = H p :=
 append_row (E := 3) (z := [.d (.int .i64 0)]) (by simp) (by simp) (by simp) (by simp) (by simp) (by simp) (by decide) (by decide) h hn (by simp) (by simp [srcCells, srcRaw, he]) id
theorem append_term {H : Hp} {v : AV} {q : Oid} {cs : List D} {n : Nat} (h : RowD H 3 v q cs n) (hn : n ≤ 33554432) {e : Oid} {a b c : D} (he : H e = some (.cells [.d a, .d b, .d c])) (id : Nat) :
  ∃ ver H', appendO Try.prog H id 30 30 v (.osl e 0 1 3 3) = some (.osl (RowD.next v q id) 0 (n + 1) 3 ver, H') ∧ RowD H' 3 (.osl (RowD.next v q id) 0 (n + 1) 3 ver) (RowD.next v q id) (cs ++ [a, b, c]) (n + 1) ∧ ∀ p, p ≠ RowD.next v q id → H' p = H p := by
 obtain ⟨z, hz, hzl⟩ : ∃ z, zeroCells Try.prog 32 = some z ∧ z.length = 3 := ⟨_, by simp; rfl, by simp⟩
 exact append_row (E := 32) (z := z) (by simp) (by simp) hz hzl (by simp) (by simp) (by decide) (by decide) h hn (by simp) (by simp [srcCells, srcRaw, he]) id
theorem small_ok (t : Term) (h : t.ok) : pcl Cp 15 [.agg t.enc] = some (.bool (decide (t.sizeW ≤ 300) && decide (t.depthW ≤ 100))) := by
 have h1 := rsize_ok t h
 have h2 := rdepth_ok t h
 obtain ⟨v, fn, args⟩ := t
 simp [Term.enc] at h1 h2 ⊢
 refine pcl_body code15 ?_
 by_cases hs : (Term.mk v fn args).sizeW ≤ 300
 ·by_cases hd : (Term.mk v fn args).depthW ≤ 100 <;> simp [plc_raw, h1, h2, hs, hd]
 ·simp [plc_raw, h1, h2, hs]
theorem parts_len (t : Term) : t.parts.length = t.size := by
 refine Term.ind (p := fun t => t.parts.length = t.size) (fun v fn args ih => ?_) t
 have hl : ∀ l : List Term, (∀ x ∈ l, x.parts.length = x.size) → (partsL l).length = sizeL l := by
  intro l
  induction l with
  | nil => intro _; rfl
  | cons t r ih2 => intro h; simp only [partsL, sizeL, List.length_append]; rw [h t (by simp), ih2 fun x hx => h x (by simp [hx])]
 simp only [Term.parts, Term.size, List.length_append, List.length_singleton, hl args ih]; omega
end Go.Proofs.Ytiafeijkifpfaaa.Am

/-
 One number just if it is one term: what is checked of each term. No condition.
-/
namespace Go.Proofs.Ytiafeijkifpfaaa.Am
open Go Go.Proofs
set_option maxHeartbeats 4000000
set_option maxRecDepth 20000
set_option linter.unusedSimpArgs false
set_option linter.unusedVariables false
abbrev ckT (l : List Term) (o : Oid) (vi vk : AV) (i : Nat) (id : Int) (j : Nat) : List AV := [.d (.sl (encL l) l.length false none), .junk, .d (.bool false), .ptr o 0 3, .junk, vi, vk, .d (.int .i64 i), .d (.int .i64 id), .junk, .d (.int .i64 j), .junk, .junk, .junk, .junk, .junk, .junk, .junk, .junk, .junk, .junk, .junk, .junk, .junk, .junk, .junk, .junk, .junk, .junk, .junk, .junk, .junk, .junk, .junk, .junk, .junk, .junk, .junk, .junk, .junk, .junk, .junk, .junk, .junk, .junk, .junk, .junk, .junk, .junk, .junk, .junk, .junk, .junk, .junk, .junk, .junk, .junk, .junk, .junk, .junk, .junk, .junk, .junk, .junk, .junk, .junk, .junk, .junk, .junk, .junk, .junk, .junk, .junk, .junk, .junk, .junk, .junk, .junk, .junk, .junk, .junk, .junk, .junk, .junk, .junk, .junk, .junk, .junk, .junk, .junk, .junk, .junk, .junk, .junk, .junk, .junk, .junk, .junk, .junk, .junk, .junk, .junk, .junk, .junk, .junk, .junk, .junk, .junk, .junk, .junk, .junk, .junk, .junk, .junk, .junk, .junk, .junk, .junk, .junk, .junk, .junk, .junk, .junk, .junk, .junk, .junk, .junk, .junk, .junk, .junk, .junk, .junk, .junk, .junk, .junk, .junk, .junk, .junk, .junk, .junk, .junk, .junk, .junk, .junk, .junk, .junk, .junk, .junk, .junk, .junk, .junk, .junk, .junk, .junk, .junk, .junk, .junk, .junk, .junk, .junk, .junk, .junk]
theorem RowD.pos {H : Hp} {sz : Nat} {v : AV} {q : Oid} {cs : List D} {n : Nat} (h : RowD H sz v q cs n) (hn : 0 < n) : v = .osl q 0 n sz cs.length ∧ H q = some (.grow (cs.map .d)) ∧ cs.length = n * sz := by
 cases h with
 | nil => omega
 | vn _ h => omega
 | row _ _ _ h hl => exact ⟨rfl, h, hl⟩
theorem RowD.lenI {H : Hp} {sz : Nat} {v : AV} {q : Oid} {cs : List D} {n : Nat} (h : RowD H sz v q cs n) {T : TypeId} (hk : tkind Try.prog T = 3) : lenD Try.prog T v = some (.int .i64 n) := by
 cases h with
 | nil => simp [hk]
 | vn _ h => simp [hk]
 | row _ _ _ h hl => simp [hk]
theorem RowD.form {H : Hp} {sz : Nat} {v : AV} {q : Oid} {cs : List D} {n : Nat} (h : RowD H sz v q cs n) : (v = .d (.sl [] 0 true (some true)) ∧ n = 0) ∨ ∃ s ver, v = .osl q 0 n s ver := by
 cases h with
 | nil => exact .inl ⟨rfl, rfl⟩
 | vn _ h => exact .inr ⟨_, _, rfl⟩
 | row _ _ _ h hl => exact .inr ⟨_, _, rfl⟩
theorem check_loop (l : List Term) (o : Oid) {H : Hp} {vi vk : AV} {q1 q2 : Oid} {ids : List Int} {ks : List Term} (hlen : ids.length = ks.length) (hks : ks.length ≤ 1000000) (r1 : RowD H 1 vi q1 (ids.map (D.int .i64 ·)) ks.length) (r2 : RowD H 3 vk q2 (encL ks) ks.length) (hl : l.length ≤ 9223372036854775807) {i : Nat} (hi : i < l.length) (hok : l[i].ok) (hko : ∀ k ∈ ks, k.ok) (id : Int)
  (hsame : ∀ (j : Nat) (hj : j < ks.length), decide (ids[j]'(by omega) = id) = ks[j].sameB l[i]) (nx : Nat) :
  ∃ nx', aloop Try.prog plc b4_1 ⟨[true, false, true, true, false, true, true, true, true, false, true, true, true, true, true, false, true, true, true, false, false, false, false, false, false, false, false, false, false, false, false, false, false, false, false, false, false, false, false, true, true, false, false, false, false, false, false, false, false, false, false, false, false, false, false, false, false, false, false, false, false, false, false, false, false, false, false, false, false, false, false, false, false, false, false, false, false, false, false, false, false, true, true, true, true, true, true, true, true, true, true, true, true, true, true, true, true, true, true, true, true, true, true, true, true, true, true, true, true, true, true, true, true, true, true, true, true, true, true, true, true, true, true, true, true, true, true, true, true, true, true, true, true, true, true, true, true, true, true, true, true, true, true, true, true, true, true, true, true, true, true, true, true, true, true, true, true, true, true, true, true, true], none⟩ ⟨ckT l o vi vk i id 0, H, nx⟩ = some (.exit 2, ⟨ckT l o vi vk i id ks.length, H, nx'⟩) ∧ nx ≤ nx' := by
 obtain ⟨v, fn, args, a⟩ := at_ok hl hi
 have hget : l[i] = .mk v fn args := a.get
 rw [hget] at hok hsame
 have key := loop_ruleN (P := Try.prog) (pol := plc) (c := b4_1) (m := ⟨[true, false, true, true, false, true, true, true, true, false, true, true, true, true, true, false, true, true, true, false, false, false, false, false, false, false, false, false, false, false, false, false, false, false, false, false, false, false, false, true, true, false, false, false, false, false, false, false, false, false, false, false, false, false, false, false, false, false, false, false, false, false, false, false, false, false, false, false, false, false, false, false, false, false, false, false, false, false, false, false, false, true, true, true, true, true, true, true, true, true, true, true, true, true, true, true, true, true, true, true, true, true, true, true, true, true, true, true, true, true, true, true, true, true, true, true, true, true, true, true, true, true, true, true, true, true, true, true, true, true, true, true, true, true, true, true, true, true, true, true, true, true, true, true, true, true, true, true, true, true, true, true, true, true, true, true, true, true, true, true, true, true], none⟩)
  (N := fun s : Nat × Nat => s.2) (tm := fun s => ckT l o vi vk i id s.1) (Hf := fun _ => H) (I := fun s => s.1 ≤ ks.length ∧ nx ≤ s.2)
  (μ := fun s => ks.length - s.1) (res := fun _ => ()) (R := fun _ e st => e = .exit 2 ∧ ∃ nx', st = ⟨ckT l o vi vk i id ks.length, H, nx'⟩ ∧ nx ≤ nx')
  (fun s hI => by
   obtain ⟨j, n⟩ := s
   obtain ⟨hj, hle⟩ := hI
   simp only at hj hle
   rcases Nat.lt_or_ge j ks.length with hlt | hlt
   ·obtain ⟨rfl, e1, l1⟩ := r1.pos (by omega)
    obtain ⟨rfl, e2, l2⟩ := r2.pos (by omega)
    obtain ⟨v2, fn2, args2, b⟩ := at_ok (ts := ks) (by omega) hlt
    have hget2 : ks[j] = .mk v2 fn2 args2 := b.get
    have hs := same_ok (.mk v2 fn2 args2) (hko _ b.mem) (.mk v fn args) hok
    have hse := hsame j hlt
    rw [hget2] at hse
    rw [← hse] at hs
    simp [Term.enc] at hs
    have hjl : (j : Int) < (ks.length : Int) := by omega
    have hji : j < ids.length := by omega
    have hx : (List.map AV.d (ids.map (D.int .i64 ·)))[j]? = some (.d (.int .i64 ids[j])) := by simp [hji]
    have hd : List.take 3 (List.drop (j * 3) (List.map AV.d (encL ks))) = [.d (.int .i64 v2), .d (.str fn2), .d (.sl (encL args2) args2.length false none)] := by
     rw [← List.map_drop, ← List.map_take, b.cells]; rfl
    obtain ⟨cs1, hcs1⟩ : ∃ cs, cs = ids.map (D.int .i64 ·) := ⟨_, rfl⟩
    obtain ⟨cs2, hcs2⟩ : ∃ cs, cs = encL ks := ⟨_, rfl⟩
    rw [← hcs1] at e1 l1 hx ⊢
    rw [← hcs2] at e2 l2 hd ⊢
    have hw : IntKind.i64.wrap ((j : Int) + 1) = (j : Int) + 1 := wrap_i64 (by omega) (by omega)
    have h33 : j * 3 + 3 ≤ ks.length * 3 := by omega
    simp [b4_1, plc_raw, a.lti, a.sz, a.ltm, a.cells, a.le3, e1, e2, l1, l2, hjl, hx, hd, hs, hw, h33, Nat.add_assoc]
    exact .next (j + 1, _) rfl rfl rfl ⟨hlt, by simp only; omega⟩ (by simp only; omega) rfl
   ·obtain rfl : j = ks.length := Nat.le_antisymm hj hlt
    rcases r1.form with ⟨rfl, h0⟩ | ⟨s1, ver, rfl⟩
    ·simp [b4_1, plc_raw, h0, Nat.add_assoc]
     exact .fin _ _ ⟨rfl, n + 4, by simp [h0], by omega⟩
    ·simp [b4_1, plc_raw, Nat.add_assoc]
     exact .fin _ _ ⟨rfl, n + 4, by simp, by omega⟩) (0, nx) ⟨Nat.zero_le _, Nat.le_refl _⟩
 obtain ⟨e, st, hrun, rfl, nx', rfl, hle⟩ := key
 exact ⟨nx', hrun, hle⟩
end Go.Proofs.Ytiafeijkifpfaaa.Am

/-
 The document's bank: what is looked up in its row, and a term's parts. No condition.
-/
namespace Go.Proofs.Ytiafeijkifpfaaa.Am
open Go Go.Proofs
set_option maxHeartbeats 4000000
set_option maxRecDepth 20000
set_option linter.unusedSimpArgs false
set_option linter.unusedVariables false
def Nd.enc (n : Nd) : List D := [.int .i64 n.id, .int .i64 n.t.v, .str n.t.fn, .sl (encL n.t.args) n.t.args.length false none, .int .i64 n.kept]
def encN : List Nd → List D
 | [] => []
 | n :: r => n.enc ++ encN r
theorem encN_len : ∀ L : List Nd, (encN L).length = L.length * 5
 | [] => rfl
 | n :: r => by simp [encN, Nd.enc, encN_len r]; omega
theorem encN_append (a b : List Nd) : encN (a ++ b) = encN a ++ encN b := by
 induction a with
 | nil => rfl
 | cons t r ih => simp [encN, ih]
theorem encN_drop : ∀ (L : List Nd) (i : Nat), (encN L).drop (i * 5) = encN (L.drop i)
 | [], i => by simp [encN]
 | n :: r, 0 => by simp [encN]
 | n :: r, i + 1 => by rw [show (i + 1) * 5 = i * 5 + 1 + 1 + 1 + 1 + 1 by omega]; simp [encN, Nd.enc, encN_drop r i]
structure NAt (L : List Nd) (i : Nat) (n : Nd) : Prop where
 get : L[i]? = some n
 lti : (i : Int) < (L.length : Int)
 len : (encN L).length = L.length * 5
 ltm : i * 5 < L.length * 5
 dr : (encN L).drop (i * 5) = .int .i64 n.id :: .int .i64 n.t.v :: .str n.t.fn :: .sl (encL n.t.args) n.t.args.length false none :: .int .i64 n.kept :: encN (L.drop (i + 1))
 le5 : 5 ≤ L.length * 5 - i * 5
 w : IntKind.i64.wrap ((i : Int) + 1) = (i : Int) + 1
theorem n_at {L : List Nd} (hn : L.length ≤ 4611686018427387904) {i : Nat} (hi : i < L.length) : NAt L i L[i] := by
 have hd : L.drop i = L[i] :: L.drop (i + 1) := List.drop_eq_getElem_cons hi
 exact ⟨by simp [hi], by omega, encN_len L, by omega, by rw [encN_drop, hd]; simp [encN, Nd.enc], by omega, wrap_i64 (by omega) (by omega)⟩
abbrev dB (lim : Int) (L : List Nd) (nl : Option Bool) : D := .dptr [.int .i64 lim, .sl (encN L) L.length false nl]
def idxI (o : Option Nat) : Int := match o with | some k => k | none => -1
theorem find_loop (lim : Int) (L : List Nd) (nl : Option Bool) (hn : L.length ≤ 4611686018427387904) (hL : ∀ n ∈ L, n.t.ok) (t : Term) (ht : t.ok) :
  ∃ e st, aloop Try.prog plc b51_0 ⟨[true, false, false, true, true, true, false, false, false, false, false, false, false, false, false, false, false, false, false, false, false, false, false, false, false, false], some 3⟩ ⟨[.d (dB lim L nl), .junk, .junk, .ptr (0, 0) 0 3, .d (.int .i64 0), .d (.int .i64 0), .junk, .junk, .junk, .junk, .junk, .junk, .junk, .junk, .junk, .junk, .junk, .junk, .junk, .junk, .junk, .junk, .junk, .junk, .junk, .junk], termH t.v t.fn t.args, 3⟩ = some (e, st) ∧
   (match fromI (fun n : Nd => n.t.sameB t) L 0 with | some k => AtRet 4 (.d (.int .i64 k)) e st | none => AtExit 0 [.d (dB lim L nl), .junk, .junk, .ptr (0, 0) 0 3, .d (.int .i64 0), .d (.int .i64 L.length), .junk, .junk, .junk, .junk, .junk, .junk, .junk, .junk, .junk, .junk, .junk, .junk, .junk, .junk, .junk, .junk, .junk, .junk, .junk, .junk] (termH t.v t.fn t.args) e st) := by
 refine loop_rule (b := 3) (tm := fun (i : Nat) => [.d (dB lim L nl), .junk, .junk, .ptr (0, 0) 0 3, .d (.int .i64 0), .d (.int .i64 i), .junk, .junk, .junk, .junk, .junk, .junk, .junk, .junk, .junk, .junk, .junk, .junk, .junk, .junk, .junk, .junk, .junk, .junk, .junk, .junk]) (Hf := fun _ => termH t.v t.fn t.args)
  (I := fun i => i ≤ L.length) (μ := fun i => L.length - i) (res := fun i => fromI (fun n : Nd => n.t.sameB t) L i) (R := fun o e st => match o with | some k => AtRet 4 (.d (.int .i64 k)) e st | none => AtExit 0 [.d (dB lim L nl), .junk, .junk, .ptr (0, 0) 0 3, .d (.int .i64 0), .d (.int .i64 L.length), .junk, .junk, .junk, .junk, .junk, .junk, .junk, .junk, .junk, .junk, .junk, .junk, .junk, .junk, .junk, .junk, .junk, .junk, .junk, .junk] (termH t.v t.fn t.args) e st)
  (fun i nx hi => ?_) 0 (Nat.zero_le _)
 rcases Nat.lt_or_ge i L.length with hl | hl
 ·have a := n_at hn hl
  have hm : L[i] ∈ L := List.getElem_mem hl
  have hs := rsame_ok L[i].t (hL _ hm) t ht
  obtain ⟨n, hn'⟩ : ∃ n, n = L[i] := ⟨_, rfl⟩
  have hstep := fromI_step (p := fun n : Nd => n.t.sameB t) hl
  rw [← hn'] at a hs hstep
  obtain ⟨id, ⟨v, fn, args⟩, kept⟩ := n
  obtain ⟨v2, fn2, args2⟩ := t
  have alen := a.len
  have adr := a.dr
  simp only [Term.v, Term.fn, Term.args] at adr
  simp [Term.enc] at hs
  conv => arg 9; arg 4; unfold b51_0
  cases hp : (Term.mk v fn args).sameB (.mk v2 fn2 args2) <;> rw [hp] at hs hstep <;> simp [a.lti, alen, a.ltm, adr, a.le5, a.w, plc_raw, hs, termH, Term.v, Term.fn, Term.args]
  ·exact .next (i + 1) (by omega) rfl (by simp [termH, Term.v, Term.fn, Term.args]) hl (by omega) (by rw [hstep]; rfl)
  ·exact .fin _ _ (by rw [hstep]; exact ⟨rfl, rfl⟩)
 ·obtain rfl : i = L.length := Nat.le_antisymm hi hl
  simp [b51_0, termH]
  exact .fin _ _ (by rw [fromI_end]; exact .mk)
theorem find_ok (lim : Int) (L : List Nd) (nl : Option Bool) (hn : L.length ≤ 4611686018427387904) (hL : ∀ n ∈ L, n.t.ok) (t : Term) (ht : t.ok) :
  pcl Cp 51 [dB lim L nl, .agg t.enc] = some (.int .i64 (idxI (L.findIdx? fun n => n.t.sameB t))) := by
 obtain ⟨e, st, h1, h2⟩ := find_loop lim L nl hn hL t ht
 refine pcl_body code51 ?_
 obtain ⟨v2, fn2, args2⟩ := t
 simp [fromI_zero, termH, Term.v, Term.fn, Term.args] at h1 h2
 simp [Term.enc, h1]
 revert h2
 cases L.findIdx? (fun n => n.t.sameB (.mk v2 fn2 args2)) with
 | some k => rintro ⟨rfl, h⟩; simp [h, idxI]
 | none => rintro ⟨rfl, nx, rfl⟩; simp [idxI]
theorem at_loop (lim : Int) (L : List Nd) (nl : Option Bool) (hn : L.length ≤ 4611686018427387904) (x : Int) :
  ∃ e st, aloop Try.prog plc b52_0 ⟨[true, true, false, false, true, true, false, false, false, false, false, false, false, false, false, false, false, false, false, false, false, false, false, false, false, false], some 2⟩ ⟨[.d (dB lim L nl), .d (.int .i64 x), .junk, .junk, .d (.int .i64 0), .d (.int .i64 0), .junk, .junk, .junk, .junk, .junk, .junk, .junk, .junk, .junk, .junk, .junk, .junk, .junk, .junk, .junk, .junk, .junk, .junk, .junk, .junk], fun _ => none, 2⟩ = some (e, st) ∧
   (match fromI (fun n : Nd => decide (n.id = x)) L 0 with | some k => AtRet 4 (.d (.int .i64 k)) e st | none => AtExit 0 [.d (dB lim L nl), .d (.int .i64 x), .junk, .junk, .d (.int .i64 0), .d (.int .i64 L.length), .junk, .junk, .junk, .junk, .junk, .junk, .junk, .junk, .junk, .junk, .junk, .junk, .junk, .junk, .junk, .junk, .junk, .junk, .junk, .junk] (fun _ => none) e st) := by
 refine loop_rule (b := 2) (tm := fun (i : Nat) => [.d (dB lim L nl), .d (.int .i64 x), .junk, .junk, .d (.int .i64 0), .d (.int .i64 i), .junk, .junk, .junk, .junk, .junk, .junk, .junk, .junk, .junk, .junk, .junk, .junk, .junk, .junk, .junk, .junk, .junk, .junk, .junk, .junk]) (Hf := fun _ => fun _ => none)
  (I := fun i => i ≤ L.length) (μ := fun i => L.length - i) (res := fun i => fromI (fun n : Nd => decide (n.id = x)) L i) (R := fun o e st => match o with | some k => AtRet 4 (.d (.int .i64 k)) e st | none => AtExit 0 [.d (dB lim L nl), .d (.int .i64 x), .junk, .junk, .d (.int .i64 0), .d (.int .i64 L.length), .junk, .junk, .junk, .junk, .junk, .junk, .junk, .junk, .junk, .junk, .junk, .junk, .junk, .junk, .junk, .junk, .junk, .junk, .junk, .junk] (fun _ => none) e st)
  (fun i nx hi => ?_) 0 (Nat.zero_le _)
 rcases Nat.lt_or_ge i L.length with hl | hl
 ·have a := n_at hn hl
  obtain ⟨n, hn'⟩ : ∃ n, n = L[i] := ⟨_, rfl⟩
  have hstep := fromI_step (p := fun n : Nd => decide (n.id = x)) hl
  rw [← hn'] at a hstep
  have alen := a.len
  have adr := a.dr
  conv => arg 9; arg 4; unfold b52_0
  by_cases hp : n.id = x <;> simp [a.lti, alen, a.ltm, adr, a.le5, a.w, plc_raw, hp]
  ·exact .fin _ _ (by rw [hstep]; simp only [hp, decide_true, if_true]; exact ⟨rfl, rfl⟩)
  ·exact .next (i + 1) (by omega) rfl rfl hl (by omega) (by rw [hstep]; simp [hp])
 ·obtain rfl : i = L.length := Nat.le_antisymm hi hl
  simp [b52_0]
  exact .fin _ _ (by rw [fromI_end]; exact .mk)
theorem atId_ok (lim : Int) (L : List Nd) (nl : Option Bool) (hn : L.length ≤ 4611686018427387904) (x : Int) :
  pcl Cp 52 [dB lim L nl, .int .i64 x] = some (.int .i64 (idxI (L.findIdx? fun n => decide (n.id = x)))) := by
 obtain ⟨e, st, h1, h2⟩ := at_loop lim L nl hn x
 refine pcl_body code52 ?_
 simp [fromI_zero] at h1 h2
 simp [h1]
 revert h2
 cases L.findIdx? (fun n => decide (n.id = x)) with
 | some k => rintro ⟨rfl, h⟩; simp [h, idxI]
 | none => rintro ⟨rfl, nx, rfl⟩; simp [idxI]
theorem wrap_cast {n : Nat} (h : n ≤ 1048576) : IntKind.i64.wrap ((n : Int) + 1) = (n : Int) + 1 := wrap_i64 (by omega) (by omega)
theorem append_terms {H : Hp} {v : AV} {q : Oid} {cs : List D} {n : Nat} (h : RowD H 3 v q cs n) (hn : n ≤ 1048576) {l : List Term} (hl0 : 0 < l.length) (hl : l.length ≤ 1048576) {nl : Option Bool} (id : Nat) :
  ∃ ver H', appendO Try.prog H id 30 30 v (.d (.sl (encL l) l.length false nl)) = some (.osl (RowD.next v q id) 0 (n + l.length) 3 ver, H') ∧ RowD H' 3 (.osl (RowD.next v q id) 0 (n + l.length) 3 ver) (RowD.next v q id) (cs ++ encL l) (n + l.length) ∧ ∀ p, p ≠ RowD.next v q id → H' p = H p := by
 have hx : (encL l).length = l.length * 3 := encL_len l
 have h0 : ¬ l.length = 0 := by omega
 have h9 : ¬ 68719476736 < l.length * 3 := by omega
 have hsrc : srcCells Try.prog H 3 30 (.d (.sl (encL l) l.length false nl)) = some (encL l, l.length, []) := by
  simp [srcCells, srcRaw, hx]
 cases h with
 | nil =>
  have hr := RowD.row (H := upd H (id, 0) (.grow ((encL l).map .d))) (sz := 3) (id, 0) (encL l) l.length (upd_same _ _ _) hx
  rw [← Nat.zero_add l.length] at hr
  refine ⟨_, _, ?_, hr, fun p hp => upd_ne hp⟩
  simp only [RowD.next]
  simp [appendO, hsrc, hx, growO, h0, h9]
 | vn _ h =>
  have hr := RowD.row (H := upd H q (.grow ((encL l).map .d))) (sz := 3) q (encL l) l.length (upd_same _ _ _) hx
  rw [← Nat.zero_add l.length] at hr
  refine ⟨_, _, ?_, hr, fun p hp => upd_ne hp⟩
  simp only [RowD.next]
  simp [appendO, hsrc, hx, growO, h, h0, h9]
 | row _ _ _ h hl' =>
  have h3 : List.take (n * 3) (cs.map AV.d) = cs.map .d := List.take_of_length_le (by simp [hl'])
  have h4 : ¬ n * 3 + l.length * 3 ≤ n * 3 := by omega
  have h5 : n * 3 ≤ 68719476736 := by omega
  have hr := RowD.row (H := upd H q (.grow ((cs ++ encL l).map .d))) (sz := 3) q (cs ++ encL l) (n + l.length) (upd_same _ _ _) (by rw [List.length_append, hl', hx]; omega)
  refine ⟨_, _, ?_, hr, fun p hp => upd_ne hp⟩
  simp only [RowD.next]
  simp [appendO, hsrc, hx, growO, h, hl', h3, h0, h4, h5, h9]
end Go.Proofs.Ytiafeijkifpfaaa.Am

/-
 The document: a term's parts, and whether a term has a part. No condition.
-/
namespace Go.Proofs.Ytiafeijkifpfaaa.Am
open Go Go.Proofs
set_option maxHeartbeats 4000000
set_option maxRecDepth 20000
set_option linter.unusedSimpArgs false
set_option linter.unusedVariables false
structure PaS where
 i : Nat
 H : Hp
 n : Nat
 v : AV
structure PaI (v0 : Int) (fn0 : ByteArray) (ts : List Term) (s : PaS) : Prop where
 le : s.i ≤ ts.length
 nx : 4 ≤ s.n
 row : RowD s.H 3 s.v (2, 1) (encL (partsL (ts.take s.i))) (partsL (ts.take s.i)).length
 osl : ∃ a b c, s.v = .osl (2, 1) 0 a b c
 obj : s.H (0, 0) = some (.cells [.d (.int .i64 v0), .d (.str fn0), .d (.sl (encL ts) ts.length false none)])
abbrev paT (v : AV) (i : Nat) : List AV := [.junk, .ptr (0, 0) 0 3, .osl (1, 1) 0 0 1 0, v, .d (.int .i64 i), .junk, .junk, .junk, .junk, .junk, .junk, .junk, .junk, .junk, .junk, .junk, .junk, .junk, .junk, .junk, .junk, .junk, .junk, .junk]
def PaR (v0 : Int) (fn0 : ByteArray) (ts : List Term) (_ : Unit) (e : Ex) (st : St) : Prop :=
 e = .exit 0 ∧ ∃ s, PaI v0 fn0 ts s ∧ s.i = ts.length ∧ st = ⟨paT s.v ts.length, s.H, s.n⟩
theorem parts_loop (v0 : Int) (fn0 : ByteArray) (ts : List Term) (hn : ts.length ≤ 1048576) (hrec : ∀ x ∈ ts, pcl Cp 50 [.agg x.enc] = some (.sl (encL x.parts) x.parts.length false (some false))) (hsz : (partsL ts).length ≤ 1048576) (s0 : PaS) (h0 : PaI v0 fn0 ts s0) (hi : s0.i = 0) :
  ∃ s, PaI v0 fn0 ts s ∧ s.i = ts.length ∧ aloop Try.prog plc b50_0 ⟨[false, true, true, true, true, false, false, false, false, false, false, false, false, false, false, false, false, false, false, false, true, true, true, true], some 4⟩ ⟨paT s0.v 0, s0.H, s0.n⟩ = some (.exit 0, ⟨paT s.v ts.length, s.H, s.n⟩) := by
 have key := loop_ruleN (P := Try.prog) (pol := plc) (c := b50_0) (m := ⟨[false, true, true, true, true, false, false, false, false, false, false, false, false, false, false, false, false, false, false, false, true, true, true, true], some 4⟩)
  (N := fun s : PaS => s.n) (tm := fun s => paT s.v s.i) (Hf := fun s => s.H) (I := PaI v0 fn0 ts) (μ := fun s => ts.length - s.i) (res := fun _ => ()) (R := PaR v0 fn0 ts)
  (fun s hI => by
   have hnx := hI.nx
   have hobj := hI.obj
   obtain ⟨a1, b1, c1, hv⟩ := hI.osl
   rcases Nat.lt_or_ge s.i ts.length with hl | hl
   ·obtain ⟨v, fn, args, a⟩ := at_ok (by omega) hl
    have hget : ts[s.i] = .mk v fn args := a.get
    have hc := hrec _ a.mem
    simp only [Term.enc] at hc
    have h1 := partsL_take hl
    have h2 := partsL_len (ts := ts) (i := s.i + 1)
    have h3 := partsL_len (ts := ts) (i := s.i)
    rw [hget] at h1
    rw [h1, List.length_append] at h2
    have hp0 : 0 < (Term.mk v fn args).parts.length := by rw [parts_len]; exact Term.size_pos _
    obtain ⟨ver, H2, c2, r2, k2⟩ := append_terms hI.row (by omega) (l := (Term.mk v fn args).parts) hp0 (by omega) (nl := some false) (s.n + 12)
    rw [← encL_append, ← List.length_append, ← h1] at r2
    rw [← List.length_append, ← h1] at c2
    rw [hv] at c2 r2 k2
    simp only [RowD.next] at c2 r2 k2
    obtain ⟨pl, hpl⟩ : ∃ pl, pl = (partsL (ts.take (s.i + 1))).length := ⟨_, rfl⟩
    rw [← hpl] at c2 r2
    simp [b50_0, plc_raw, hobj, hv, a.lti, a.sz, a.ltm, a.cells, a.le3, a.w, hc, c2, Nat.add_assoc]
    have hnext : PaI v0 fn0 ts ⟨s.i + 1, below 4 H2, s.n + 17, .osl (2, 1) 0 pl 3 ver⟩ := by
     refine ⟨hl, by simp only; omega, ?_, ⟨_, _, _, rfl⟩, ?_⟩
     ·simp only; rw [← hpl]; exact r2.keep (below_lt (k := 4) (p := (2, 1)) (by decide))
     ·show below 4 H2 (0, 0) = _
      rw [below_lt (k := 4) (p := (0, 0)) (by decide), k2 _ (by simp)]; exact hobj
    exact .next _ rfl rfl rfl hnext (by simp only; omega) rfl
   ·have hte : s.i = ts.length := Nat.le_antisymm hI.le hl
    simp [b50_0, hobj, hte, hv, Nat.add_assoc]
    refine .fin _ _ ⟨rfl, ⟨s.i, below 4 s.H, s.n + 5, s.v⟩, ⟨hI.le, by simp only; omega, hI.row.keep (below_lt (k := 4) (p := (2, 1)) (by decide)), hI.osl, (below_lt (k := 4) (p := (0, 0)) (by decide)).trans hobj⟩, hte, by simp [hv]⟩) s0 h0
 obtain ⟨e, st, hrun, rfl, s, hs, hsi, rfl⟩ := key
 rw [hi] at hrun
 exact ⟨s, hs, hsi, hrun⟩
theorem parts_ok (t : Term) : t.ok → t.size ≤ 1048576 → pcl Cp 50 [.agg t.enc] = some (.sl (encL t.parts) t.parts.length false (some false)) := by
 refine Term.ind (p := fun t => t.ok → t.size ≤ 1048576 → pcl Cp 50 [.agg t.enc] = some (.sl (encL t.parts) t.parts.length false (some false))) (fun v fn ts ih h hs => ?_) t
 have hpl := parts_len (.mk v fn ts)
 have hpl2 : (Term.mk v fn ts).parts.length = (partsL ts).length + 1 := by simp [Term.parts]
 have hln : ts.length ≤ (partsL ts).length := by
  clear ih h hs hpl hpl2
  induction ts with
  | nil => simp
  | cons x r ih => have := parts_len x; have := x.size_pos; simp only [partsL, List.length_cons, List.length_append]; omega
 obtain ⟨Hi, hHi⟩ : ∃ Hi, Hi = upd (upd (upd (fun _ => none) (0, 0) (.cells [.d (.int .i64 v), .d (.str fn), .d (.sl (encL ts) ts.length false none)])) (1, 1) .vnil) (2, 1) .vnil := ⟨_, rfl⟩
 obtain ⟨s, hI, hsi, hrun⟩ := parts_loop v fn ts (by omega) (fun x hx => ih x hx (okL_mem h.2 x hx) (by have := sizeL_mem hx; simp only [Term.size] at hs; omega)) (by omega) ⟨0, Hi, 4, .osl (2, 1) 0 0 1 0⟩
  ⟨Nat.zero_le _, Nat.le_refl _, .vn _ (by simp only [hHi]; exact upd_same _ _ _), ⟨_, _, _, rfl⟩, by simp [hHi]⟩ rfl
 obtain ⟨i, Hs, n, w⟩ := s
 obtain ⟨_, hnx, hrow, ⟨a1, b1, c1, hv⟩, hobj⟩ := hI
 simp only at hsi hrun hrow hnx hv hobj
 subst hsi
 rw [List.take_length] at hrow
 simp [paT] at hrun
 obtain ⟨Ha, hHa⟩ : ∃ Ha, Ha = upd Hs (n + 2, 0) (.cells [.d (.int .i64 v), .d (.str fn), .d (.sl (encL ts) ts.length false none)]) := ⟨_, rfl⟩
 obtain ⟨ver, H2, c2, r2, k2⟩ := append_term (H := Ha) (hrow.keep (by rw [hHa, upd_ne]; intro e; cases e)) (by omega) (e := (n + 2, 0)) (by rw [hHa]; exact upd_same _ _ _) (n + 3)
 rw [hv] at c2 r2 k2
 simp only [RowD.next] at c2 r2 k2
 obtain ⟨rfl, _⟩ | ⟨hq, hl⟩ : False ∨ (H2 (2, 1) = some (.grow ((encL (partsL ts) ++ [D.int .i64 v, D.str fn, D.sl (encL ts) ts.length false none]).map .d)) ∧ ver = (partsL ts).length * 3 + 3) := by
  right
  obtain ⟨e1, e2, e3⟩ := r2.pos (by omega)
  refine ⟨e2, ?_⟩
  simp only [AV.osl.injEq] at e1
  rw [e1.2.2.2.2, e3]; omega
 refine pcl_body code50 ?_
 have hpe : encL (Term.mk v fn ts).parts = encL (partsL ts) ++ [.int .i64 v, .str fn, .sl (encL ts) ts.length false none] := by
  rw [Term.parts, encL_append]; simp [encL, Term.enc]
 have hle : (encL (partsL ts)).length = (partsL ts).length * 3 := encL_len _
 rw [hpe, hpl2]
 have hmd := mapD_encT H2 5 (encL (partsL ts) ++ [D.int .i64 v, D.str fn, D.sl (encL ts) ts.length false none])
 obtain ⟨cs, hcs⟩ : ∃ cs, cs = encL (partsL ts) ++ [D.int .i64 v, D.str fn, D.sl (encL ts) ts.length false none] := ⟨_, rfl⟩
 have hcl : cs.length = (partsL ts).length * 3 + 3 := by rw [hcs, List.length_append, hle]; rfl
 have hcn : cs ≠ [] := fun e => by rw [e] at hcl; simp at hcl
 rw [← hcs] at hq hmd ⊢
 have h33 : ∀ l : List D, l.length = (partsL ts).length * 3 + 3 → List.take ((partsL ts).length * 3 + 3) (List.map AV.d l) = List.map AV.d l := fun l hl => List.take_of_length_le (by rw [List.length_map]; omega)
 simp [Term.enc, plc_raw, ← hHi, hrun, hobj, hv, ← hHa, c2, hq, hl, hcl, hcn, Nat.add_mul, h33 cs hcl, hmd, Nat.add_assoc]
theorem has_loop (v0 : Int) (fn0 : ByteArray) (args0 : List Term) (u : Term) (hu : u.ok) (l : List Term) (hn : l.length ≤ 4611686018427387904) (hl : ∀ x ∈ l, x.ok) :
  ∃ e st, aloop Try.prog plc b53_0 ⟨[false, false, false, true, true, true, true, false, false, false, false, false, false, false, false, false, false, false, false, false, false], some 7⟩ ⟨[.junk, .junk, .junk, .ptr (1, 0) 0 3, .d (.bool false), .d (.sl (encL l) l.length false (some false)), .d (.int .i64 0), .junk, .junk, .junk, .junk, .junk, .junk, .junk, .junk, .junk, .junk, .junk, .junk, .junk, .junk], termH2 v0 fn0 args0 u.v u.fn u.args, 7⟩ = some (e, st) ∧
   (if l.any (fun x => x.sameB u) then AtRet 4 (.d (.bool true)) e st else AtExit 0 [.junk, .junk, .junk, .ptr (1, 0) 0 3, .d (.bool false), .d (.sl (encL l) l.length false (some false)), .d (.int .i64 l.length), .junk, .junk, .junk, .junk, .junk, .junk, .junk, .junk, .junk, .junk, .junk, .junk, .junk, .junk] (termH2 v0 fn0 args0 u.v u.fn u.args) e st) := by
 refine loop_rule (b := 7) (tm := fun (i : Nat) => [.junk, .junk, .junk, .ptr (1, 0) 0 3, .d (.bool false), .d (.sl (encL l) l.length false (some false)), .d (.int .i64 i), .junk, .junk, .junk, .junk, .junk, .junk, .junk, .junk, .junk, .junk, .junk, .junk, .junk, .junk]) (Hf := fun _ => termH2 v0 fn0 args0 u.v u.fn u.args)
  (I := fun i => i ≤ l.length) (μ := fun i => l.length - i) (res := fun i => (l.drop i).any (fun x => x.sameB u)) (R := fun b e st => if b then AtRet 4 (.d (.bool true)) e st else AtExit 0 [.junk, .junk, .junk, .ptr (1, 0) 0 3, .d (.bool false), .d (.sl (encL l) l.length false (some false)), .d (.int .i64 l.length), .junk, .junk, .junk, .junk, .junk, .junk, .junk, .junk, .junk, .junk, .junk, .junk, .junk, .junk] (termH2 v0 fn0 args0 u.v u.fn u.args) e st)
  (fun i nx hi => ?_) 0 (Nat.zero_le _)
 rcases Nat.lt_or_ge i l.length with hlt | hlt
 ·obtain ⟨v, fn, args, a⟩ := at_ok (by omega) hlt
  have hs := rsame_ok _ (hl _ a.mem) u hu
  obtain ⟨v2, fn2, args2⟩ := u
  simp [Term.enc] at hs
  conv => arg 9; arg 4; unfold b53_0
  cases hp : (Term.mk v fn args).sameB (.mk v2 fn2 args2) <;> rw [hp] at hs <;> simp [a.lti, a.sz, a.ltm, a.cells, a.le3, a.w, plc_raw, hs, termH2, Term.v, Term.fn, Term.args]
  ·exact .next (i + 1) (by omega) rfl (by simp [termH2, Term.v, Term.fn, Term.args]) hlt (by omega) (by rw [a.dr, List.any_cons, hp]; rfl)
  ·exact .fin _ _ (by rw [a.dr, List.any_cons, hp]; exact ⟨rfl, rfl⟩)
 ·obtain rfl : i = l.length := Nat.le_antisymm hi hlt
  simp [b53_0, termH2]
  exact .fin _ _ (by rw [List.drop_length]; simp [termH2]; exact .mk)
theorem has_ok (t u : Term) (ht : t.ok) (hu : u.ok) (hs : t.size ≤ 1048576) (hp : ∀ x ∈ t.parts, x.ok) : pcl Cp 53 [.agg t.enc, .agg u.enc] = some (.bool (t.parts.any fun x => x.sameB u)) := by
 obtain ⟨e, st, h1, h2⟩ := has_loop t.v t.fn t.args u hu t.parts (by rw [parts_len]; omega) hp
 have hc := parts_ok t ht hs
 refine pcl_body code53 ?_
 obtain ⟨pl, hpl⟩ : ∃ pl, pl = t.parts := ⟨_, rfl⟩
 rw [← hpl] at h1 h2 hc ⊢
 clear hpl hp
 obtain ⟨v, fn, args⟩ := t
 obtain ⟨v2, fn2, args2⟩ := u
 simp [termH2, Term.v, Term.fn, Term.args, Term.enc] at h1 hc ⊢
 simp [plc_raw, hc, h1]
 cases hb : pl.any (fun x => x.sameB (.mk v2 fn2 args2)) <;> rw [hb] at h2 <;> simp at h2
 ·obtain ⟨rfl, nx, rfl⟩ := h2; simp
 ·obtain ⟨rfl, h⟩ := h2; simp [h]
end Go.Proofs.Ytiafeijkifpfaaa.Am

/-
 The document's bank on the objects: New, Get. No condition.
-/
namespace Go.Proofs.Ytiafeijkifpfaaa.Am
open Go Go.Proofs
set_option maxHeartbeats 4000000
set_option maxRecDepth 20000
set_option linter.unusedSimpArgs false
set_option linter.unusedVariables false
theorem reifyD (H : Hp) (k : Nat) (x : D) : reify H k (.d x) = some (x, []) := by cases k <;> simp [reify]
structure DH (H : Hp) (N : Nat) (oB q : Oid) (lim : Int) (L : List Nd) (v : AV) : Prop where
 root : H oB = some (.cells [.d (.int .i64 lim), v])
 row : RowD H 5 v q (encN L) L.length
 osl : ∃ a b c, v = .osl q 0 a b c
 ltB : oB.1 < N
 ltQ : q.1 < N
 ne : oB ≠ q
theorem DH.keep {H H' : Hp} {N M : Nat} {oB q : Oid} {lim : Int} {L : List Nd} {v : AV} (h : DH H N oB q lim L v) (k1 : H' oB = H oB) (k2 : H' q = H q) (hM : N ≤ M) : DH H' M oB q lim L v :=
 ⟨k1.trans h.root, h.row.keep k2, h.osl, by have := h.ltB; omega, by have := h.ltQ; omega, h.ne⟩
theorem DH.old {H H' : Hp} {N M : Nat} {oB q : Oid} {lim : Int} {L : List Nd} {v : AV} (h : DH H N oB q lim L v) (k : ∀ p : Oid, p.1 < N → H' p = H p) (hM : N ≤ M) : DH H' M oB q lim L v := h.keep (k _ h.ltB) (k _ h.ltQ) hM
theorem DH.reify {H : Hp} {N : Nat} {oB q : Oid} {lim : Int} {L : List Nd} {v : AV} (h : DH H N oB q lim L v) : ∃ nl is, Am.reify H 6 (.ptr oB 0 2) = some (dB lim L nl, is) := by
 have hr := h.root
 have hrow := h.row
 obtain ⟨a, b, c, rfl⟩ := h.osl
 cases L with
 | nil =>
  simp only [encN, List.length_nil] at hrow
  cases hrow with
  | vn _ hq => exact ⟨some true, [oB], by simp [Am.reify, hr, mapD, hq, encN]⟩
  | row _ _ _ hq hl => exact ⟨some false, [oB], by simp [Am.reify, hr, mapD, hq, encN]⟩
 | cons n r =>
  obtain ⟨e1, e2, e3⟩ := hrow.pos (by simp)
  have h1 := mapD_encT H 4 (encN (n :: r))
  have h2 : encN (n :: r) ≠ [] := by simp [encN, Nd.enc]
  have h3 : List.take ((r.length + 1) * 5) (List.map AV.d (encN (n :: r))) = List.map AV.d (encN (n :: r)) := List.take_of_length_le (by rw [List.length_map, e3]; simp)
  obtain ⟨cs, hcs⟩ : ∃ cs, cs = encN (n :: r) := ⟨_, rfl⟩
  rw [← hcs] at e1 e2 e3 h1 h2 h3
  simp only [AV.osl.injEq, true_and] at e1
  obtain ⟨rfl, rfl, rfl⟩ := e1
  simp only [List.length_cons] at e3
  refine ⟨some false, [oB, q], ?_⟩
  unfold dB
  rw [← hcs]
  simp [Am.reify, hr, mapD, e2, e3, h1, h2, h3]
theorem newR_bad {lim : Int} (h : lim < 1 ∨ lim > 1000000) (H : Hp) (nx : Nat) : acall Try.prog plc 13 [.d (.int .i64 lim)] H nx = some (.d .nilptr, H, nx + 8) := by
 refine acall_body code13 ?_
 by_cases h1 : lim < 1
 ·simp [plc_raw, h1, Nat.add_assoc]
 ·have h2 : 1000000 < lim := by omega
  simp [plc_raw, h1, h2, Nat.add_assoc]
theorem newR_ok {lim : Int} (h : 1 ≤ lim) (h2 : lim ≤ 1000000) (H : Hp) (nx : Nat) : ∃ H' nx', acall Try.prog plc 13 [.d (.int .i64 lim)] H nx = some (.ptr (nx + 9, 0) 0 2, H', nx') ∧ nx ≤ nx' ∧ (∀ p : Oid, p.1 < nx → H' p = H p) ∧ DH H' nx' (nx + 9, 0) (nx + 9, 2) lim [] (.osl (nx + 9, 2) 0 0 1 0) := by
 have h3 : ¬ lim < 1 := by omega
 have h4 : ¬ 1000000 < lim := by omega
 refine ⟨upd (upd H (nx + 9, 2) .vnil) (nx + 9, 0) (.cells [.d (.int .i64 lim), .osl (nx + 9, 2) 0 0 1 0]), nx + 11, acall_body code13 ?_, by omega, fun p hp => ?_, ⟨upd_same _ _ _, .vn _ (by simp), ⟨_, _, _, rfl⟩, by simp, by simp, by simp⟩⟩
 ·simp [plc_raw, h3, h4, Nat.add_assoc]
 ·rw [upd_old (o := p) (i := nx + 9) (by omega), upd_old (o := p) (i := nx + 9) (by omega)]
theorem findIdx_none {α : Type} {p : α → Bool} {l : List α} (h : l.find? p = none) : l.findIdx? p = none := by
 rw [List.findIdx?_eq_none_iff]
 intro x hx
 have := List.find?_eq_none.1 h x hx
 simpa using this
theorem findIdx_some {α : Type} {p : α → Bool} : ∀ {l : List α} {x : α}, l.find? p = some x → ∃ k, l.findIdx? p = some k ∧ l[k]? = some x ∧ k < l.length
 | [], x, h => by simp at h
 | a :: r, x, h => by
  rw [List.find?_cons] at h
  rw [List.findIdx?_cons]
  cases hp : p a with
  | true => rw [hp] at h; simp only [Option.some.injEq] at h; subst h; exact ⟨0, by simp, by simp, by simp⟩
  | false =>
   rw [hp] at h
   simp only at h
   obtain ⟨k, h1, h2, h3⟩ := findIdx_some h
   exact ⟨k + 1, by simp [h1], by simpa using h2, by simpa using h3⟩
structure RAt (L : List Nd) (cs : List D) (i : Nat) (n : Nd) : Prop where
 len : cs.length = L.length * 5
 lti : (i : Int) < (L.length : Int)
 ltm : i * 5 < L.length * 5
 id : (List.map AV.d cs)[i * 5]? = some (.d (.int .i64 n.id))
 kp : (List.map AV.d cs)[i * 5 + 4]? = some (.d (.int .i64 n.kept))
 tm : List.take 3 (List.drop (i * 5 + 1) (List.map AV.d cs)) = [.d (.int .i64 n.t.v), .d (.str n.t.fn), .d (.sl (encL n.t.args) n.t.args.length false none)]
 all : List.take 5 (List.drop (i * 5) (List.map AV.d cs)) = [.d (.int .i64 n.id), .d (.int .i64 n.t.v), .d (.str n.t.fn), .d (.sl (encL n.t.args) n.t.args.length false none), .d (.int .i64 n.kept)]
 le4 : i * 5 + 4 ≤ L.length * 5
 le5 : i * 5 + 5 ≤ L.length * 5
theorem r_at {L : List Nd} (hn : L.length ≤ 4611686018427387904) {i : Nat} (hi : i < L.length) : RAt L (encN L) i L[i] := by
 have a := n_at hn hi
 have hd := a.dr
 have g : ∀ k, (encN L)[i * 5 + k]? = ((encN L).drop (i * 5))[k]? := fun k => by rw [List.getElem?_drop]
 have g0 := g 0
 have g4 := g 4
 rw [hd] at g0 g4
 simp only [Nat.add_zero] at g0
 refine ⟨a.len, a.lti, a.ltm, by rw [List.getElem?_map, g0]; simp, by rw [List.getElem?_map, g4]; simp, ?_, ?_, by omega, by omega⟩
 ·rw [← List.map_drop, ← List.map_take, ← List.drop_drop, hd]; simp
 ·rw [← List.map_drop, ← List.map_take, hd]; simp
theorem getR_none {H : Hp} {N nx : Nat} {oB q : Oid} {lim : Int} {L : List Nd} {v : AV} (h : DH H N oB q lim L v) (hN : N ≤ nx) (hn : L.length ≤ 4611686018427387904) {i : Int} (hi : byId L i = none) :
  ∃ q4 H' nx', acall Try.prog plc 21 [.ptr oB 0 2, .d (.int .i64 i)] H nx = some (.tup [.agg [.d (.int .i64 0), .d (.str { data := #[] }), .osl q4 0 0 1 0], .d (.bool false)], H', nx') ∧ nx ≤ nx' ∧ (∀ p : Oid, p.1 < nx → H' p = H p) ∧ H' q4 = some .vnil ∧ nx ≤ q4.1 ∧ q4.1 < nx' := by
 obtain ⟨H1, hH1⟩ : ∃ H1, H1 = upd (upd H (nx, 3) .vnil) (nx, 0) (.cells [.d (.int .i64 0), .d (.str { data := #[] }), .osl (nx, 3) 0 0 1 0]) := ⟨_, rfl⟩
 obtain ⟨nl, is, hre⟩ := (h.old (H' := H1) (M := nx) (fun p hp => by rw [hH1, upd_old (by omega), upd_old (by omega)]) hN).reify
 have hat := atId_ok lim L nl hn i
 rw [show (L.findIdx? fun n => decide (n.id = i)) = none from findIdx_none hi] at hat
 simp only [idxI] at hat
 have h0 : H1 (nx, 0) = some (.cells [.d (.int .i64 0), .d (.str { data := #[] }), .osl (nx, 3) 0 0 1 0]) := by rw [hH1]; exact upd_same _ _ _
 refine ⟨(nx + 9, 3), upd (upd H1 (nx + 9, 3) .vnil) (nx, 0) (.cells [.d (.int .i64 0), .d (.str { data := #[] }), .osl (nx + 9, 3) 0 0 1 0]), nx + 11, acall_body code21 ?_, by omega, fun p hp => ?_, by simp, by simp only; omega, by simp only; omega⟩
 ·simp [plc_raw, ← hH1, hre, reifyD, -reify, hat, h0, Nat.add_assoc]
 ·rw [upd_old hp, upd_old (o := p) (i := nx + 9) (by omega), hH1, upd_old hp, upd_old hp]
theorem getR_some {H : Hp} {N nx : Nat} {oB q : Oid} {lim : Int} {L : List Nd} {v : AV} (h : DH H N oB q lim L v) (hN : N ≤ nx) (hn : L.length ≤ 4611686018427387904) {i : Int} {n : Nd} (hi : byId L i = some n) :
  ∃ H' nx', acall Try.prog plc 21 [.ptr oB 0 2, .d (.int .i64 i)] H nx = some (.d (.tup [.agg [.int .i64 n.t.v, .str n.t.fn, .sl (encL n.t.args) n.t.args.length false none], .bool true]), H', nx') ∧ nx ≤ nx' ∧ (∀ p : Oid, p.1 < nx → H' p = H p) := by
 obtain ⟨H1, hH1⟩ : ∃ H1, H1 = upd (upd H (nx, 3) .vnil) (nx, 0) (.cells [.d (.int .i64 0), .d (.str { data := #[] }), .osl (nx, 3) 0 0 1 0]) := ⟨_, rfl⟩
 have h1 := h.old (H' := H1) (M := nx) (fun p hp => by rw [hH1, upd_old (by omega), upd_old (by omega)]) hN
 obtain ⟨nl, is, hre⟩ := h1.reify
 have hat := atId_ok lim L nl hn i
 obtain ⟨k, e1, e2, hk⟩ := findIdx_some hi
 rw [e1] at hat
 simp only [idxI] at hat
 have h0 : H1 (nx, 0) = some (.cells [.d (.int .i64 0), .d (.str { data := #[] }), .osl (nx, 3) 0 0 1 0]) := by rw [hH1]; exact upd_same _ _ _
 have hroot := h1.root
 obtain ⟨rfl, r2, r3⟩ := h1.row.pos (by omega)
 have a := r_at hn hk
 have hkn : L[k] = n := by rw [List.getElem?_eq_getElem hk] at e2; exact Option.some.inj e2
 rw [hkn] at a
 obtain ⟨cs, hcs⟩ : ∃ cs, cs = encN L := ⟨_, rfl⟩
 rw [← hcs] at a r2 r3 hroot
 have hk0 : ¬ (k : Int) < 0 := by omega
 refine ⟨upd H1 (nx, 0) (.cells [.d (.int .i64 n.t.v), .d (.str n.t.fn), .d (.sl (encL n.t.args) n.t.args.length false none)]), nx + 18, acall_body code21 ?_, by omega, fun p hp => ?_⟩
 ·simp [plc_raw, ← hH1, hre, reifyD, -reify, hat, h0, hk0, hroot, r2, a.len, a.lti, a.ltm, a.tm, a.le4, Nat.add_assoc]
 ·rw [upd_old hp, hH1, upd_old hp, upd_old hp]
end Go.Proofs.Ytiafeijkifpfaaa.Am

/-
 The document's bank: Make's loops. No condition.
-/
namespace Go.Proofs.Ytiafeijkifpfaaa.Am
open Go Go.Proofs
set_option maxHeartbeats 4000000
set_option maxRecDepth 20000
set_option linter.unusedSimpArgs false
set_option linter.unusedVariables false
theorem idx_has {L : List Nd} {i : Int} : (0 ≤ idxI (L.findIdx? fun n => decide (n.id = i))) ↔ hasI L i = true := by
 cases e : L.findIdx? (fun n => decide (n.id = i)) with
 | none =>
  rw [List.findIdx?_eq_none_iff] at e
  simp only [idxI, hasI_iff]
  constructor
  ·intro h; omega
  ·rintro ⟨n, hn, h⟩; have := e n hn; simp [h] at this
 | some k =>
  obtain ⟨h1, h2, _⟩ := List.findIdx?_eq_some_iff_getElem.1 e
  simp only [idxI, hasI_iff]
  exact ⟨fun _ => ⟨L[k], List.getElem_mem h1, by simpa using h2⟩, fun _ => by omega⟩
theorem idx_hasT {L : List Nd} {t : Term} : (0 ≤ idxI (L.findIdx? fun n => n.t.sameB t)) ↔ hasT L t = true := by
 cases e : L.findIdx? (fun n => n.t.sameB t) with
 | none =>
  rw [List.findIdx?_eq_none_iff] at e
  simp only [idxI, hasT_iff]
  constructor
  ·intro h; omega
  ·rintro ⟨n, hn, h⟩; have := e n hn; rw [(sameB_eq _ _).2 h] at this; cases this
 | some k =>
  obtain ⟨h1, h2, _⟩ := List.findIdx?_eq_some_iff_getElem.1 e
  simp only [idxI, hasT_iff]
  exact ⟨fun _ => ⟨L[k], List.getElem_mem h1, (sameB_eq _ _).1 h2⟩, fun _ => by omega⟩
abbrev idR (oB r : Oid) (was : AV) (l : D) (i : Nat) (id : Int) : List AV := [.ptr oB 0 2, .junk, .junk, .ptr r 0 3, .d (.int .i64 0), .d (.int .i64 0), .junk, was, .d l, .d (.int .i64 i), .d (.int .i64 id), .junk, .junk, .junk, .junk, .junk, .junk, .junk, .junk, .junk, .junk, .junk, .junk, .junk, .junk, .junk, .junk, .junk, .junk, .junk, .junk, .junk, .junk, .junk, .junk, .junk, .junk, .junk, .junk, .junk, .junk, .junk, .junk, .junk, .junk, .junk, .junk, .junk, .junk, .junk, .junk, .junk, .junk, .junk, .junk, .junk, .junk, .junk, .junk, .junk, .junk, .junk, .junk, .junk, .junk, .junk, .junk, .junk, .junk, .junk, .junk, .junk, .junk, .junk, .junk, .junk, .junk, .junk, .junk, .junk, .junk, .junk, .junk, .junk, .junk, .junk, .junk, .junk, .junk, .junk, .junk, .junk, .junk, .junk, .junk]
structure IrI (H : Hp) (b : Nat) (L : List Nd) (s : Int × Hp × Nat) : Prop where
 pos : 1 ≤ s.1
 all : ∀ j, 1 ≤ j → j < s.1 → hasI L j = true
 nx : b ≤ s.2.2
 fr : ∀ p : Oid, p.1 < b → s.2.1 p = H p
def IrR (H : Hp) (b : Nat) (L : List Nd) (oB r : Oid) (was : AV) (l : D) (i : Nat) (_ : Unit) (e : Ex) (st : St) : Prop :=
 e = .exit 2 ∧ ∃ H' nx', st = ⟨idR oB r was l i (freeI L), H', nx'⟩ ∧ b ≤ nx' ∧ ∀ p : Oid, p.1 < b → H' p = H p
theorem idR_loop {H : Hp} {N b : Nat} {oB q : Oid} {lim : Int} {L : List Nd} {v : AV} (h : DH H N oB q lim L v) (hN : N ≤ b) (hn : L.length ≤ 1099511627776) (r : Oid) (was : AV) (l : D) (i : Nat) :
  ∃ e st, aloop Try.prog plc b17_0 ⟨[true, false, false, true, true, true, false, true, true, true, true, true, false, false, false, false, false, false, false, false, false, false, false, false, false, false, false, false, false, true, true, false, false, false, false, false, false, false, false, false, false, false, false, false, true, true, true, true, true, true, true, true, true, true, true, true, true, true, true, true, true, true, true, true, true, true, true, true, true, true, true, true, true, true, true, true, true, true, true, true, true, true, true, true, true, true, true, true, true, true, true, true, true, true, true], some b⟩ ⟨idR oB r was l i 1, H, b⟩ = some (e, st) ∧ IrR H b L oB r was l i () e st := by
 have key := loop_ruleN (P := Try.prog) (pol := plc) (c := b17_0) (m := ⟨[true, false, false, true, true, true, false, true, true, true, true, true, false, false, false, false, false, false, false, false, false, false, false, false, false, false, false, false, false, true, true, false, false, false, false, false, false, false, false, false, false, false, false, false, true, true, true, true, true, true, true, true, true, true, true, true, true, true, true, true, true, true, true, true, true, true, true, true, true, true, true, true, true, true, true, true, true, true, true, true, true, true, true, true, true, true, true, true, true, true, true, true, true, true, true], some b⟩)
  (N := fun s : Int × Hp × Nat => s.2.2) (tm := fun s => idR oB r was l i s.1) (Hf := fun s => s.2.1) (I := IrI H b L)
  (μ := fun s => (L.length + 2 - s.1).toNat) (res := fun _ => ()) (R := IrR H b L oB r was l i)
  (fun s hI => by
   obtain ⟨x, H1, n⟩ := s
   obtain ⟨h0, hall, hle, hk⟩ := hI
   simp only at h0 hall hle hk
   have hi := free_le h0 hall
   have hw : IntKind.i64.wrap (x + 1) = x + 1 := wrap_i64 (by omega) (by omega)
   obtain ⟨nl, is, hre⟩ := (h.old (H' := H1) (M := b) (fun p hp => hk p (by omega)) hN).reify
   have hat := atId_ok lim L nl (by omega) x
   by_cases hh : hasI L x = true
   ·have h5 := idx_has.2 hh
    generalize idxI (L.findIdx? fun n => decide (n.id = x)) = y at hat h5
    simp [b17_0, plc_raw, hre, reifyD, -reify, hat, h5, hw, Nat.add_assoc]
    exact .next (x + 1, below b H1, _) rfl rfl rfl ⟨by simp only; omega, fun j h1 h2 => by
     by_cases e : j = x
     ·exact e ▸ hh
     ·exact hall j h1 (by simp only at h2; omega), by simp only; omega, fun p hp => (below_lt hp).trans (hk p hp)⟩ (by simp only; omega) rfl
   ·have h5 : ¬ 0 ≤ idxI (L.findIdx? fun n => decide (n.id = x)) := fun e => hh (idx_has.1 e)
    generalize idxI (L.findIdx? fun n => decide (n.id = x)) = y at hat h5
    have hfr : freeI L = x := isFree_uniq (freeI_ok L) ⟨h0, by simpa using hh, hall⟩
    simp [b17_0, plc_raw, hre, reifyD, -reify, hat, h5, hw, Nat.add_assoc]
    exact .fin _ _ ⟨rfl, below b H1, n + 4, by rw [hfr], by omega, fun p hp => (below_lt hp).trans (hk p hp)⟩) (1, H, b) ⟨by simp, fun j h1 h2 => by simp only at h2; omega, Nat.le_refl _, fun _ _ => rfl⟩
 exact key
theorem append_all {H : Hp} {v : AV} {q e : Oid} {L : List Nd} (h : RowD H 5 v q (encN L) L.length) (ho : ∃ a b c, v = .osl q 0 a b c) (he : H e = some (.grow [])) (hn : L.length ≤ 1048576) (id : Nat) :
  ∃ ver H', appendO Try.prog H id 46 46 (.osl e 0 0 5 0) v = some (.osl e 0 L.length 5 ver, H') ∧ RowD H' 5 (.osl e 0 L.length 5 ver) e (encN L) L.length ∧ ∀ p, p ≠ e → H' p = H p := by
 obtain ⟨a, b, c, rfl⟩ := ho
 cases L with
 | nil =>
  refine ⟨0, H, ?_, .row e [] 0 he rfl, fun _ _ => rfl⟩
  simp only [encN, List.length_nil] at h
  cases h with
  | vn _ hq => simp [appendO, srcCells, srcRaw, hq, he, reify, mapD]
  | row _ _ _ hq hl => simp [appendO, srcCells, srcRaw, hq, he]
 | cons n r =>
  obtain ⟨e1, e2, e3⟩ := h.pos (by simp)
  have hr := RowD.row (H := upd H e (.grow ((encN (n :: r)).map .d))) (sz := 5) e (encN (n :: r)) (n :: r).length (upd_same _ _ _) e3
  refine ⟨_, _, ?_, hr, fun p hp => upd_ne hp⟩
  obtain ⟨cs, hcs⟩ : ∃ cs, cs = encN (n :: r) := ⟨_, rfl⟩
  rw [← hcs] at e1 e2 e3 ⊢
  simp only [AV.osl.injEq, true_and] at e1
  obtain ⟨rfl, rfl, rfl⟩ := e1
  simp only [List.length_cons] at e3 hn
  have h3 : List.take ((r.length + 1) * 5) (List.map AV.d cs) = List.map AV.d cs := List.take_of_length_le (by rw [List.length_map, e3]; exact Nat.le_refl _)
  have h4 : ¬ 68719476736 < (r.length + 1) * 5 := by omega
  have h5 : ¬ (r.length + 1) * 5 ≤ 0 := by omega
  have h6 := allD_mapJ cs
  have h7 : cs ≠ [] := fun e => by rw [e] at e3; simp at e3
  simp [appendO, srcCells, srcRaw, e2, e3, he, h3, h4, h6, h7, growO]
end Go.Proofs.Ytiafeijkifpfaaa.Am

/-
 The document's bank: Make lays a term's parts. No condition.
-/
namespace Go.Proofs.Ytiafeijkifpfaaa.Am
open Go Go.Proofs
set_option maxHeartbeats 4000000
set_option maxRecDepth 20000
set_option linter.unusedSimpArgs false
set_option linter.unusedVariables false
structure MkS where
 i : Nat
 H : Hp
 n : Nat
 v : AV
 L : List Nd
structure MkI (H0 : Hp) (b : Nat) (oB q : Oid) (lim : Int) (L0 : List Nd) (l : List Term) (s : MkS) : Prop where
 le : s.i ≤ l.length
 nx : b ≤ s.n
 dh : DH s.H b oB q lim s.L s.v
 eq : s.L = layB L0 (l.take s.i)
 ok : ∀ n ∈ s.L, n.t.ok
 fr : ∀ p : Oid, p.1 < b → p ≠ oB → p ≠ q → s.H p = H0 p
abbrev mkT (oB r : Oid) (was : AV) (l : List Term) (i : Nat) : List AV := [.ptr oB 0 2, .junk, .junk, .ptr r 0 3, .d (.int .i64 0), .d (.int .i64 0), .junk, was, .d (.sl (encL l) l.length false (some false)), .d (.int .i64 i), .junk, .junk, .junk, .junk, .junk, .junk, .junk, .junk, .junk, .junk, .junk, .junk, .junk, .junk, .junk, .junk, .junk, .junk, .junk, .junk, .junk, .junk, .junk, .junk, .junk, .junk, .junk, .junk, .junk, .junk, .junk, .junk, .junk, .junk, .junk, .junk, .junk, .junk, .junk, .junk, .junk, .junk, .junk, .junk, .junk, .junk, .junk, .junk, .junk, .junk, .junk, .junk, .junk, .junk, .junk, .junk, .junk, .junk, .junk, .junk, .junk, .junk, .junk, .junk, .junk, .junk, .junk, .junk, .junk, .junk, .junk, .junk, .junk, .junk, .junk, .junk, .junk, .junk, .junk, .junk, .junk, .junk, .junk, .junk, .junk]
def MkR (H0 : Hp) (b : Nat) (oB q r : Oid) (lim : Int) (L0 : List Nd) (l : List Term) (was : AV) (_ : Unit) (e : Ex) (st : St) : Prop :=
 e = .exit 0 ∧ ∃ s, MkI H0 b oB q lim L0 l s ∧ s.i = l.length ∧ st = ⟨mkT oB r was l l.length, s.H, s.n⟩
theorem append_node {H : Hp} {v : AV} {q : Oid} {cs : List D} {n : Nat} (h : RowD H 5 v q cs n) (hn : n ≤ 33554432) {e : Oid} {a b c d f : D} (he : H e = some (.cells [.d a, .d b, .d c, .d d, .d f])) (id : Nat) :
  ∃ ver H', appendO Try.prog H id 46 46 v (.osl e 0 1 5 5) = some (.osl (RowD.next v q id) 0 (n + 1) 5 ver, H') ∧ RowD H' 5 (.osl (RowD.next v q id) 0 (n + 1) 5 ver) (RowD.next v q id) (cs ++ [a, b, c, d, f]) (n + 1) ∧ ∀ p, p ≠ RowD.next v q id → H' p = H p := by
 obtain ⟨z, hz, hzl⟩ : ∃ z, zeroCells Try.prog 87 = some z ∧ z.length = 5 := ⟨_, by simp; rfl, by simp⟩
 exact append_row (E := 87) (z := z) (by simp) (by simp) hz hzl (by simp) (by simp) (by decide) (by decide) h hn (by simp) (by simp [srcCells, srcRaw, he]) id
theorem lay_take {L : List Nd} {l : List Term} {i : Nat} (h : i < l.length) : layB L (l.take (i + 1)) = addB (layB L (l.take i)) l[i] := by
 rw [List.take_succ_eq_append_getElem h, layB_append]; rfl
theorem mk_loop {H0 : Hp} {b : Nat} {oB q r : Oid} {lim : Int} {L0 : List Nd} {l : List Term} (was : AV) (hok : ∀ x ∈ l, x.ok) (hsz : L0.length + l.length ≤ 1048576) (s0 : MkS) (h0 : MkI H0 b oB q lim L0 l s0) (hi : s0.i = 0) :
  ∃ s, MkI H0 b oB q lim L0 l s ∧ s.i = l.length ∧ aloop Try.prog plc b17_1 ⟨[true, false, false, true, true, true, false, true, true, true, false, true, false, false, false, false, false, false, false, false, false, false, false, false, false, false, false, false, false, false, false, false, false, false, false, false, false, false, false, false, false, false, false, false, false, false, false, false, false, false, false, false, false, false, false, false, false, false, false, true, true, true, true, true, true, true, true, true, true, true, true, true, true, true, true, true, true, true, true, true, true, true, true, true, true, true, true, true, true, true, true, true, true, true, true], some b⟩ ⟨mkT oB r was l 0, s0.H, s0.n⟩ = some (.exit 0, ⟨mkT oB r was l l.length, s.H, s.n⟩) := by
 have key := loop_ruleN (P := Try.prog) (pol := plc) (c := b17_1) (m := ⟨[true, false, false, true, true, true, false, true, true, true, false, true, false, false, false, false, false, false, false, false, false, false, false, false, false, false, false, false, false, false, false, false, false, false, false, false, false, false, false, false, false, false, false, false, false, false, false, false, false, false, false, false, false, false, false, false, false, false, false, true, true, true, true, true, true, true, true, true, true, true, true, true, true, true, true, true, true, true, true, true, true, true, true, true, true, true, true, true, true, true, true, true, true, true, true], some b⟩)
  (N := fun s : MkS => s.n) (tm := fun s => mkT oB r was l s.i) (Hf := fun s => s.H) (I := MkI H0 b oB q lim L0 l) (μ := fun s => l.length - s.i) (res := fun _ => ()) (R := MkR H0 b oB q r lim L0 l was)
  (fun s hI => by
   have hnx := hI.nx
   have ltB := hI.dh.ltB
   have ltQ := hI.dh.ltQ
   have hbel : ∀ H : Hp, (∀ p : Oid, p.1 < b → H p = s.H p) → ∀ p : Oid, p.1 < b → below b H p = s.H p := fun H h p hp => (below_lt hp).trans (h p hp)
   rcases Nat.lt_or_ge s.i l.length with hl | hl
   ·obtain ⟨v, fn, args, a⟩ := at_ok (by omega) hl
    have hget : l[s.i] = .mk v fn args := a.get
    have hLs : s.L.length ≤ 1048576 := by
     obtain ⟨M, e, _, hM⟩ := lay_ext (l.take s.i) L0
     have := congrArg List.length e
     rw [List.length_append, ← hI.eq] at this
     rw [List.length_take] at hM; omega
    have hlt2 : s.L.length + 1 ≤ 1048576 ∨ s.L.length = 1048576 := by omega
    obtain ⟨nl, is, hre⟩ := hI.dh.reify
    have hfd := find_ok lim s.L nl (by omega) hI.ok (.mk v fn args) (hok _ a.mem)
    simp only [Term.enc] at hfd
    have htk := lay_take (L := L0) hl
    rw [hget, ← hI.eq] at htk
    by_cases hh : hasT s.L (.mk v fn args) = true
    ·have h5 := idx_hasT.2 hh
     generalize idxI (s.L.findIdx? fun n => n.t.sameB (.mk v fn args)) = y at hfd h5
     have hadd : addB s.L (.mk v fn args) = s.L := by unfold addB; rw [if_pos hh]
     simp [b17_1, plc_raw, a.lti, a.sz, a.ltm, a.cells, a.le3, a.w, hre, reifyD, -reify, hfd, h5, Nat.add_assoc]
     have hnext : MkI H0 b oB q lim L0 l ⟨s.i + 1, below b s.H, s.n + 14, s.v, s.L⟩ := ⟨hl, by simp only; omega, hI.dh.keep (below_lt ltB) (below_lt ltQ) (Nat.le_refl _), by simp only; rw [htk, hadd], hI.ok, fun p hp h1 h2 => (below_lt hp).trans (hI.fr p hp h1 h2)⟩
     exact .next _ rfl rfl rfl hnext (by simp only; omega) rfl
    ·have h5 : ¬ 0 ≤ idxI (s.L.findIdx? fun n => n.t.sameB (.mk v fn args)) := fun e => hh (idx_hasT.1 e)
     generalize idxI (s.L.findIdx? fun n => n.t.sameB (.mk v fn args)) = y at hfd h5
     obtain ⟨e, st, hidr, rfl, H1, n1, rfl, hn1, hk1⟩ := idR_loop (b := s.n + 12) hI.dh (by omega) (by omega) r was (.sl (encL l) l.length false (some false)) s.i
     obtain ⟨id, hid⟩ : ∃ id, id = freeI s.L := ⟨_, rfl⟩
     rw [← hid] at hidr
     simp [idR] at hidr
     obtain ⟨a1, b1, c1, hv⟩ := hI.dh.osl
     have hroot := hI.dh.root
     obtain ⟨Ha, hHa⟩ : ∃ Ha, Ha = upd H1 (n1 + 11, 0) (.cells [.d (.int .i64 id), .d (.int .i64 v), .d (.str fn), .d (.sl (encL args) args.length false none), .d (.int .i64 0)]) := ⟨_, rfl⟩
     have hka : ∀ p : Oid, p.1 < b → Ha p = s.H p := fun p hp => by rw [hHa, upd_ne (fun e => by rw [e] at hp; simp only at hp; omega), hk1 p (by omega)]
     have hko : H1 oB = some (.cells [.d (.int .i64 lim), s.v]) := (hk1 oB (by omega)).trans hroot
     obtain ⟨ver, H2, c2, r2, k2⟩ := append_node (H := Ha) (hI.dh.row.keep (hka q ltQ)) (by omega) (e := (n1 + 11, 0)) (by rw [hHa]; exact upd_same _ _ _) (n1 + 12)
     have hen : encN s.L ++ [.int .i64 id, .int .i64 v, .str fn, .sl (encL args) args.length false none, .int .i64 0] = encN (addB s.L (.mk v fn args)) := by
      unfold addB; rw [if_neg hh, encN_append, ← hid]; rfl
     have hln : s.L.length + 1 = (addB s.L (.mk v fn args)).length := by unfold addB; rw [if_neg hh]; simp
     rw [hen] at r2
     rw [hv] at c2 r2 k2 hko
     simp only [RowD.next] at c2 r2 k2
     have hko2 : H2 oB = some (.cells [.d (.int .i64 lim), .osl q 0 a1 b1 c1]) := by rw [k2 _ hI.dh.ne, hka oB ltB, hroot, hv]
     obtain ⟨H3, hH3⟩ : ∃ H3, H3 = upd H2 oB (.cells [.d (.int .i64 lim), .osl q 0 (s.L.length + 1) 5 ver]) := ⟨_, rfl⟩
     simp [b17_1, plc_raw, a.lti, a.sz, a.ltm, a.cells, a.le3, a.w, hre, reifyD, -reify, hfd, h5, hidr, hko, ← hHa, c2, hko2, ← hH3, Nat.add_assoc]
     have hk3 : ∀ p : Oid, p.1 < b → p ≠ oB → p ≠ q → H3 p = s.H p := fun p hp h1 h2 => by rw [hH3, upd_ne h1, k2 p h2, hka p hp]
     have hnext : ∀ n, b ≤ n → MkI H0 b oB q lim L0 l ⟨s.i + 1, below b H3, n, .osl q 0 (s.L.length + 1) 5 ver, addB s.L (.mk v fn args)⟩ := fun n hn => by
      refine ⟨hl, hn, ⟨?_, ?_, ⟨_, _, _, rfl⟩, ltB, ltQ, hI.dh.ne⟩, htk.symm, fun m hm => ?_, fun p hp h1 h2 => ?_⟩
      ·show below b H3 oB = _
       rw [below_lt ltB, hH3, upd_same]
      ·rw [hln] at r2 ⊢
       exact r2.keep (by show below b H3 q = _; rw [below_lt ltQ, hH3, upd_ne hI.dh.ne.symm])
      ·unfold addB at hm
       rw [if_neg hh] at hm
       rcases List.mem_append.1 hm with hm | hm
       ·exact hI.ok m hm
       ·rw [List.mem_singleton] at hm; subst hm; exact hok _ a.mem
      ·show below b H3 p = H0 p
       rw [below_lt hp, hk3 p hp h1 h2]; exact hI.fr p hp h1 h2
     exact .next _ rfl rfl rfl (hnext (n1 + 19) (by omega)) (by simp only; omega) rfl
   ·have hte : s.i = l.length := Nat.le_antisymm hI.le hl
    simp [b17_1, hte, Nat.add_assoc]
    refine .fin _ _ ⟨rfl, ⟨s.i, below b s.H, s.n + 4, s.v, s.L⟩, ⟨hI.le, by simp only; omega, hI.dh.keep (below_lt ltB) (below_lt ltQ) (Nat.le_refl _), hI.eq, hI.ok, fun p hp h1 h2 => (below_lt hp).trans (hI.fr p hp h1 h2)⟩, hte, by simp⟩) s0 h0
 obtain ⟨e, st, hrun, rfl, s, hs, hsi, rfl⟩ := key
 rw [hi] at hrun
 exact ⟨s, hs, hsi, hrun⟩
end Go.Proofs.Ytiafeijkifpfaaa.Am

/-
 The document's bank: Make as a whole. No condition.
-/
namespace Go.Proofs.Ytiafeijkifpfaaa.Am
open Go Go.Proofs
set_option maxHeartbeats 4000000
set_option maxRecDepth 20000
set_option linter.unusedSimpArgs false
set_option linter.unusedVariables false
theorem bump_set : ∀ {L : List Nd} (hn : (L.map (·.t)).Nodup) {k : Nat} {n : Nd} (hk : L[k]? = some n) (d : Int), bump L n.t d = L.set k ⟨n.id, n.t, n.kept + d⟩
 | [], _, k, n, hk, d => by simp at hk
 | a :: r, hn, 0, n, hk, d => by
  simp only [List.getElem?_cons_zero, Option.some.injEq] at hk
  subst hk
  rw [List.map_cons] at hn
  obtain ⟨h1, h2⟩ := List.nodup_cons.1 hn
  rw [List.set_cons_zero, bump, List.map_cons, if_pos ((sameB_eq _ _).2 rfl)]
  congr 1
  conv => rhs; rw [← List.map_id r]
  refine List.map_congr_left fun m hm => ?_
  rw [if_neg (by rw [sameB_eq]; exact fun e => h1 (List.mem_map.2 ⟨m, hm, e⟩))]; rfl
 | a :: r, hn, k + 1, n, hk, d => by
  rw [List.map_cons] at hn
  obtain ⟨h1, h2⟩ := List.nodup_cons.1 hn
  rw [List.getElem?_cons_succ] at hk
  rw [List.set_cons_succ, bump, List.map_cons, if_neg (by rw [sameB_eq]; exact fun e => h1 (List.mem_map.2 ⟨n, List.mem_of_getElem? hk, e.symm⟩))]
  congr 1
  exact bump_set h2 hk d
theorem encN_set : ∀ (L : List Nd) (k : Nat) (n : Nd) (x : Int), L[k]? = some n → (encN L).take (k * 5 + 4) ++ .int .i64 x :: (encN L).drop (k * 5 + 4 + 1) = encN (L.set k ⟨n.id, n.t, x⟩)
 | [], k, n, x, h => by simp at h
 | a :: r, 0, n, x, h => by
  simp only [List.getElem?_cons_zero, Option.some.injEq] at h
  subst h
  simp [encN, Nd.enc]
 | a :: r, k + 1, n, x, h => by
  rw [List.getElem?_cons_succ] at h
  have ih := encN_set r k n x h
  rw [show (k + 1) * 5 + 4 = (k * 5 + 4) + 1 + 1 + 1 + 1 + 1 by omega, show k * 5 + 4 + 1 + 1 + 1 + 1 + 1 + 1 = (k * 5 + 4 + 1) + 1 + 1 + 1 + 1 + 1 by omega]
  simp only [encN, Nd.enc, List.cons_append, List.nil_append, List.take_succ_cons, List.drop_succ_cons, List.set_cons_succ, ih]
theorem splice_kp {L : List Nd} {k : Nat} {n : Nd} (h : L[k]? = some n) (x : Int) : splice (List.map AV.d (encN L)) (k * 5 + 4) [.d (.int .i64 x)] = List.map AV.d (encN (L.set k ⟨n.id, n.t, x⟩)) := by
 rw [← encN_set L k n x h]
 simp [splice]
structure DidD (lim : Int) (oB q : Oid) (H : Hp) (nx : Nat) (H' : Hp) (nx' : Nat) (q' : Oid) (L' : List Nd) (v' : AV) : Prop where
 dh : DH H' nx' oB q' lim L' v'
 le : nx ≤ nx'
 qq : q' = q ∨ nx ≤ q'.1
 fr : ∀ p : Oid, p.1 < nx → p ≠ oB → p ≠ q → H' p = H p
theorem makeR_ok {H : Hp} {N nx : Nat} {oB q : Oid} {lim : Int} {L : List Nd} {v : AV} (h : DH H N oB q lim L v) (hN : N ≤ nx) (hb : Bk L) (hLok : ∀ n ∈ L, n.t.ok) (hsz : L.length ≤ 500000) (hkp : ∀ n ∈ L, n.kept ≤ 1099511627776)
  (t : Term) (hok : t.ok) (hts : t.size ≤ 500000) (hpok : ∀ x ∈ t.parts, x.ok) (hfit : t.rightE = 0 → t.fits) :
  ∃ H' nx' q' v', acall Try.prog plc 17 [.ptr oB 0 2, .d (.agg t.enc)] H nx = some (.d (.tup [.int .i64 (makeB lim L t).1.1, .int .i64 (makeB lim L t).1.2]), H', nx') ∧ DidD lim oB q H nx H' nx' q' (makeB lim L t).2 v' := by
 have hr := rright_ok t hok
 have hpl := parts_len t
 have hpc := parts_ok t hok (by omega)
 unfold makeB
 by_cases he : t.rightE = 0
 ·rw [if_neg (by simp [he])]
  have hf := hfit he
  obtain ⟨H1, hH1⟩ : ∃ H1, H1 = upd H (nx, 0) (.cells [.d (.int .i64 t.v), .d (.str t.fn), .d (.sl (encL t.args) t.args.length false none)]) := ⟨_, rfl⟩
  have hk1 : ∀ p : Oid, p.1 < nx → H1 p = H p := fun p hp => by rw [hH1, upd_old (o := p) (i := nx) hp]
  have hz1 : H1 (nx, 0) = some (.cells [.d (.int .i64 t.v), .d (.str t.fn), .d (.sl (encL t.args) t.args.length false none)]) := by rw [hH1]; exact upd_same _ _ _
  obtain ⟨Ha, hHa⟩ : ∃ Ha, Ha = upd H1 (nx + 8, 0) (.grow []) := ⟨_, rfl⟩
  have ltB := h.ltB
  have ltQ := h.ltQ
  have hka : ∀ p : Oid, p.1 < nx → Ha p = H p := fun p hp => by rw [hHa, upd_old (by omega), hk1 p hp]
  have dha := h.old (H' := Ha) (M := nx) (fun p hp => hka p (by omega)) hN
  obtain ⟨ver0, Hb, c0, r0, k0⟩ := append_all dha.row dha.osl (e := (nx + 8, 0)) (by rw [hHa]; exact upd_same _ _ _) (by omega) (nx + 13)
  have hkb : ∀ p : Oid, p.1 < nx → Hb p = H p := fun p hp => by rw [k0 p (fun e => by rw [e] at hp; simp only at hp; omega), hka p hp]
  have hzb : Hb (nx, 0) = some (.cells [.d (.int .i64 t.v), .d (.str t.fn), .d (.sl (encL t.args) t.args.length false none)]) := by
   rw [k0 _ (by simp), hHa, upd_ne (by simp)]; exact hz1
  have dhb := h.old (H' := Hb) (M := nx + 19) (fun p hp => hkb p (by omega)) (by omega)
  obtain ⟨s, hs, hsi, hrun⟩ := mk_loop (H0 := Hb) (b := nx + 19) (oB := oB) (q := q) (r := (nx, 0)) (lim := lim) (L0 := L) (l := t.parts) (.osl (nx + 8, 0) 0 L.length 5 ver0) hpok (by omega) ⟨0, Hb, nx + 19, v, L⟩
   ⟨Nat.zero_le _, Nat.le_refl _, dhb, by simp [layB], hLok, fun _ _ _ _ => rfl⟩ rfl
  obtain ⟨i, Hs, n1, v1, L1⟩ := s
  obtain ⟨_, hn1, dh1, hL1, hok1, hfr⟩ := hs
  simp only at hsi hn1 dh1 hL1 hok1 hfr hrun
  rw [hsi, List.take_length] at hL1
  rw [← hL1]
  have hbk1 : Bk L1 := hL1 ▸ Bk.lay t hf L hb
  simp [mkT] at hrun
  have hroot0 := dha.root
  have hroot := dh1.root
  obtain ⟨a1, b1, c1, hv1⟩ := dh1.osl
  have hlen := dh1.row.form
  have hL1s : L1.length ≤ 1000000 := by
   obtain ⟨M, e, _, hM⟩ := lay_ext t.parts L
   have := congrArg List.length e
   rw [List.length_append, ← hL1] at this; omega
  have ne8B : oB ≠ (nx + 8, 0) := fun e => by rw [e] at ltB; simp only at ltB; omega
  have ne8Q : q ≠ (nx + 8, 0) := fun e => by rw [e] at ltQ; simp only at ltQ; omega
  have he8 : Hs (nx + 8, 0) = Hb (nx + 8, 0) := hfr _ (by simp only; omega) ne8B.symm ne8Q.symm
  have hz2 : Hs (nx, 0) = some (.cells [.d (.int .i64 t.v), .d (.str t.fn), .d (.sl (encL t.args) t.args.length false none)]) := by
   rw [hfr _ (by simp only; omega) (fun e => by rw [← e] at ltB; simp only at ltB; omega) (fun e => by rw [← e] at ltQ; simp only at ltQ; omega)]; exact hzb
  have hfind := fun nl => find_ok lim L1 nl (by omega) hok1 t hok
  have hin : hasT L1 t = true := by rw [hL1]; exact lay_mem _ _ (parts_self t)
  have hkp1 : ∀ n ∈ L1, n.kept ≤ 1099511627776 := by
   obtain ⟨M, e, hM, _⟩ := lay_ext t.parts L
   rw [hL1, e]
   intro n hn
   rcases List.mem_append.1 hn with hn | hn
   ·exact hkp n hn
   ·rw [(hM n hn).1]; decide
  have hL0 : 0 < L1.length := by
   obtain ⟨n, hn, _⟩ := hasT_iff.1 hin
   exact List.length_pos_of_mem hn
  obtain ⟨rfl, r2, r3⟩ := dh1.row.pos hL0
  obtain ⟨pl, hpe⟩ : ∃ pl, pl = t.parts := ⟨_, rfl⟩
  rw [← hpe] at hrun hpc
  obtain ⟨v, fn, args⟩ := t
  simp only [Term.v, Term.fn, Term.args] at hz1 hzb hz2 hH1
  simp [Term.enc] at hr hpc hfind
  by_cases hlim : lim < (L1.length : Int)
  ·rw [if_pos hlim]
   refine ⟨upd Hs oB (.cells [.d (.int .i64 lim), .osl (nx + 8, 0) 0 L.length 5 ver0]), n1 + 17, (nx + 8, 0), .osl (nx + 8, 0) 0 L.length 5 ver0, acall_body code17 ?_, ⟨⟨upd_same _ _ _, r0.keep (by rw [upd_ne ne8B.symm, he8]), ⟨_, _, _, rfl⟩, by omega, by simp only; omega, ne8B⟩, by omega, .inr (by simp only; omega), fun p hp h1 h2 => ?_⟩⟩
   ·simp [Term.enc, plc_raw, hr, he, ← hH1, hz1, ← hHa, hroot0, c0, hzb, hpc, hrun, hroot, hlim, Nat.add_assoc]
   ·rw [upd_ne h1, hfr p (by omega) h1 h2, hkb p hp]
  ·rw [if_neg hlim]
   obtain ⟨nl, is, hre⟩ := dh1.reify
   have hfd := hfind nl
   obtain ⟨n, hfn⟩ : ∃ n, L1.find? (fun n => n.t.sameB (.mk v fn args)) = some n := by
    cases e : L1.find? (fun n => n.t.sameB (.mk v fn args)) with
    | some n => exact ⟨n, rfl⟩
    | none =>
     obtain ⟨n, hn, hnt⟩ := hasT_iff.1 hin
     exact absurd ((sameB_eq _ _).2 hnt) (by simpa using List.find?_eq_none.1 e n hn)
   have hid : idOf L1 (.mk v fn args) = n.id := by unfold idOf; rw [hfn]
   have hnm := List.mem_of_find?_eq_some hfn
   have hnt : n.t = .mk v fn args := by have := List.find?_some hfn; exact (sameB_eq _ _).1 this
   obtain ⟨k, ek, ek2, hk⟩ := findIdx_some hfn
   rw [ek] at hfd
   simp only [idxI] at hfd
   have hkn : L1[k] = n := by rw [List.getElem?_eq_getElem hk] at ek2; exact Option.some.inj ek2
   have a := r_at (by omega) hk
   rw [hkn] at a
   have hk0 := hbk1.kept n hnm
   have hk9 := hkp1 n hnm
   have hw : IntKind.i64.wrap (n.kept + 1) = n.kept + 1 := wrap_i64 (by omega) (by omega)
   have hsp := splice_kp ek2 (n.kept + 1)
   have hbs := bump_set hbk1.ts ek2 1
   rw [hnt] at hbs
   rw [hnt, ← hbs] at hsp
   obtain ⟨L2, hL2⟩ : ∃ L2, L2 = bump L1 (.mk v fn args) 1 := ⟨_, rfl⟩
   have hlen2 : L2.length = L1.length := by rw [hL2, bump_len]
   have hk2 : k < L2.length := by omega
   have a2 := r_at (by omega) hk2
   have hkn2 : (L2[k]).id = n.id := by
    have : L2[k]? = some ⟨n.id, .mk v fn args, n.kept + 1⟩ := by rw [hL2, hbs, List.getElem?_set_self hk]
    rw [List.getElem?_eq_getElem hk2] at this
    rw [Option.some.inj this]
   have aid := a2.id
   have alen2 := a2.len
   rw [hkn2] at aid
   rw [hid, ← hL2]
   rw [← hL2] at hsp
   obtain ⟨cs1, hcs1⟩ : ∃ cs, cs = encN L1 := ⟨_, rfl⟩
   obtain ⟨cs2, hcs2⟩ : ∃ cs, cs = encN L2 := ⟨_, rfl⟩
   have hrow2 := RowD.row (H := upd Hs q (.grow (List.map AV.d (encN L2)))) (sz := 5) q (encN L2) L2.length (upd_same _ _ _) (by rw [encN_len])
   rw [hlen2] at alen2
   rw [← hcs1] at a hsp r2 r3 hroot
   rw [← hcs2] at hsp aid alen2 hrow2
   have halen := a.len
   have hg2 : ∀ h : k * 5 < cs2.length, cs2[k * 5]'h = .int .i64 n.id := fun h => by
    rw [List.getElem?_map, List.getElem?_eq_getElem h] at aid
    simpa using aid
   have hub : ∀ x, upd Hs q x oB = Hs oB := fun x => upd_ne dh1.ne
   have hl12 : cs2.length = cs1.length := by rw [alen2, r3]
   refine ⟨upd Hs q (.grow (List.map AV.d cs2)), n1 + 36, q, .osl q 0 L1.length 5 cs1.length, acall_body code17 ?_, ⟨⟨by rw [upd_ne dh1.ne]; exact hroot, ?_, ⟨_, _, _, rfl⟩, by omega, by omega, dh1.ne⟩, by omega, .inl rfl, fun p hp h1 h2 => ?_⟩⟩
   ·simp [Term.enc, plc_raw, hr, he, ← hH1, hz1, ← hHa, hroot0, c0, hzb, hpc, hrun, hroot, hlim, hz2, hre, reifyD, -reify, hfd, r2, halen, a.lti, a.ltm, a.kp, a.le4, a.le5, hw, -splice, hsp, alen2, aid, hg2, hub, Nat.add_assoc]
   ·show RowD _ 5 _ q (encN L2) L2.length
    rw [hl12, hlen2] at hrow2
    rw [← hcs2, hlen2]
    exact hrow2
   ·rw [upd_ne h2, hfr p (by omega) h1 h2, hkb p hp]
 ·rw [if_pos he]
  refine ⟨upd H (nx, 0) (.cells [.d (.int .i64 t.v), .d (.str t.fn), .d (.sl (encL t.args) t.args.length false none)]), nx + 11, q, v, acall_body code17 ?_, ⟨h.old (fun p hp => upd_old (by omega) _ _ _) (by omega), by omega, .inl rfl, fun p hp _ _ => upd_old hp _ _ _⟩⟩
  obtain ⟨v, fn, args⟩ := t
  simp [Term.enc] at hr ⊢
  simp [plc_raw, hr, he, Term.v, Term.fn, Term.args, Nat.add_assoc]
end Go.Proofs.Ytiafeijkifpfaaa.Am

/-
 The document's bank: Drop. No condition.
-/
namespace Go.Proofs.Ytiafeijkifpfaaa.Am
open Go Go.Proofs
set_option maxHeartbeats 4000000
set_option maxRecDepth 20000
set_option linter.unusedSimpArgs false
set_option linter.unusedVariables false
structure NdOk (n : Nd) : Prop where
 ok : n.t.ok
 sz : n.t.size ≤ 1048576
 ps : ∀ x ∈ n.t.parts, x.ok
def needF (n m : Nd) : Bool := decide (m.kept > 0) && m.t.parts.any fun x => x.sameB n.t
theorem needed_any (L : List Nd) (n : Nd) : needed L n = L.any (needF n) := rfl
abbrev ndT (oB : Oid) (vo : AV) (k : Nat) (need : Bool) (j : Nat) : List AV := [.ptr oB 0 2, .junk, .junk, .junk, .d (.bool false), .junk, vo, .d (.int .i64 k), .d (.bool need), .d (.int .i64 j), .junk, .junk, .junk, .junk, .junk, .junk, .junk, .junk, .junk, .junk, .junk, .junk, .junk, .junk, .junk, .junk, .junk, .junk, .junk, .junk, .junk, .junk, .junk, .junk, .junk, .junk, .junk, .junk, .junk, .junk, .junk, .junk, .junk, .junk, .junk, .junk, .junk, .junk, .junk, .junk, .junk, .junk, .junk, .junk, .junk, .junk, .junk, .junk, .junk, .junk, .junk, .junk, .junk, .junk, .junk, .junk, .junk, .junk, .junk, .junk, .junk, .junk, .junk, .junk, .junk, .junk, .junk, .junk, .junk, .junk, .junk, .junk, .junk, .junk, .junk, .junk, .junk, .junk, .junk, .junk, .junk, .junk, .junk, .junk, .junk, .junk, .junk, .junk, .junk, .junk, .junk]
structure NdI (H : Hp) (b : Nat) (L : List Nd) (nd : Nd) (s : Nat × Bool × Hp × Nat) : Prop where
 le : s.1 ≤ L.length
 need : s.2.1 = (L.take s.1).any (needF nd)
 nx : b ≤ s.2.2.2
 fr : ∀ p : Oid, p.1 < b → s.2.2.1 p = H p
def NdR (H : Hp) (b : Nat) (L : List Nd) (nd : Nd) (oB : Oid) (vo : AV) (k : Nat) (_ : Unit) (e : Ex) (st : St) : Prop :=
 e = .exit 2 ∧ ∃ H' nx', st = ⟨ndT oB vo k (needed L nd) L.length, H', nx'⟩ ∧ b ≤ nx' ∧ ∀ p : Oid, p.1 < b → H' p = H p
theorem need_loop {H : Hp} {N b : Nat} {oB q : Oid} {lim : Int} {L : List Nd} {v : AV} (h : DH H N oB q lim L v) (hN : N ≤ b) (hn : L.length ≤ 1048576) (hL : ∀ n ∈ L, NdOk n) (vo : AV) {k : Nat} (hk : k < L.length) :
  ∃ e st, aloop Try.prog plc b19_0 ⟨[true, false, false, false, true, false, true, true, true, true, false, false, false, false, false, false, false, false, false, false, false, false, false, false, false, false, false, false, false, false, false, false, false, false, false, false, false, false, false, false, false, false, false, false, true, true, false, false, false, false, false, false, false, false, false, false, false, false, false, false, false, false, false, false, false, false, false, false, false, false, false, false, false, false, false, false, false, false, false, false, false, false, false, false, false, false, true, true, true, true, true, true, true, true, true, true, true, true, true, true, true], some b⟩ ⟨ndT oB vo k false 0, H, b⟩ = some (e, st) ∧ NdR H b L L[k] oB vo k () e st := by
 have hroot := h.root
 obtain ⟨rfl, r2, r3⟩ := h.row.pos (by omega)
 have ak := r_at (by omega) hk
 have hkm : L[k] ∈ L := List.getElem_mem hk
 obtain ⟨nd, hnd⟩ : ∃ nd, nd = L[k] := ⟨_, rfl⟩
 rw [← hnd] at ak hkm ⊢
 obtain ⟨cs, hcs⟩ : ∃ cs, cs = encN L := ⟨_, rfl⟩
 have lB := h.ltB
 have lQ := h.ltQ
 rw [← hcs] at ak r2 r3 hroot
 have key := loop_ruleN (P := Try.prog) (pol := plc) (c := b19_0) (m := ⟨[true, false, false, false, true, false, true, true, true, true, false, false, false, false, false, false, false, false, false, false, false, false, false, false, false, false, false, false, false, false, false, false, false, false, false, false, false, false, false, false, false, false, false, false, true, true, false, false, false, false, false, false, false, false, false, false, false, false, false, false, false, false, false, false, false, false, false, false, false, false, false, false, false, false, false, false, false, false, false, false, false, false, false, false, false, false, true, true, true, true, true, true, true, true, true, true, true, true, true, true, true], some b⟩)
  (N := fun s : Nat × Bool × Hp × Nat => s.2.2.2) (tm := fun s => ndT oB vo k s.2.1 s.1) (Hf := fun s => s.2.2.1) (I := NdI H b L nd)
  (μ := fun s => L.length - s.1) (res := fun _ => ()) (R := NdR H b L nd oB vo k)
  (fun s hI => by
   obtain ⟨j, need, H1, n⟩ := s
   obtain ⟨hj, hneed, hle, hfr⟩ := hI
   simp only at hj hneed hle hfr
   have hr1 := (hfr oB (by omega)).trans hroot
   have hr2 := (hfr q (by omega)).trans r2
   rcases Nat.lt_or_ge j L.length with hl | hl
   ·have aj := r_at (by omega) hl
    have hjm : L[j] ∈ L := List.getElem_mem hl
    have htk : (L.take (j + 1)).any (needF nd) = (need || needF nd L[j]) := by
     rw [List.take_succ_eq_append_getElem hl, List.any_append, ← hneed]; simp
    obtain ⟨m, hm⟩ : ∃ m, m = L[j] := ⟨_, rfl⟩
    rw [← hm] at aj hjm htk
    rw [← hcs] at aj
    have hw : IntKind.i64.wrap ((j : Int) + 1) = (j : Int) + 1 := wrap_i64 (by omega) (by omega)
    have hkp4 : ∀ h : j * 5 + 4 < cs.length, cs[j * 5 + 4]'h = .int .i64 m.kept := fun h => by
     have := aj.kp
     rw [List.getElem?_map, List.getElem?_eq_getElem h] at this
     simpa using this
    have hnext : ∀ b1, b1 = (need || needF nd m) → ∀ n', b ≤ n' → NdI H b L nd (j + 1, b1, below b H1, n') := fun b1 hb1 n' hn' => ⟨hl, by simp only; rw [hb1, htk], hn', fun p hp => (below_lt hp).trans (hfr p hp)⟩
    cases need with
    | true =>
     simp [b19_0, plc_raw, hr1, hr2, aj.len, aj.lti, aj.ltm, hw, Nat.add_assoc]
     exact .next _ rfl rfl rfl (hnext true (by simp) _ (by omega)) (by simp only; omega) rfl
    | false =>
     by_cases hk0 : m.kept > 0
     ·have hh := has_ok m.t nd.t (hL m hjm).ok (hL nd hkm).ok (hL m hjm).sz (hL m hjm).ps
      obtain ⟨bb, hbb⟩ : ∃ bb, bb = m.t.parts.any fun x => x.sameB nd.t := ⟨_, rfl⟩
      rw [← hbb] at hh
      have hnf : needF nd m = bb := by unfold needF; rw [← hbb]; simp [hk0]
      obtain ⟨mid, ⟨v1, fn1, args1⟩, mk⟩ := m
      obtain ⟨nid, ⟨v2, fn2, args2⟩, nk⟩ := nd
      have t1 := aj.tm
      have t2 := ak.tm
      simp only [Term.v, Term.fn, Term.args] at t1 t2
      simp [Term.enc] at hh
      simp only at hk0
      simp [b19_0, plc_raw, hr1, hr2, aj.len, aj.lti, aj.ltm, ak.lti, ak.ltm, aj.kp, hkp4, t1, t2, aj.le4, aj.le5, ak.le4, ak.le5, hk0, hh, hw, Nat.add_assoc]
      exact .next _ rfl rfl rfl (hnext bb (by rw [hnf]; rfl) _ (by omega)) (by simp only; omega) rfl
     ·have hnf : needF nd m = false := by unfold needF; simp [hk0]
      simp [b19_0, plc_raw, hr1, hr2, aj.len, aj.lti, aj.ltm, aj.kp, hkp4, aj.le4, aj.le5, hk0, hw, Nat.add_assoc]
      exact .next _ rfl rfl rfl (hnext false (by rw [hnf]; rfl) _ (by omega)) (by simp only; omega) rfl
   ·obtain rfl : j = L.length := Nat.le_antisymm hj hl
    rw [List.take_length, ← needed_any] at hneed
    simp [b19_0, plc_raw, hr1, hr2, ak.len, Nat.add_assoc]
    exact .fin _ _ ⟨rfl, below b H1, n + 7, by rw [hneed], by omega, fun p hp => (below_lt hp).trans (hfr p hp)⟩) (0, false, H, b) ⟨Nat.zero_le _, by simp, Nat.le_refl _, fun _ _ => rfl⟩
 exact key
end Go.Proofs.Ytiafeijkifpfaaa.Am

/-
 The document's bank: Drop as a whole. No condition.
-/
namespace Go.Proofs.Ytiafeijkifpfaaa.Am
open Go Go.Proofs
set_option maxHeartbeats 4000000
set_option maxRecDepth 20000
set_option linter.unusedSimpArgs false
set_option linter.unusedVariables false
structure OuS where
 k : Nat
 H : Hp
 n : Nat
 vo : AV
structure OuI (H0 : Hp) (b : Nat) (qo : Oid) (L : List Nd) (s : OuS) : Prop where
 le : s.k ≤ L.length
 nx : b ≤ s.n
 row : RowD s.H 5 s.vo qo (encN ((L.take s.k).filter (needed L))) ((L.take s.k).filter (needed L)).length
 osl : ∃ a b c, s.vo = .osl qo 0 a b c
 fr : ∀ p : Oid, p.1 < b → p ≠ qo → s.H p = H0 p
abbrev ouT (oB : Oid) (vo : AV) (k : Nat) : List AV := [.ptr oB 0 2, .junk, .junk, .junk, .d (.bool false), .junk, vo, .d (.int .i64 k), .junk, .junk, .junk, .junk, .junk, .junk, .junk, .junk, .junk, .junk, .junk, .junk, .junk, .junk, .junk, .junk, .junk, .junk, .junk, .junk, .junk, .junk, .junk, .junk, .junk, .junk, .junk, .junk, .junk, .junk, .junk, .junk, .junk, .junk, .junk, .junk, .junk, .junk, .junk, .junk, .junk, .junk, .junk, .junk, .junk, .junk, .junk, .junk, .junk, .junk, .junk, .junk, .junk, .junk, .junk, .junk, .junk, .junk, .junk, .junk, .junk, .junk, .junk, .junk, .junk, .junk, .junk, .junk, .junk, .junk, .junk, .junk, .junk, .junk, .junk, .junk, .junk, .junk, .junk, .junk, .junk, .junk, .junk, .junk, .junk, .junk, .junk, .junk, .junk, .junk, .junk, .junk, .junk]
def OuR (H0 : Hp) (b : Nat) (oB qo : Oid) (L : List Nd) (_ : Unit) (e : Ex) (st : St) : Prop :=
 e = .exit 0 ∧ ∃ s, OuI H0 b qo L s ∧ s.k = L.length ∧ st = ⟨ouT oB s.vo L.length, s.H, s.n⟩
theorem out_loop {H0 : Hp} {N b : Nat} {oB q qo : Oid} {lim : Int} {L : List Nd} {v : AV} (h : DH H0 N oB q lim L v) (hN : N ≤ b) (hn : L.length ≤ 1048576) (hL : ∀ n ∈ L, NdOk n) (hL0 : 0 < L.length) (hq : qo.1 < b) (hqB : oB ≠ qo) (hqq : q ≠ qo) (s0 : OuS) (h0 : OuI H0 b qo L s0) (hi : s0.k = 0) :
  ∃ s, OuI H0 b qo L s ∧ s.k = L.length ∧ aloop Try.prog plc b19_1 ⟨[true, false, false, false, true, false, true, true, false, false, false, false, false, false, false, false, false, false, false, false, false, false, false, false, false, false, false, false, false, false, false, false, false, false, false, false, false, false, false, false, false, false, false, false, false, false, false, false, false, false, false, false, false, false, false, false, false, false, false, false, false, false, false, false, false, false, false, false, false, false, false, false, false, false, false, false, false, false, false, false, false, false, false, false, false, false, false, false, false, false, false, false, false, false, false, false, false, true, true, true, true], some b⟩ ⟨ouT oB s0.vo 0, s0.H, s0.n⟩ = some (.exit 0, ⟨ouT oB s.vo L.length, s.H, s.n⟩) := by
 have lB := h.ltB
 have lQ := h.ltQ
 obtain ⟨rfl, r2, r3⟩ := h.row.pos hL0
 have hroot := h.root
 have key := loop_ruleN (P := Try.prog) (pol := plc) (c := b19_1) (m := ⟨[true, false, false, false, true, false, true, true, false, false, false, false, false, false, false, false, false, false, false, false, false, false, false, false, false, false, false, false, false, false, false, false, false, false, false, false, false, false, false, false, false, false, false, false, false, false, false, false, false, false, false, false, false, false, false, false, false, false, false, false, false, false, false, false, false, false, false, false, false, false, false, false, false, false, false, false, false, false, false, false, false, false, false, false, false, false, false, false, false, false, false, false, false, false, false, false, false, true, true, true, true], some b⟩)
  (N := fun s : OuS => s.n) (tm := fun s => ouT oB s.vo s.k) (Hf := fun s => s.H) (I := OuI H0 b qo L) (μ := fun s => L.length - s.k) (res := fun _ => ()) (R := OuR H0 b oB qo L)
  (fun s hI => by
   have hnx := hI.nx
   have dh := h.keep (H' := s.H) (M := b) (hI.fr oB (by omega) hqB) (hI.fr q (by omega) hqq) hN
   have hrs := dh.root
   obtain ⟨a1, b1, c1, hv⟩ := hI.osl
   rcases Nat.lt_or_ge s.k L.length with hl | hl
   ·obtain ⟨e, st, hrun, rfl, H1, n1, rfl, hn1, hk1⟩ := need_loop (b := s.n + 9) dh (by omega) hn hL s.vo hl
    have htk : (L.take (s.k + 1)).filter (needed L) = (L.take s.k).filter (needed L) ++ [L[s.k]].filter (needed L) := by rw [List.take_succ_eq_append_getElem hl, List.filter_append]
    have hr1 := (hk1 oB (by omega)).trans hrs
    have hr2 := (hk1 q (by omega)).trans ((hI.fr q (by omega) hqq).trans r2)
    have aj := r_at (by omega) hl
    have hw : IntKind.i64.wrap ((s.k : Int) + 1) = (s.k : Int) + 1 := wrap_i64 (by omega) (by omega)
    obtain ⟨n, hnn⟩ : ∃ n, n = L[s.k] := ⟨_, rfl⟩
    rw [← hnn] at aj hrun htk
    obtain ⟨cs, hcs⟩ : ∃ cs, cs = encN L := ⟨_, rfl⟩
    rw [← hcs] at aj hr1 hr2 hrs
    simp [ndT] at hrun
    rw [← hcs] at r3
    cases hb : needed L n with
    | false =>
     rw [hb] at hrun
     simp [b19_1, plc_raw, hrs, aj.len, aj.lti, hrun, hw, Nat.add_assoc]
     have hnext : OuI H0 b qo L ⟨s.k + 1, below b H1, n1 + 4, s.vo⟩ := by
      refine ⟨hl, by simp only; omega, ?_, hI.osl, fun p hp h1 => ?_⟩
      ·simp only
       rw [htk, List.filter_cons_of_neg (by simp [hb]), List.filter_nil, List.append_nil]
       exact hI.row.keep (by rw [below_lt hq, hk1 qo (by omega)])
      ·show below b H1 p = H0 p
       rw [below_lt hp, hk1 p (by omega)]; exact hI.fr p hp h1
     exact .next _ rfl rfl rfl hnext (by simp only; omega) rfl
    | true =>
     rw [hb] at hrun
     obtain ⟨Ha, hHa⟩ : ∃ Ha, Ha = upd H1 (n1 + 9, 0) (.cells [.d (.int .i64 n.id), .d (.int .i64 n.t.v), .d (.str n.t.fn), .d (.sl (encL n.t.args) n.t.args.length false none), .d (.int .i64 n.kept)]) := ⟨_, rfl⟩
     have hka : ∀ p : Oid, p.1 < b → Ha p = s.H p := fun p hp => by rw [hHa, upd_ne (fun e => by rw [e] at hp; simp only at hp; omega), hk1 p (by omega)]
     have hfl : ((L.take s.k).filter (needed L)).length ≤ 1048576 := Nat.le_trans (List.length_filter_le _ _) (by rw [List.length_take]; omega)
     obtain ⟨ver, H2, c2, r2', k2⟩ := append_node (H := Ha) (hI.row.keep (hka qo hq)) (by omega) (e := (n1 + 9, 0)) (by rw [hHa]; exact upd_same _ _ _) (n1 + 10)
     have hen : encN ((L.take s.k).filter (needed L)) ++ [.int .i64 n.id, .int .i64 n.t.v, .str n.t.fn, .sl (encL n.t.args) n.t.args.length false none, .int .i64 n.kept] = encN ((L.take (s.k + 1)).filter (needed L)) := by
      rw [htk, List.filter_cons_of_pos (by simp [hb]), List.filter_nil, encN_append]; rfl
     have hln : ((L.take s.k).filter (needed L)).length + 1 = ((L.take (s.k + 1)).filter (needed L)).length := by
      rw [htk, List.filter_cons_of_pos (by simp [hb]), List.filter_nil, List.length_append]; rfl
     rw [hen, hln] at r2'
     rw [hln] at c2
     rw [hv] at c2 r2' k2
     simp only [RowD.next] at c2 r2' k2
     obtain ⟨pl, hpl⟩ : ∃ pl, pl = ((L.take (s.k + 1)).filter (needed L)).length := ⟨_, rfl⟩
     rw [← hpl] at c2
     rw [hv] at hrun
     simp [b19_1, plc_raw, hv, hrs, aj.len, aj.lti, hrun, hr1, hr2, aj.ltm, aj.le5, aj.all, ← hHa, c2, hw, Nat.add_assoc]
     have hnext : OuI H0 b qo L ⟨s.k + 1, below b H2, n1 + 15, .osl qo 0 pl 5 ver⟩ := by
      refine ⟨hl, by simp only; omega, ?_, ⟨_, _, _, rfl⟩, fun p hp h1 => ?_⟩
      ·simp only
       rw [hpl]
       exact r2'.keep (below_lt hq)
      ·show below b H2 p = H0 p
       rw [below_lt hp, k2 p h1, hka p hp]; exact hI.fr p hp h1
     exact .next _ rfl rfl rfl hnext (by simp only; omega) rfl
   ·have hte : s.k = L.length := Nat.le_antisymm hI.le hl
    simp [b19_1, plc_raw, hrs, hte, hv, Nat.add_assoc]
    refine .fin _ _ ⟨rfl, ⟨s.k, below b s.H, s.n + 7, s.vo⟩, ⟨hI.le, by simp only; omega, hI.row.keep (below_lt hq), hI.osl, fun p hp h1 => (below_lt hp).trans (hI.fr p hp h1)⟩, hte, by simp [hv]⟩) s0 h0
 obtain ⟨e, st, hrun, rfl, s, hs, hsk, rfl⟩ := key
 rw [hi] at hrun
 exact ⟨s, hs, hsk, hrun⟩
theorem dropR_ok {H : Hp} {N nx : Nat} {oB q : Oid} {lim : Int} {L : List Nd} {v : AV} (h : DH H N oB q lim L v) (hN : N ≤ nx) (hb : Bk L) (hL : ∀ n ∈ L, NdOk n) (hsz : L.length ≤ 1048576) (hkp : ∀ n ∈ L, n.kept ≤ 1099511627776) (i : Int) :
  ∃ H' nx' q' v', acall Try.prog plc 19 [.ptr oB 0 2, .d (.int .i64 i)] H nx = some (.d (.bool (decide ((dropB L i).1 = 0))), H', nx') ∧ DidD lim oB q H nx H' nx' q' (dropB L i).2 v' := by
 obtain ⟨nl, is, hre⟩ := h.reify
 have hat := atId_ok lim L nl (by omega) i
 have lB := h.ltB
 have lQ := h.ltQ
 unfold dropB
 cases hi : byId L i with
 | none =>
  rw [show (L.findIdx? fun n => decide (n.id = i)) = none from findIdx_none hi] at hat
  simp only [idxI] at hat
  refine ⟨H, nx + 19, q, v, acall_body code19 ?_, ⟨h.old (fun _ _ => rfl) (by omega), by omega, .inl rfl, fun _ _ _ _ => rfl⟩⟩
  simp [plc_raw, hre, reifyD, -reify, hat, Nat.add_assoc]
 | some n =>
  obtain ⟨k, e1, e2, hk⟩ := findIdx_some hi
  obtain ⟨hnm, hni⟩ := byId_some hi
  rw [e1] at hat
  simp only [idxI] at hat
  have hkn : L[k] = n := by rw [List.getElem?_eq_getElem hk] at e2; exact Option.some.inj e2
  have a := r_at (by omega) hk
  rw [hkn] at a
  have hroot := h.root
  obtain ⟨rfl, r2, r3⟩ := h.row.pos (by omega)
  have hk0 : ¬ (k : Int) < 0 := by omega
  obtain ⟨cs, hcs⟩ : ∃ cs, cs = encN L := ⟨_, rfl⟩
  rw [← hcs] at a r2 r3 hroot
  have hkp4 : ∀ h : k * 5 + 4 < cs.length, cs[k * 5 + 4]'h = .int .i64 n.kept := fun h => by
   have := a.kp
   rw [List.getElem?_map, List.getElem?_eq_getElem h] at this
   simpa using this
  by_cases h0 : n.kept = 0
  ·simp only [if_pos h0]
   refine ⟨H, nx + 19, q, _, acall_body code19 ?_, ⟨h.old (fun _ _ => rfl) (by omega), by omega, .inl rfl, fun _ _ _ _ => rfl⟩⟩
   simp [plc_raw, hre, reifyD, -reify, hat, hk0, hroot, r2, a.len, a.lti, a.ltm, a.kp, hkp4, a.le4, a.le5, h0, Nat.add_assoc]
  ·simp only [if_neg h0]
   have hkn0 := hb.kept n hnm
   have hkn9 := hkp n hnm
   have hw : IntKind.i64.wrap (n.kept - 1) = n.kept - 1 := wrap_i64 (by omega) (by omega)
   have hsp := splice_kp e2 (n.kept - 1)
   have hbs := bump_set hb.ts e2 (-1)
   rw [← Int.sub_eq_add_neg] at hbs
   rw [← hbs] at hsp
   obtain ⟨L2, hL2⟩ : ∃ L2, L2 = bump L n.t (-1) := ⟨_, rfl⟩
   have hlen2 : L2.length = L.length := by rw [hL2, bump_len]
   have hok2 : ∀ m ∈ L2, NdOk m := fun m hm => by
    rw [hL2] at hm
    obtain ⟨p, hp, _, e, _⟩ := bump_mem hm
    have := hL p hp
    exact ⟨e ▸ this.ok, e ▸ this.sz, e ▸ this.ps⟩
   rw [← hL2] at hsp ⊢
   have hrow2 := fun H' (hh : H' q = some (.grow (List.map AV.d (encN L2)))) => RowD.row (H := H') (sz := 5) q (encN L2) L2.length hh (by rw [encN_len])
   obtain ⟨cs2, hcs2⟩ : ∃ cs, cs = encN L2 := ⟨_, rfl⟩
   have hl12 : cs2.length = cs.length := by rw [hcs2, encN_len, r3, hlen2]
   rw [← hcs] at hsp
   rw [← hcs2] at hsp hrow2
   rw [hl12] at hrow2
   obtain ⟨H1, hH1⟩ : ∃ H1, H1 = upd H q (.grow (List.map AV.d cs2)) := ⟨_, rfl⟩
   obtain ⟨Hi, hHi⟩ : ∃ Hi, Hi = upd H1 (nx + 30, 1) .vnil := ⟨_, rfl⟩
   have hi1 : ∀ p : Oid, p.1 < nx → p ≠ q → Hi p = H p := fun p hp h1 => by rw [hHi, upd_ne (fun e => by rw [e] at hp; simp only at hp; omega), hH1, upd_ne h1]
   have hiq : Hi q = some (.grow (List.map AV.d cs2)) := by rw [hHi, upd_ne (fun e => by rw [e] at lQ; simp only at lQ; omega), hH1]; exact upd_same _ _ _
   have dhi : DH Hi N oB q lim L2 (.osl q 0 L2.length 5 cs.length) := by
    refine ⟨?_, ?_, ⟨_, _, _, rfl⟩, lB, lQ, h.ne⟩
    ·rw [hi1 oB (by omega) h.ne, hlen2]; exact hroot
    ·rw [← hcs2]; exact hrow2 Hi hiq
   have hqo : oB ≠ (nx + 30, 1) := fun e => by rw [e] at lB; simp only at lB; omega
   have hqq : q ≠ (nx + 30, 1) := fun e => by rw [e] at lQ; simp only at lQ; omega
   obtain ⟨s, hs, hsk, hrun⟩ := out_loop (b := nx + 32) (qo := (nx + 30, 1)) dhi (by omega) (by omega) hok2 (by omega) (by simp only; omega) hqo hqq ⟨0, Hi, nx + 32, .osl (nx + 30, 1) 0 0 1 0⟩
    ⟨Nat.zero_le _, Nat.le_refl _, .vn _ (by rw [hHi]; exact upd_same _ _ _), ⟨_, _, _, rfl⟩, fun _ _ _ => rfl⟩ rfl
   obtain ⟨k2, Hs, n1, vo⟩ := s
   obtain ⟨_, hn1, hrow, ⟨z1, z2, z3, rfl⟩, hfr⟩ := hs
   simp only at hsk hrun hn1 hrow hfr
   rw [hsk, List.take_length] at hrow
   simp [ouT] at hrun
   have hroots : Hs oB = some (.cells [.d (.int .i64 lim), .osl q 0 L2.length 5 cs.length]) := by rw [hfr oB (by omega) hqo]; exact dhi.root
   refine ⟨upd Hs oB (.cells [.d (.int .i64 lim), .osl (nx + 30, 1) 0 z1 z2 z3]), n1 + 6, (nx + 30, 1), .osl (nx + 30, 1) 0 z1 z2 z3, acall_body code19 ?_, ⟨⟨upd_same _ _ _, hrow.keep (upd_ne hqo.symm), ⟨_, _, _, rfl⟩, by omega, by simp only; omega, hqo⟩, by omega, .inr (by simp only; omega), fun p hp h1 h2 => ?_⟩⟩
   ·simp [plc_raw, hre, reifyD, -reify, hat, hk0, hroot, r2, a.len, a.lti, a.ltm, a.kp, hkp4, a.le4, a.le5, h0, hw, hsp, -splice, ← hH1, ← hHi, hrun, hroots, Nat.add_assoc]
    simp [splice]
   ·rw [upd_ne h1, hfr p (by omega) (fun e => by rw [e] at hp; simp only at hp; omega), hi1 p hp h2]
end Go.Proofs.Ytiafeijkifpfaaa.Am


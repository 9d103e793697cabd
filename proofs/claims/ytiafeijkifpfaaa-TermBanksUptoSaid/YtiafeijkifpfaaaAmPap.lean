/-
  Joined texts: AmJn, AmJy. No condition.
-/
import Derived.Test.YtiafeijkifpfaaaAmPao
/-
 One number just if it is one term: the terms are laid. No condition.
-/
namespace Go.Proofs.Ytiafeijkifpfaaa.Am
open Go Go.Proofs
set_option maxHeartbeats 4000000
set_option maxRecDepth 20000
set_option linter.unusedSimpArgs false
set_option linter.unusedVariables false
theorem alive_ok : pcl Cp 14 [] = some (.bool true) := by
 have h : acall Try.prog plc 14 [] (fun _ => none) 0 = some (.d (.bool true), fun _ => none, 0) := by
  refine acall_of Try.prog plc ?_
  unfold callF
  have : plc.ext 14 = some aliveX := rfl
  rw [this]
  rfl
 unfold pcl
 simp [h, reify]
def cntT (ks : List Term) (t : Term) : Nat := ks.countP fun x => x.sameB t
structure OnS where
 i : Nat
 H : Hp
 N : Nat
 P : Int → Oid
 L : List Nd
 ks : List Term
 vi : AV
 q1 : Oid
 vk : AV
 q2 : Oid
structure OnI (l : List Term) (o m1 m2 : Oid) (s : OnS) : Prop where
 le : s.i ≤ l.length
 bh : BH s.H s.N o m1 m2 s.P 1000000 s.L
 bk : Bk s.L
 lv : Held s.L
 cnt : ∀ n ∈ s.L, n.kept = cntT s.ks n.t
 has : ∀ k ∈ s.ks, hasT s.L k = true
 r1 : RowD s.H 1 s.vi s.q1 ((s.ks.map (idOf s.L)).map (D.int .i64 ·)) s.ks.length
 r2 : RowD s.H 3 s.vk s.q2 (encL s.ks) s.ks.length
 kl : s.ks.length ≤ s.i
 sz : s.L.length ≤ 300 * s.i
 lt1 : s.q1.1 < s.N
 lt2 : s.q2.1 < s.N
 no1 : ¬ Ft o m1 m2 s.P s.L s.q1
 no2 : ¬ Ft o m1 m2 s.P s.L s.q2
 n12 : s.q1 ≠ s.q2
 sub : ∀ k ∈ s.ks, k ∈ l
abbrev onT (l : List Term) (o : Oid) (vi vk : AV) (i : Nat) : List AV := [.d (.sl (encL l) l.length false none), .junk, .d (.bool false), .ptr o 0 3, .junk, vi, vk, .d (.int .i64 i), .junk, .junk, .junk, .junk, .junk, .junk, .junk, .junk, .junk, .junk, .junk, .junk, .junk, .junk, .junk, .junk, .junk, .junk, .junk, .junk, .junk, .junk, .junk, .junk, .junk, .junk, .junk, .junk, .junk, .junk, .junk, .junk, .junk, .junk, .junk, .junk, .junk, .junk, .junk, .junk, .junk, .junk, .junk, .junk, .junk, .junk, .junk, .junk, .junk, .junk, .junk, .junk, .junk, .junk, .junk, .junk, .junk, .junk, .junk, .junk, .junk, .junk, .junk, .junk, .junk, .junk, .junk, .junk, .junk, .junk, .junk, .junk, .junk, .junk, .junk, .junk, .junk, .junk, .junk, .junk, .junk, .junk, .junk, .junk, .junk, .junk, .junk, .junk, .junk, .junk, .junk, .junk, .junk, .junk, .junk, .junk, .junk, .junk, .junk, .junk, .junk, .junk, .junk, .junk, .junk, .junk, .junk, .junk, .junk, .junk, .junk, .junk, .junk, .junk, .junk, .junk, .junk, .junk, .junk, .junk, .junk, .junk, .junk, .junk, .junk, .junk, .junk, .junk, .junk, .junk, .junk, .junk, .junk, .junk, .junk, .junk, .junk, .junk, .junk, .junk, .junk, .junk, .junk, .junk, .junk, .junk, .junk, .junk, .junk, .junk, .junk, .junk, .junk, .junk]
def OnR (l : List Term) (o m1 m2 : Oid) (_ : Unit) (e : Ex) (st : St) : Prop :=
 AtRet 2 (.d (.bool true)) e st ∨ (e = .exit 0 ∧ ∃ s, OnI l o m1 m2 s ∧ st = ⟨onT l o s.vi s.vk l.length, s.H, s.N⟩)
theorem cnt_le (ks : List Term) (t : Term) : cntT ks t ≤ ks.length := List.countP_le_length
theorem cnt_append (ks : List Term) (x t : Term) : cntT (ks ++ [x]) t = cntT ks t + if x.sameB t then 1 else 0 := by
 unfold cntT
 rw [List.countP_append, List.countP_cons, List.countP_nil, Nat.zero_add]
theorem RowD.next_or (v : AV) (q : Oid) (id : Nat) : RowD.next v q id = (id, 0) ∨ RowD.next v q id = q := by
 unfold RowD.next; split
 ·exact .inl rfl
 ·exact .inr rfl
theorem cnt_zero {ks : List Term} {t : Term} (h : t ∉ ks) : cntT ks t = 0 := by
 unfold cntT
 rw [List.countP_eq_zero]
 intro x hx e
 rw [(sameB_eq _ _).1 e] at hx
 exact h hx
theorem RowD.lt_next {v : AV} {q : Oid} {id N : Nat} (h : q.1 < N) (h2 : id < N) : (RowD.next v q id).1 < N := by
 unfold RowD.next; split
 ·exact h2
 ·exact h
theorem once_loop (l : List Term) (hl : l.length ≤ 50) (hok : ∀ x ∈ l, x.ok) (hsz : ∀ x ∈ l, (x.size : Int) ≤ 4611686018427387904) (o m1 m2 : Oid) (s0 : OnS) (h0 : OnI l o m1 m2 s0) (hi : s0.i = 0) :
  ∃ e st, aloop Try.prog plc b4_2 ⟨[true, false, true, true, false, true, true, true, false, false, false, true, true, true, true, false, true, true, true, false, false, false, false, false, false, false, false, false, false, false, false, false, false, false, false, false, false, false, false, false, false, false, false, false, false, false, false, false, false, false, false, false, false, false, false, false, false, false, false, false, false, false, false, false, false, false, false, false, false, false, false, false, false, false, false, false, false, false, false, false, false, false, false, false, false, false, false, false, false, false, false, false, true, true, true, true, true, true, true, true, true, true, true, true, true, true, true, true, true, true, true, true, true, true, true, true, true, true, true, true, true, true, true, true, true, true, true, true, true, true, true, true, true, true, true, true, true, true, true, true, true, true, true, true, true, true, true, true, true, true, true, true, true, true, true, true, true, true, true, true, true, true], none⟩ ⟨onT l o s0.vi s0.vk 0, s0.H, s0.N⟩ = some (e, st) ∧ OnR l o m1 m2 () e st := by
 have key := loop_ruleN (P := Try.prog) (pol := plc) (c := b4_2) (m := ⟨[true, false, true, true, false, true, true, true, false, false, false, true, true, true, true, false, true, true, true, false, false, false, false, false, false, false, false, false, false, false, false, false, false, false, false, false, false, false, false, false, false, false, false, false, false, false, false, false, false, false, false, false, false, false, false, false, false, false, false, false, false, false, false, false, false, false, false, false, false, false, false, false, false, false, false, false, false, false, false, false, false, false, false, false, false, false, false, false, false, false, false, false, true, true, true, true, true, true, true, true, true, true, true, true, true, true, true, true, true, true, true, true, true, true, true, true, true, true, true, true, true, true, true, true, true, true, true, true, true, true, true, true, true, true, true, true, true, true, true, true, true, true, true, true, true, true, true, true, true, true, true, true, true, true, true, true, true, true, true, true, true, true], none⟩)
  (N := fun s : OnS => s.N) (tm := fun s => onT l o s.vi s.vk s.i) (Hf := fun s => s.H) (I := OnI l o m1 m2) (μ := fun s => l.length - s.i) (res := fun _ => ()) (R := OnR l o m1 m2)
  (fun s hI => by
   rcases Nat.lt_or_ge s.i l.length with hlt | hlt
   ·obtain ⟨v, fn, args, a⟩ := at_ok (by omega) hlt
    have hget : l[s.i] = .mk v fn args := a.get
    have hsm := small_ok (.mk v fn args) (hok _ a.mem)
    have hts := hsz _ a.mem
    simp [Term.enc] at hsm
    by_cases hS : (Term.mk v fn args).sizeW ≤ 300 ∧ (Term.mk v fn args).depthW ≤ 100
    ·rw [sizeW_eq _ hts] at hS
     have h300 : (Term.mk v fn args).size ≤ 300 := by omega
     rw [sizeW_eq _ hts] at hsm
     have hpl := parts_len (.mk v fn args)
     have hk50 := hI.kl
     have hi50 := hI.le
     have hLs := hI.sz
     have hm := make_ok hI.bh hI.bk hI.lv (nx := s.N + 21) (by omega) (by omega) (fun n hn => by rw [hI.cnt n hn]; have := cnt_le s.ks n.t; omega) (.mk v fn args) (hok _ a.mem) (by omega) (fun he => shape_fits _ ((rightE_iff _ hts).1 he).1)
     obtain ⟨H1, n1, P1, c1, d1⟩ := hm
     simp only [Term.enc] at c1
     have g1 := d1.le
     by_cases he : (Term.mk v fn args).rightE = 0
     ·have hnl : ¬ (1000000 : Int) < ((layB s.L (Term.mk v fn args).parts).length : Int) := by
       obtain ⟨M, e, _, hM⟩ := lay_ext (Term.mk v fn args).parts s.L
       have := congrArg List.length e
       rw [List.length_append] at this; omega
      have hmk : makeB 1000000 s.L (.mk v fn args) = ((idOf (layB s.L (Term.mk v fn args).parts) (.mk v fn args), 0), bump (layB s.L (Term.mk v fn args).parts) (.mk v fn args) 1) := by
       unfold makeB; rw [if_neg (by simp [he]), if_neg hnl]
      rw [hmk] at c1 d1
      simp only at c1 d1
      have hf : (Term.mk v fn args).fits := shape_fits _ ((rightE_iff _ hts).1 he).1
      obtain ⟨L1, hL1⟩ : ∃ L1, L1 = layB s.L (Term.mk v fn args).parts := ⟨_, rfl⟩
      obtain ⟨M, hLM, hM, hMl⟩ := lay_ext (Term.mk v fn args).parts s.L
      have hb1 : Bk L1 := hL1 ▸ Bk.lay _ hf _ hI.bk
      have hin : hasT L1 (.mk v fn args) = true := by rw [hL1]; exact lay_mem _ _ (parts_self _)
      have hlv : Held (bump L1 (.mk v fn args) 1) := by rw [hL1]; exact lay_live hI.bk hI.lv hf
      have hid1 : ∀ k ∈ s.ks, idOf L1 k = idOf s.L k := fun k hk => by rw [hL1]; exact lay_id (hI.has k hk)
      have hh1 : ∀ k ∈ s.ks, hasT L1 k = true := fun k hk => by rw [hL1]; exact lay_has (hI.has k hk)
      rw [← hL1] at c1 d1 hLM
      obtain ⟨id, hid⟩ : ∃ id, id = idOf L1 (.mk v fn args) := ⟨_, rfl⟩
      rw [← hid] at c1
      have hq1 : H1 s.q1 = s.H s.q1 := d1.fr _ (by have := hI.lt1; omega) hI.no1
      have hq2 : H1 s.q2 = s.H s.q2 := d1.fr _ (by have := hI.lt2; omega) hI.no2
      obtain ⟨n2, ck, gk⟩ := check_loop l o (H := H1) (vi := s.vi) (vk := s.vk) (q1 := s.q1) (q2 := s.q2) (ids := s.ks.map (idOf s.L)) (ks := s.ks) (by simp) (by omega) (hI.r1.keep hq1) (hI.r2.keep hq2) (by omega) hlt (by rw [hget]; exact hok _ a.mem) (fun k hk => hok _ (hI.sub k hk)) id (fun j hj => by
       have hkm : s.ks[j] ∈ s.ks := List.getElem_mem hj
       rw [hget, List.getElem_map, ← hid1 _ hkm, hid]
       rw [Bool.eq_iff_iff, decide_eq_true_eq, sameB_eq]
       exact ⟨fun e => hb1.id_inj (hh1 _ hkm) hin e, fun e => by rw [e]⟩) (n1 + 3)
      simp [ckT] at ck
      obtain ⟨Ha, hHa⟩ : ∃ Ha, Ha = upd H1 (n2 + 2, 0) (.cells [.d (.int .i64 id)]) := ⟨_, rfl⟩
      have lt1 := hI.lt1
      have lt2 := hI.lt2
      have hne : ∀ (p : Oid) (k j : Nat), p.1 < n1 → p ≠ (n2 + k, j) := fun p k j hp e => by rw [e] at hp; simp only at hp; omega
      obtain ⟨ver1, H2, c2, ra, ka⟩ := append_int (H := Ha) ((hI.r1.keep hq1).keep (by rw [hHa]; exact upd_ne (hne _ 2 0 (by omega)))) (by omega) (e := (n2 + 2, 0)) (x := id) (by rw [hHa]; exact upd_same _ _ _) (n2 + 3)
      obtain ⟨Hb, hHb⟩ : ∃ Hb, Hb = upd H2 (n2 + 10, 0) (.cells [.d (.int .i64 v), .d (.str fn), .d (.sl (encL args) args.length false none)]) := ⟨_, rfl⟩
      obtain ⟨qa, hqa⟩ : ∃ qa, qa = RowD.next s.vi s.q1 (n2 + 3) := ⟨_, rfl⟩
      obtain ⟨qb, hqb⟩ : ∃ qb, qb = RowD.next s.vk s.q2 (n2 + 11) := ⟨_, rfl⟩
      have hqa' : qa = (n2 + 3, 0) ∨ qa = s.q1 := hqa ▸ RowD.next_or _ _ _
      have hqb' : qb = (n2 + 11, 0) ∨ qb = s.q2 := hqb ▸ RowD.next_or _ _ _
      rw [← hqa] at c2 ra ka
      have nq2a : s.q2 ≠ qa := by
       rcases hqa' with e | e
       ·rw [e]; exact hne _ 3 0 (by omega)
       ·rw [e]; exact hI.n12.symm
      have hq2b : Hb s.q2 = H1 s.q2 := by
       rw [hHb, upd_ne (hne _ 10 0 (by omega)), ka _ nq2a, hHa, upd_ne (hne _ 2 0 (by omega))]
      obtain ⟨ver2, H3, c3, rb, kb⟩ := append_term (H := Hb) ((hI.r2.keep hq2).keep hq2b) (by omega) (e := (n2 + 10, 0)) (by rw [hHb]; exact upd_same _ _ _) (n2 + 11)
      rw [← hqb] at c3 rb kb
      simp [b4_2, plc_raw, a.lti, a.sz, a.ltm, a.cells, a.le3, a.w, hsm, hS, c1, ck, ← hHa, c2, ← hHb, c3, Nat.add_assoc]
      have bft : ∀ p : Oid, Ft o m1 m2 P1 (bump L1 (.mk v fn args) 1) p → p.1 < n1 ∧ p ≠ s.q1 ∧ p ≠ s.q2 := fun p hp => by
       have h1 := d1.bh.foot_lt hp
       rcases d1.ft p hp with e | e
       ·exact ⟨h1, fun e2 => hI.no1 (e2 ▸ e), fun e2 => hI.no2 (e2 ▸ e)⟩
       ·exact ⟨h1, fun e2 => by rw [e2] at e; omega, fun e2 => by rw [e2] at e; omega⟩
      have nqb : ∀ p : Oid, p.1 < n1 → p ≠ s.q2 → p ≠ qb := fun p hp h2 => by
       rcases hqb' with e | e
       ·rw [e]; exact hne _ 11 0 hp
       ·rw [e]; exact h2
      have nqa : ∀ p : Oid, p.1 < n1 → p ≠ s.q1 → p ≠ qa := fun p hp h2 => by
       rcases hqa' with e | e
       ·rw [e]; exact hne _ 3 0 hp
       ·rw [e]; exact h2
      have hH3 : ∀ p : Oid, p.1 < n1 → p ≠ s.q1 → p ≠ s.q2 → H3 p = H1 p := fun p hp h1 h2 => by
       rw [kb _ (nqb p hp h2), hHb, upd_ne (hne _ 10 0 hp), ka _ (nqa p hp h1), hHa, upd_ne (hne _ 2 0 hp)]
      have nab : qa ≠ qb := by
       rcases hqa' with e | e
       ·rcases hqb' with e2 | e2
        ·rw [e, e2]; simp
        ·rw [e, e2]; exact (hne _ 3 0 (by omega)).symm
       ·rcases hqb' with e2 | e2
        ·rw [e, e2]; exact hne _ 11 0 (by omega)
        ·rw [e, e2]; exact hI.n12
      have na10 : qa ≠ (n2 + 10, 0) := by
       rcases hqa' with e | e
       ·rw [e]; simp
       ·rw [e]; exact hne _ 10 0 (by omega)
      have ha3 : H3 qa = H2 qa := by rw [kb _ nab, hHb, upd_ne na10]
      have hla : qa.1 < n2 + 16 := by
       rcases hqa' with e | e
       ·rw [e]; simp
       ·rw [e]; omega
      have hlb : qb.1 < n2 + 16 := by
       rcases hqb' with e | e
       ·rw [e]; simp
       ·rw [e]; omega
      have hids : (s.ks ++ [Term.mk v fn args]).map (idOf (bump L1 (.mk v fn args) 1)) = s.ks.map (idOf s.L) ++ [id] := by
       have : idOf (bump L1 (.mk v fn args) 1) = idOf L1 := funext fun u => bump_find _ _ _ u
       rw [this, List.map_append, List.map_cons, List.map_nil, ← hid]
       congr 1
       exact List.map_congr_left fun k hk => hid1 k hk
      have hnx : OnI l o m1 m2 ⟨s.i + 1, H3, n2 + 16, P1, bump L1 (.mk v fn args) 1, s.ks ++ [.mk v fn args], .osl qa 0 (s.ks.length + 1) 1 ver1, qa, .osl qb 0 (s.ks.length + 1) 3 ver2, qb⟩ := by
       refine ⟨hlt, (d1.bh.keep fun p hp => ?_).mono (show n1 ≤ n2 + 16 by omega), hb1.bump fun m hm _ => by have := hb1.kept m hm; omega, hlv, fun n hn => ?_, fun k hk => ?_, ?_, ?_, by simp only [List.length_append, List.length_singleton]; omega, ?_, hla, hlb, fun e => ?_, fun e => ?_, nab, fun k hk => ?_⟩
       ·obtain ⟨h1, h2, h3⟩ := bft p hp
        exact hH3 p h1 h2 h3
       ·obtain ⟨m, hm, _, e2, e3, e4⟩ := bump_mem hn
        have hmk : m.kept = cntT s.ks m.t := by
         rw [hLM] at hm
         rcases List.mem_append.1 hm with hm | hm
         ·exact hI.cnt m hm
         ·rw [(hM m hm).1, cnt_zero]; rfl
          intro hk
          obtain ⟨p, hp, hpe⟩ := hasT_iff.1 (hI.has _ hk)
          have h4 := hb1.ts
          rw [hLM, List.map_append, List.nodup_append] at h4
          exact h4.2.2 p.t (List.mem_map.2 ⟨p, hp, rfl⟩) m.t (List.mem_map.2 ⟨m, hm, rfl⟩) hpe
        simp only
        rw [cnt_append, ← e2]
        by_cases e : m.t = .mk v fn args
        ·rw [e3 e, hmk, if_pos (by rw [sameB_eq, e])]; simp
        ·rw [e4 e, hmk, if_neg (by rw [sameB_eq]; exact fun h => e h.symm)]; simp
       ·rw [bump_has]
        rcases List.mem_append.1 hk with hk | hk
        ·exact hh1 k hk
        ·rw [List.mem_singleton] at hk; subst hk; exact hin
       ·simp only
        rw [hids, List.map_append, List.length_append, List.length_singleton]
        exact ra.keep ha3
       ·simp only
        rw [encL_append, List.length_append, List.length_singleton]
        exact rb
       ·simp only
        rw [bump_len, hLM, List.length_append]; omega
       ·obtain ⟨h1, h2, h3⟩ := bft _ e
        exact nqa _ h1 h2 rfl
       ·obtain ⟨h1, h2, h3⟩ := bft _ e
        exact nqb _ h1 h3 rfl
       ·rcases List.mem_append.1 hk with hk | hk
        ·exact hI.sub k hk
        ·rw [List.mem_singleton] at hk; subst hk; exact a.mem
      exact .next _ rfl rfl rfl hnx (by simp only; omega) rfl
     ·have hmk : makeB 1000000 s.L (.mk v fn args) = ((0, (Term.mk v fn args).rightE), s.L) := by unfold makeB; rw [if_pos he]
      rw [hmk] at c1 d1
      simp only at c1 d1
      simp [b4_2, plc_raw, a.lti, a.sz, a.ltm, a.cells, a.le3, a.w, hsm, hS, c1, he, Nat.add_assoc]
      have hft : ∀ p : Oid, p.1 < s.N → ¬ Ft o m1 m2 s.P s.L p → ¬ Ft o m1 m2 P1 s.L p := fun p hp hF e => by
       rcases d1.ft p e with e | e
       ·exact hF e
       ·omega
      have hnx : ∀ n, n1 ≤ n → OnI l o m1 m2 ⟨s.i + 1, H1, n, P1, s.L, s.ks, s.vi, s.q1, s.vk, s.q2⟩ := fun n hn => ⟨hlt, d1.bh.mono hn, hI.bk, hI.lv, hI.cnt, hI.has, hI.r1.keep (d1.fr _ (by have := hI.lt1; omega) hI.no1), hI.r2.keep (d1.fr _ (by have := hI.lt2; omega) hI.no2), by simp only; omega, by simp only; omega, by have := hI.lt1; simp only; omega, by have := hI.lt2; simp only; omega, hft _ hI.lt1 hI.no1, hft _ hI.lt2 hI.no2, hI.n12, hI.sub⟩
      exact .next _ rfl rfl rfl (hnx (n1 + 5) (by omega)) (by simp only; omega) rfl
    ·have hb : (decide ((Term.mk v fn args).sizeW ≤ 300) && decide ((Term.mk v fn args).depthW ≤ 100)) = false := by
      rw [← Bool.not_eq_true]; simpa using hS
     rw [hb] at hsm
     simp [b4_2, plc_raw, a.lti, a.sz, a.ltm, a.cells, a.le3, a.w, hsm, alive_ok, Nat.add_assoc]
     exact .fin _ _ (.inl ⟨rfl, rfl⟩)
   ·have hte : s.i = l.length := Nat.le_antisymm hI.le hlt
    simp [b4_2, hte, Nat.add_assoc]
    refine .fin _ _ (.inr ⟨rfl, { s with N := s.N + 4 }, ?_, by simp⟩)
    exact { hI with bh := hI.bh.mono (Nat.le_add_right _ _), lt1 := by have := hI.lt1; simp only; omega, lt2 := by have := hI.lt2; simp only; omega }) s0 h0
 rw [hi] at key
 exact key
end Go.Proofs.Ytiafeijkifpfaaa.Am

/-
 Both banks side by side; scripts as data. No condition.
-/
namespace Go.Proofs.Ytiafeijkifpfaaa.Am
open Go Go.Proofs
set_option maxHeartbeats 4000000
set_option maxRecDepth 20000
set_option linter.unusedSimpArgs false
set_option linter.unusedVariables false
abbrev Op3 := Int × Int × Term
def encP : List Op3 → List D
 | [] => []
 | (k, i, t) :: r => .int .i64 k :: .int .i64 i :: .int .i64 t.v :: .str t.fn :: .sl (encL t.args) t.args.length false none :: encP r
theorem encP_len : ∀ l : List Op3, (encP l).length = l.length * 5
 | [] => rfl
 | (k, i, t) :: r => by simp [encP, encP_len r]; omega
theorem encP_drop : ∀ (l : List Op3) (i : Nat), (encP l).drop (i * 5) = encP (l.drop i)
 | [], i => by simp [encP]
 | (k, x, t) :: r, 0 => by simp [encP]
 | (k, x, t) :: r, i + 1 => by rw [show (i + 1) * 5 = i * 5 + 1 + 1 + 1 + 1 + 1 by omega]; simp [encP, encP_drop r i]
abbrev dP (l : List Op3) : D := .sl (encP l) l.length false none
structure PAt (l : List Op3) (i : Nat) (k x : Int) (t : Term) : Prop where
 mem : (k, x, t) ∈ l
 lti : (i : Int) < (l.length : Int)
 len : (encP l).length = l.length * 5
 ltm : i * 5 < l.length * 5
 dr : (encP l).drop (i * 5) = .int .i64 k :: .int .i64 x :: .int .i64 t.v :: .str t.fn :: .sl (encL t.args) t.args.length false none :: encP (l.drop (i + 1))
 le5 : 5 ≤ l.length * 5 - i * 5
 w : IntKind.i64.wrap ((i : Int) + 1) = (i : Int) + 1
theorem p_at {l : List Op3} (hn : l.length ≤ 1048576) {i : Nat} (hi : i < l.length) : ∃ k x t, PAt l i k x t := by
 have hd : l.drop i = l[i] :: l.drop (i + 1) := List.drop_eq_getElem_cons hi
 have hm : l[i] ∈ l := List.getElem_mem hi
 obtain ⟨r, he⟩ : ∃ r, r = l[i] := ⟨_, rfl⟩
 rw [← he] at hd hm
 obtain ⟨k, x, t⟩ := r
 exact ⟨k, x, t, hm, by omega, encP_len l, by omega, by rw [encP_drop, hd]; simp [encP], by omega, wrap_i64 (by omega) (by omega)⟩
structure Pair (H : Hp) (N : Nat) (o m1 m2 : Oid) (P : Int → Oid) (lim : Int) (L : List Nd) (oB q : Oid) (L' : List Nd) (v : AV) : Prop where
 bh : BH H N o m1 m2 P lim L
 dh : DH H N oB q lim L' v
 a1 : ¬ Ft o m1 m2 P L oB
 a2 : ¬ Ft o m1 m2 P L q
variable {H H1 H2 : Hp} {N nx n1 n2 : Nat} {o m1 m2 oB q q' : Oid} {P P1 : Int → Oid} {lim : Int} {L L1 L' L1' : List Nd} {v v' : AV}
theorem Pair.old {M : Nat} (h : Pair H N o m1 m2 P lim L oB q L' v) (k : ∀ p : Oid, p.1 < N → H1 p = H p) (hM : N ≤ M) : Pair H1 M o m1 m2 P lim L oB q L' v := ⟨h.bh.old k hM, h.dh.old k hM, h.a1, h.a2⟩
theorem Pair.bank (h : Pair H N o m1 m2 P lim L oB q L' v) (hN : N ≤ nx) (d : Did lim o m1 m2 H nx P L H1 n1 P1 L1) : Pair H1 n1 o m1 m2 P1 lim L1 oB q L' v := by
 have lB := h.dh.ltB
 have lQ := h.dh.ltQ
 have hn := d.le
 refine ⟨d.bh, h.dh.keep (d.fr _ (by omega) h.a1) (d.fr _ (by omega) h.a2) (by omega), fun e => ?_, fun e => ?_⟩
 ·rcases d.ft _ e with e | e
  ·exact h.a1 e
  ·omega
 ·rcases d.ft _ e with e | e
  ·exact h.a2 e
  ·omega
theorem Pair.doc (h : Pair H N o m1 m2 P lim L oB q L' v) (hN : N ≤ nx) (d : DidD lim oB q H nx H1 n1 q' L1' v') : Pair H1 n1 o m1 m2 P lim L oB q' L1' v' := by
 have hn := d.le
 have hf : ∀ p, Ft o m1 m2 P L p → H1 p = H p := fun p hp => by
  have := h.bh.foot_lt hp
  exact d.fr p (by omega) (fun e => h.a1 (e ▸ hp)) (fun e => h.a2 (e ▸ hp))
 refine ⟨(h.bh.keep hf).mono (by omega), d.dh, h.a1, fun e => ?_⟩
 rcases d.qq with e2 | e2
 ·exact h.a2 (e2 ▸ e)
 ·have := h.bh.foot_lt e; omega
theorem okP (t : Term) : t.ok → ∀ x ∈ t.parts, x.ok := by
 refine Term.ind (p := fun t => t.ok → ∀ x ∈ t.parts, x.ok) (fun v fn args ih h x hx => ?_) t
 rcases parts_iff.1 hx with rfl | ⟨a, ha, hx⟩
 ·exact h
 ·exact ih a ha (okL_mem h.2 a ha) x hx
theorem sizeP (t : Term) : ∀ x ∈ t.parts, x.size ≤ t.size := by
 refine Term.ind (p := fun t => ∀ x ∈ t.parts, x.size ≤ t.size) (fun v fn args ih x hx => ?_) t
 rcases parts_iff.1 hx with rfl | ⟨a, ha, hx⟩
 ·exact Nat.le_refl _
 ·have h1 := ih a ha x hx
  have h2 := args_size (t := .mk v fn args) (a := a) ha
  omega
structure BkOk (L : List Nd) (i : Nat) : Prop where
 bk : Bk L
 lv : Held L
 ok : ∀ n ∈ L, NdOk n
 kp : ∀ n ∈ L, n.kept ≤ i
 sz : L.length ≤ 300 * i
theorem BkOk.mono {i j : Nat} (h : BkOk L i) (k : i ≤ j) : BkOk L j := ⟨h.bk, h.lv, h.ok, fun n hn => by have := h.kp n hn; omega, by have := h.sz; omega⟩
theorem BkOk.make {i : Nat} (h : BkOk L i) (lim : Int) {t : Term} (hok : t.ok) (hs : t.size ≤ 300) (hf : t.rightE = 0 → t.fits) : BkOk (makeB lim L t).2 (i + 1) := by
 unfold makeB
 by_cases he : t.rightE = 0
 ·rw [if_neg (by simp [he])]
  by_cases hl : lim < ((layB L t.parts).length : Int)
  ·rw [if_pos hl]; exact h.mono (Nat.le_succ _)
  ·rw [if_neg hl]
   have hb1 := Bk.lay t (hf he) L h.bk
   obtain ⟨M, e, hM, hMl⟩ := lay_ext t.parts L
   have hk1 : ∀ n ∈ layB L t.parts, n.kept ≤ i ∧ NdOk n := fun n hn => by
    rw [e] at hn
    rcases List.mem_append.1 hn with hn | hn
    ·exact ⟨h.kp n hn, h.ok n hn⟩
    ·obtain ⟨h1, h2⟩ := hM n hn
     have h3 := sizeP t _ h2
     exact ⟨by rw [h1]; omega, ⟨okP t hok _ h2, by omega, okP _ (okP t hok _ h2)⟩⟩
   refine ⟨hb1.bump fun m hm _ => by have := hb1.kept m hm; omega, lay_live h.bk h.lv (hf he), fun n hn => ?_, fun n hn => ?_, ?_⟩
   ·obtain ⟨m, hm, _, e2, _⟩ := bump_mem hn
    have := (hk1 m hm).2
    exact ⟨e2 ▸ this.ok, e2 ▸ this.sz, e2 ▸ this.ps⟩
   ·obtain ⟨m, hm, _, _, e3, e4⟩ := bump_mem hn
    have := (hk1 m hm).1
    by_cases ee : m.t = t
    ·rw [e3 ee]; omega
    ·rw [e4 ee]; omega
   ·simp only
    rw [bump_len, e, List.length_append]
    have := h.sz
    have := parts_len t
    omega
 ·rw [if_pos he]; exact h.mono (Nat.le_succ _)
theorem BkOk.drop {i : Nat} (h : BkOk L i) (x : Int) : BkOk (dropB L x).2 i := by
 unfold dropB
 cases hi : byId L x with
 | none => exact h
 | some n =>
  obtain ⟨hn, rfl⟩ := byId_some hi
  by_cases h0 : n.kept = 0
  ·simp only [if_pos h0]; exact h
  ·simp only [if_neg h0]
   have hb2 : Bk (bump L n.t (-1)) := h.bk.bump fun m hm e => by
    rw [nodup_inj h.bk.ts hm hn e]
    have := h.bk.kept n hn; omega
   refine ⟨hb2.needed, needed_live hb2, fun m hm => ?_, fun m hm => ?_, ?_⟩
   ·obtain ⟨p, hp, _, e2, _⟩ := bump_mem (List.mem_filter.1 hm).1
    have := h.ok p hp
    exact ⟨e2 ▸ this.ok, e2 ▸ this.sz, e2 ▸ this.ps⟩
   ·obtain ⟨p, hp, _, _, e3, e4⟩ := bump_mem (List.mem_filter.1 hm).1
    have := h.kp p hp
    by_cases ee : p.t = n.t
    ·rw [e3 ee]; omega
    ·rw [e4 ee]; exact this
   ·have h1 := List.length_filter_le (needed (bump L n.t (-1))) (bump L n.t (-1))
    rw [bump_len] at h1
    have := h.sz; omega
end Go.Proofs.Ytiafeijkifpfaaa.Am


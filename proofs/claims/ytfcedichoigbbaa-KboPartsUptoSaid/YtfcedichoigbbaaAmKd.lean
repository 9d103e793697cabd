/-
  The order of Knuth and Bendix: the program's function computes it. No condition.
-/
import Derived.Test.YtfcedichoigbbaaAmKc
namespace Go.Proofs.Ytfcedichoigbbaa.Am
open Go Go.Proofs
set_option maxHeartbeats 4000000
set_option linter.unusedSimpArgs false

theorem firstL_some : ∀ (a b : List Term), a.length = b.length → sameBL a b = false → ∃ i, firstL a b = some i ∧ i < a.length
  | [], [], _, h => by simp [sameBL] at h
  | [], _ :: _, hl, _ => by simp at hl
  | _ :: _, [], hl, _ => by simp at hl
  | t :: r, u :: s, hl, h => by
    by_cases hs : t.sameB u = true
    · simp only [sameBL, hs, Bool.true_and] at h
      obtain ⟨i, hi, hl2⟩ := firstL_some r s (by simpa using hl) h
      exact ⟨i + 1, by simp [firstL, hs, hi], by simp; omega⟩
    · exact ⟨0, by simp [firstL, hs], by simp⟩
theorem shapeB_v {v : Int} {fn : ByteArray} {args : List Term} (h : (Term.mk v fn args).shapeB = true) (hv : fn.toList ≠ []) : v = 0 := by
  have hn : noName fn = false := by simp [noName, hv]
  simp [Term.shapeB, rightB, hn] at h
  exact h.1.1.1
theorem shapeBL_mem : ∀ {ts : List Term}, shapeBL ts = true → ∀ x ∈ ts, x.shapeB = true
  | [], _, x, hx => by simp at hx
  | t :: r, h, x, hx => by
    simp only [shapeBL, Bool.and_eq_true] at h
    rcases List.mem_cons.1 hx with e | hx
    · exact e ▸ h.1
    · exact shapeBL_mem h.2 x hx

theorem compare_ok (g : Sg) (hg : g.ok) (t : Term) : t.ok → t.shapeB = true → ∀ u : Term, u.ok → u.shapeB = true → pcl Cp 45 [.agg g.enc, .agg t.enc, .agg u.enc] = some (.int .i64 (t.kcmp g u)) := by
  refine Term.ind (p := fun t => t.ok → t.shapeB = true → ∀ u : Term, u.ok → u.shapeB = true → pcl Cp 45 [.agg g.enc, .agg t.enc, .agg u.enc] = some (.int .i64 (t.kcmp g u))) (fun v fn args ih h hs => ?_) t
  intro u hu hus
  obtain ⟨v2, fn2, args2⟩ := u
  have hsame := same_ok _ h _ hu
  refine pcl_body code45 ?_
  by_cases hq : (Term.mk v fn args).sameB (.mk v2 fn2 args2) = true
  · rw [hq] at hsame
    simp [Term.enc] at hsame
    simp [Term.enc, Sg.enc, plc_raw, hsame]
    simp only [Term.kcmp, if_pos hq]
  · simp only [Bool.not_eq_true] at hq
    rw [hq] at hsame
    simp [Term.enc] at hsame
    obtain ⟨q1, hc1, hn1, ho1, hf1⟩ := load_ok g hg 1 (7, 0) _ h [] (upd (upd (upd (upd (fun _ => none) (0, 0) (.cells [.d (.sl (encS g.names) g.names.length false none), .d (.sl (encI g.weights) g.weights.length false none)]))
      (1, 0) (.cells [.d (.int .i64 v), .d (.str fn), .d (.sl (encL args) args.length false none)])) (2, 0) (.cells [.d (.int .i64 v2), .d (.str fn2), .d (.sl (encL args2) args2.length false none)]))
      (7, 0) (.mp (false, [.int .i64]) [] 0)) 19 (by decide) (by simp [encM, encMi])
    obtain ⟨H1, n1⟩ := q1
    simp only at hc1 hn1 ho1 hf1
    have hH10 := hf1 (0, 0) (by simp) (by simp)
    have hH11 := hf1 (1, 0) (by simp) (by simp)
    have hH12 := hf1 (2, 0) (by simp) (by simp)
    obtain ⟨q2, hc2, hn2, ho2, hf2⟩ := load_ok g hg (-1) (7, 0) _ hu ((Term.mk v fn args).loadW g 1 []).2 H1 n1 (by simp; omega) ho1
    obtain ⟨H2, n2⟩ := q2
    simp only at hc2 hn2 ho2 hf2
    have hH20 := (hf2 (0, 0) (by simp; omega) (by simp)).trans hH10
    have hH21 := (hf2 (1, 0) (by simp; omega) (by simp)).trans hH11
    have hH22 := (hf2 (2, 0) (by simp; omega) (by simp)).trans hH12
    have hhole := holeG_ok (nx := n2) ho2
    clear hf1 hf2
    have hn17 : 7 < n1 := by omega
    generalize hX1 : ((Term.mk v fn args).loadW g 1 []).1 = X1 at *
    generalize hM1 : ((Term.mk v fn args).loadW g 1 []).2 = M1 at *
    generalize hX2 : ((Term.mk v2 fn2 args2).loadW g (-1) M1).1 = X2 at *
    generalize hM2 : ((Term.mk v2 fn2 args2).loadW g (-1) M1).2 = M2 at *
    simp [Term.enc, Sg.enc, encM, encMi] at hc1 hc2 ho1 ho2 hH10 hH11 hH12 hH20 hH21 hH22
    have hhole := fun (nx : Nat) => holeG_ok (nx := nx) (m := M2) (by simpa only [encM] using ho2)
    have hex : ∀ (c : Code) (st : St), exec Try.prog plc (acall Try.prog plc) (aloop Try.prog plc) (.hole c) st = (plc.hole c).bind fun g => g st := fun _ _ => rfl
    have hk : Term.kcmp g (Term.mk v fn args) (Term.mk v2 fn2 args2) = (fun out : Int => if (out = 1 ∧ M2.any (fun q => decide (q.2 < 0)) = true) ∨ (out = -1 ∧ M2.any (fun q => decide (0 < q.2)) = true) then 2 else out)
        (if 0 < IntKind.i64.wrap (X1 - X2) then 1 else if IntKind.i64.wrap (X1 - X2) < 0 then -1 else if fn.toList = [] ∨ fn2.toList = [] then 2 else if fn.toList ≠ fn2.toList then sideI (g.above fn fn2)
      else if args.length ≠ args2.length then sideI (decide (args.length > args2.length)) else kcmpL g args args2) := by
      simp only [Term.kcmp, hq, hX1, hM1, hX2, hM2]; rfl
    have hab := above_ok g hg fn fn2
    simp [Sg.enc] at hab
    have hrest : ∀ out : Int, (if 0 < IntKind.i64.wrap (X1 - X2) then 1 else if IntKind.i64.wrap (X1 - X2) < 0 then -1 else if fn.toList = [] ∨ fn2.toList = [] then 2 else if fn.toList ≠ fn2.toList then sideI (g.above fn fn2)
      else if args.length ≠ args2.length then sideI (decide (args.length > args2.length)) else kcmpL g args args2) = out → True := fun _ _ => trivial
    rw [hk]
    clear hk hrest
    generalize hmo : (M2.any fun q => decide (0 < q.2)) = mo at *
    generalize hle : (M2.any fun q => decide (q.2 < 0)) = le at *
    by_cases hd : 0 < IntKind.i64.wrap (X1 - X2)
    · cases le <;> simp [Term.enc, Sg.enc, plc_raw, hsame, plc_hole, hc1, hc2, ho1, ho2, hH10, hH11, hH12, hH20, hH21, hH22, hn17, hex, hhole, hd]
    by_cases hd2 : IntKind.i64.wrap (X1 - X2) < 0
    · cases mo <;> simp [Term.enc, Sg.enc, plc_raw, hsame, plc_hole, hc1, hc2, ho1, ho2, hH10, hH11, hH12, hH20, hH21, hH22, hn17, hex, hhole, hd, hd2]
    by_cases hv1 : fn.toList = []
    · simp [Term.enc, Sg.enc, plc_raw, hsame, plc_hole, hc1, hc2, ho1, ho2, hH10, hH11, hH12, hH20, hH21, hH22, hn17, hex, hhole, hd, hd2, hv1]
    by_cases hv2 : fn2.toList = []
    · simp [Term.enc, Sg.enc, plc_raw, hsame, plc_hole, hc1, hc2, ho1, ho2, hH10, hH11, hH12, hH20, hH21, hH22, hn17, hex, hhole, hd, hd2, hv1, hv2]
    by_cases hn : fn.toList = fn2.toList
    · by_cases hl : args.length = args2.length
      · have hv : v = v2 := (shapeB_v hs hv1).trans (shapeB_v hus hv2).symm
        have hsb : sameBL args args2 = false := by simpa [Term.sameB, hv, hn, hl] using hq
        obtain ⟨i, hi, hlt⟩ := firstL_some args args2 hl hsb
        obtain ⟨t1, u1, hg1, hg2, hkc⟩ := kcmpL_first g args args2 i hi
        obtain ⟨v', fn', args', a⟩ := at_ok h.1 hlt
        obtain ⟨v2', fn2', args2', b⟩ := at_ok hu.1 (i := i) (by omega)
        obtain rfl : t1 = .mk v' fn' args' := by rw [← a.get]; exact (Option.some.inj ((List.getElem?_eq_getElem hlt).symm.trans hg1)).symm
        obtain rfl : u1 = .mk v2' fn2' args2' := by rw [← b.get]; exact (Option.some.inj ((List.getElem?_eq_getElem (by omega)).symm.trans hg2)).symm
        simp only [Term.shapeB, Bool.and_eq_true] at hs hus
        have hih := ih _ a.mem (okL_mem h.2 _ a.mem) (shapeBL_mem hs.2 _ a.mem) _ (okL_mem hu.2 _ b.mem) (shapeBL_mem hus.2 _ b.mem)
        rw [← hkc] at hih
        have hfirst := first_ok v fn args h v2 fn2 args2 hu hl.symm
        rw [hi] at hfirst
        have a1 := a.lti
        have a2 := a.sz
        have a3 := a.ltm
        have a4 := a.cells
        have a5 := a.le3
        have b1 := b.lti
        have b2 := b.sz
        have b3 := b.ltm
        have b4 := b.cells
        have b5 := b.le3
        simp [Term.enc, Sg.enc, optI] at hih hfirst
        simp only [Term.enc]
        generalize kcmpL g args args2 = out at *
        clear ih hu hus hs h hq hkc hsb hi hg1 hg2 a b
        have hl2 := hl.symm
        clear hl
        generalize args2.length = nl at *
        subst hl2
        by_cases ho : out = 1
        · subst ho
          cases le <;> simp [Term.enc, Sg.enc, plc_raw, hsame, plc_hole, hc1, hc2, ho1, ho2, hH10, hH11, hH12, hH20, hH21, hH22, hn17, hex, hhole, hd, hd2, hv1, hv2, hn, hfirst, a1, a2, a3, a4, a5, b1, b2, b3, b4, b5, hih]
        · by_cases ho2 : out = -1
          · subst ho2
            cases mo <;> simp [Term.enc, Sg.enc, plc_raw, hsame, plc_hole, hc1, hc2, ho1, ho2, hH10, hH11, hH12, hH20, hH21, hH22, hn17, hex, hhole, hd, hd2, hv1, hv2, hn, hfirst, a1, a2, a3, a4, a5, b1, b2, b3, b4, b5, hih]
          · simp [Term.enc, Sg.enc, plc_raw, hsame, plc_hole, hc1, hc2, ho1, ho2, hH10, hH11, hH12, hH20, hH21, hH22, hn17, hex, hhole, hd, hd2, hv1, hv2, hn, hfirst, a1, a2, a3, a4, a5, b1, b2, b3, b4, b5, hih, ho, ho2]
      · have hli : ¬ ((args.length : Int) = args2.length) := by omega
        by_cases hgt : args2.length < args.length
        · have hgti : (args2.length : Int) < args.length := by omega
          have hsd := side_ok true
          simp [sideI] at hsd
          cases le <;> simp [Term.enc, Sg.enc, plc_raw, hsame, plc_hole, hc1, hc2, ho1, ho2, hH10, hH11, hH12, hH20, hH21, hH22, hn17, hex, hhole, hd, hd2, hv1, hv2, hn, hl, hli, hgt, hgti, hsd, sideI]
        · have hgti : ¬ (args2.length : Int) < args.length := by omega
          have hsd := side_ok false
          simp [sideI] at hsd
          cases mo <;> simp [Term.enc, Sg.enc, plc_raw, hsame, plc_hole, hc1, hc2, ho1, ho2, hH10, hH11, hH12, hH20, hH21, hH22, hn17, hex, hhole, hd, hd2, hv1, hv2, hn, hl, hli, hgt, hgti, hsd, sideI]
    · cases hav : g.above fn fn2
      · have hsd := side_ok false
        simp [sideI] at hsd
        rw [hav] at hab
        cases mo <;> simp [Term.enc, Sg.enc, plc_raw, hsame, plc_hole, hc1, hc2, ho1, ho2, hH10, hH11, hH12, hH20, hH21, hH22, hn17, hex, hhole, hd, hd2, hv1, hv2, hn, hab, hsd, sideI]
      · have hsd := side_ok true
        simp [sideI] at hsd
        rw [hav] at hab
        cases le <;> simp [Term.enc, Sg.enc, plc_raw, hsame, plc_hole, hc1, hc2, ho1, ho2, hH10, hH11, hH12, hH20, hH21, hH22, hn17, hex, hhole, hd, hd2, hv1, hv2, hn, hab, hsd, sideI]
end Go.Proofs.Ytfcedichoigbbaa.Am

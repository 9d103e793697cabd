/-
  Joined texts: Am18. No condition.
-/
import Derived.Test.YtnlmonokkppagaaAmPah
import Derived.LoopN
import Derived.Scope
/-
  The abstract machine: code, loops and calls are the machine's: what a call answers there, the program answers. No condition.
-/
namespace Go.Proofs.Ytnlmonokkppagaa.Am
open Go
set_option linter.unusedVariables false

section
variable {P : Program}

/-- Code without what loops forget. -/
def strip : ACode → ACode
  | .seq a b => .seq (strip a) (strip b)
  | .cond c a b => .cond c (strip a) (strip b)
  | .block id a => .block id (strip a)
  | .loop _ _ a => .loop [] false (strip a)
  | c => c
/-- A loop's rounds. -/
def SimL (P : Program) (lp : LoopF) (n : Nat) : Prop := ∀ (w : Bool) (c : Code) (ac : ACode) (m : Mask) (st : St) (e : Ex) (st' : St), compile w c = some (strip ac) → lp ac m st = some (e, st') →
  ∀ (C : Cx) (a : Act) (Q : Exit → Act → World → Prop), StOk C st a → (∀ C' a', Post C st C' st' a' → Q (exOf e) a' C'.w) → Code.rounds P c Q n a C.w

theorem strip_fix (n : Nat) (keep : Bool) : ∀ c aft, strip (fixL n keep aft c) = strip c := by
  intro c
  induction c with
  | seq a b iha ihb => intro aft; simp only [fixL, strip, iha, ihb]
  | cond c a b iha ihb => intro aft; simp only [fixL, strip, iha, ihb]
  | block id a ih => intro aft; simp only [fixL, strip, ih]
  | loop ks k a ih => intro aft; simp only [fixL, strip, ih]
  | _ => intro aft; rfl
theorem strip_compile {w : Bool} : ∀ {c : Code} {ac : ACode}, compile w c = some ac → strip ac = ac := by
  intro c
  induction c with
  | seq x y ihx ihy =>
    intro ac h
    simp only [compile] at h
    split at h
    · cases h; rfl
    simp only [Option.bind_eq_bind, Option.bind_eq_some_iff] at h
    obtain ⟨a, ha, b, hb, h⟩ := h
    cases h
    simp only [strip, ihx ha, ihy hb]
  | cond x y z ihy ihz =>
    intro ac h
    simp only [compile, Option.bind_eq_bind, Option.bind_eq_some_iff] at h
    obtain ⟨a, ha, b, hb, h⟩ := h
    cases h
    simp only [strip, ihy ha, ihz hb]
  | block id x ih =>
    intro ac h
    simp only [compile, Option.bind_eq_bind, Option.bind_eq_some_iff] at h
    obtain ⟨a, ha, h⟩ := h
    cases h
    simp only [strip, ih ha]
  | loop x ih =>
    intro ac h
    simp only [compile, Option.bind_eq_bind, Option.bind_eq_some_iff] at h
    obtain ⟨a, ha, h⟩ := h
    cases h
    simp only [strip, ih ha]
  | scope x ih => intro ac h; exact ih h
  | region id ops dr =>
    intro ac h
    simp only [compile, Option.bind_eq_some_iff] at h
    obtain ⟨al, hal, h⟩ := h
    cases dr with
    | true =>
      simp only [if_true, Option.bind_eq_some_iff] at h
      obtain ⟨al, hal, h⟩ := h
      split at h
      · cases h; rfl
      · simp only [Option.map_eq_some_iff] at h
        obtain ⟨prs, _, rfl⟩ := h
        rfl
    | false => simp only [Bool.false_eq_true, if_false, Option.some.injEq] at h; subst h; rfl
  | _ => intro ac h; first | (cases h; rfl) | cases h

theorem maskT_get : ∀ (bs : List Bool) (vs : List AV) (j : Nat) (x : AV), (maskT bs vs)[j]? = some x → x = .junk ∨ vs[j]? = some x := by
  intro bs
  induction bs with
  | nil => intro vs j x h; exact .inr h
  | cons b bs ih =>
    intro vs j x h
    cases vs with
    | nil => simp [maskT] at h
    | cons v vs =>
      cases j with
      | zero =>
        simp only [maskT, List.getElem?_cons_zero, Option.some.injEq] at h
        split at h
        · exact .inr (by simpa using h)
        · exact .inl h.symm
      | succ j =>
        simp only [maskT, List.getElem?_cons_succ] at h
        exact (ih vs j x h).imp (fun h => h) (fun h => by simpa using h)
theorem maskT_len : ∀ (bs : List Bool) (vs : List AV), (maskT bs vs).length = vs.length := by
  intro bs
  induction bs with
  | nil => intro vs; rfl
  | cons b bs ih => intro vs; cases vs with
    | nil => rfl
    | cons v vs => simp [maskT, ih vs]
theorem clean_ok {C : Cx} {st : St} {a : Act} (ks : List Bool) (hs : StOk C st a) : StOk C ⟨maskT ks st.tm, st.hp, st.nx⟩ a :=
  ⟨hs.H, hs.inv, hs.lt, ⟨by
    show a.tmps.size = (maskT ks st.tm).length
    rw [maskT_len]; exact hs.tm.size, fun j x hx => by
    rcases maskT_get _ _ j x hx with rfl | q
    · exact .junk _
    · exact hs.tm.rep j x q⟩, hs.df⟩

/-- What is known of pieces of code is so. -/
def HoleOk (P : Program) (pol : Pol) : Prop := ∀ c g, pol.hole c = some g → ∀ st e st', g st = some (e, st') →
  ∀ (C : Cx) (a : Act) (Q : Exit → Act → World → Prop), StOk C st a → (∀ C' a', Post C st C' st' a' → Q (exOf e) a' C'.w) → c.wp P Q a C.w

theorem exec_sim (hm : P.follows .mixedOrders = true) {pol : Pol} (hh : HoleOk P pol) {cl : CallF} {lp : LoopF} {n : Nat} (hcl : SimC P cl) (hlp : SimL P lp n) {w : Bool} : ∀ (c : Code) (ac : ACode) (st : St) (e : Ex) (st' : St), compile w c = some (strip ac) → exec P pol cl lp ac st = some (e, st') →
    ∀ (C : Cx) (a : Act) (Q : Exit → Act → World → Prop), StOk C st a → (∀ C' a', Post C st C' st' a' → Q (exOf e) a' C'.w) → c.wp P Q a C.w := by
  intro c
  induction c with
  | skip =>
    intro ac st e st' hc h C a Q hs hq
    cases ac <;> simp only [compile, strip, Option.some.injEq, reduceCtorEq] at hc
    try subst hc
    cases h
    exact wp_skip (hq C a ⟨hs, .refl hs.inv, Nat.le_refl _, fun _ h => .inl h⟩)
  | region id ops dr =>
    intro ac st e st' hc h C a Q hs hq
    simp only [compile, Option.bind_eq_some_iff] at hc
    obtain ⟨al, hal, hc⟩ := hc
    cases dr with
    | true =>
      simp only [if_true, Option.bind_eq_some_iff] at hc
      obtain ⟨al, hal, hc⟩ := hc
      split at hc
      · rename_i hok
        cases ac <;> simp only [strip, Option.some.injEq, reduceCtorEq, ACode.dregion.injEq] at hc
        subst hc
        simp only [exec, Option.bind_eq_some_iff] at h
        obtain ⟨s1, h1, h⟩ := h
        cases h
        exact dregion_sim hm hcl hal hok hs h1 hq
      · simp only [Option.map_eq_some_iff] at hc
        obtain ⟨prs, hok, hc⟩ := hc
        cases ac <;> simp only [strip, reduceCtorEq, ACode.tregion.injEq] at hc
        obtain ⟨rfl, rfl⟩ := hc
        simp only [exec, Option.bind_eq_some_iff] at h
        obtain ⟨⟨s1, lg⟩, h1, h⟩ := h
        split at h
        · rename_i hlg
          cases h
          exact tregion_sim hm hcl hal hok hlg hs h1 hq
        · cases h
    | false =>
      simp only [Bool.false_eq_true, if_false, Option.some.injEq] at hc
      cases ac <;> simp only [strip, reduceCtorEq, ACode.region.injEq] at hc
      subst hc
      simp only [exec, Option.bind_eq_some_iff] at h
      obtain ⟨s1, h1, h⟩ := h
      cases h
      exact region_sim hcl hal hs h1 hq
  | scope x ih =>
    intro ac st e st' hc h C a Q hs hq
    refine wp_scope_straight (ih ac st e st' hc h C a _ hs fun C' a' hp => ?_)
    have := hq C' a' hp
    cases e <;> exact this
  | seq x y ihx ihy =>
    intro ac st e st' hc h C a Q hs hq
    simp only [compile] at hc
    split at hc
    · cases ac <;> simp only [strip, Option.some.injEq, reduceCtorEq, ACode.hole.injEq] at hc
      subst hc
      simp only [exec, Option.bind_eq_some_iff] at h
      obtain ⟨g, hg, h⟩ := h
      exact hh _ g hg st e st' h C a Q hs hq
    simp only [Option.bind_eq_bind, Option.bind_eq_some_iff] at hc
    obtain ⟨ax, hax, ay, hay, hc⟩ := hc
    cases ac <;> simp only [strip, Option.some.injEq, reduceCtorEq, ACode.seq.injEq] at hc
    obtain ⟨rfl, rfl⟩ := hc
    simp only [exec, Option.bind_eq_some_iff] at h
    obtain ⟨⟨e1, s1⟩, h1, h⟩ := h
    refine wp_seq (ihx _ st e1 s1 hax h1 C a _ hs fun C1 a1 hp1 => ?_)
    cases e1 with
    | normal => exact ihy _ s1 e st' hay h C1 a1 Q hp1.ok fun C' a' hp => hq C' a' (hp1.trans hp)
    | exit j => cases h; exact hq C1 a1 hp1
    | ret => cases h; exact hq C1 a1 hp1
  | cond x y z ihy ihz =>
    intro ac st e st' hc h C a Q hs hq
    simp only [compile, Option.bind_eq_bind, Option.bind_eq_some_iff] at hc
    obtain ⟨ay, hay, az, haz, hc⟩ := hc
    cases ac <;> simp only [strip, Option.some.injEq, reduceCtorEq, ACode.cond.injEq] at hc
    obtain ⟨rfl, rfl, rfl⟩ := hc
    simp only [exec] at h
    split at h
    · rename_i t ht
      have hx := hs.tm.ev x
      rw [ht] at hx
      have hd := hx.dinv
      generalize hu : a.eval x = u at hd
      cases hd
      refine wp_cond hu ?_
      cases t with
      | true => exact ihy _ st e st' hay (by simpa using h) C a Q hs hq
      | false => exact ihz _ st e st' haz (by simpa using h) C a Q hs hq
    · cases h
  | block id x ih =>
    intro ac st e st' hc h C a Q hs hq
    simp only [compile, Option.bind_eq_bind, Option.bind_eq_some_iff] at hc
    obtain ⟨ax, hax, hc⟩ := hc
    cases ac <;> simp only [strip, Option.some.injEq, reduceCtorEq, ACode.block.injEq] at hc
    obtain ⟨rfl, rfl⟩ := hc
    simp only [exec, Option.bind_eq_some_iff] at h
    obtain ⟨⟨e1, s1⟩, h1, h⟩ := h
    refine wp_block (ih _ st e1 s1 hax h1 C a _ hs fun C1 a1 hp1 => ?_)
    cases e1 with
    | normal => cases h; exact hq C1 a1 hp1
    | exit j =>
      simp only [Option.some.injEq] at h
      simp only [exOf, Exit.inBlock]
      by_cases hj : j = id
      · rw [if_pos hj] at h ⊢
        cases h
        exact hq C1 a1 hp1
      · rw [if_neg hj] at h ⊢
        cases h
        exact hq C1 a1 hp1
    | ret => cases h; exact hq C1 a1 hp1
  | loop x ih =>
    intro ac st e st' hc h C a Q hs hq
    simp only [compile, Option.bind_eq_bind, Option.bind_eq_some_iff] at hc
    obtain ⟨ax, hax, hc⟩ := hc
    cases ac <;> simp only [strip, Option.some.injEq, reduceCtorEq, ACode.loop.injEq, true_and] at hc
    subst hc
    simp only [exec] at h
    exact wp_loop_rounds n (hlp w x _ _ _ e st' hax h C a Q (clean_ok _ hs) fun C' a' hp => hq C' a' ⟨hp.ok, hp.ext, hp.nx, hp.use⟩)
  | exit id =>
    intro ac st e st' hc h C a Q hs hq
    cases ac <;> simp only [compile, strip, Option.some.injEq, reduceCtorEq, ACode.exit.injEq] at hc
    subst hc
    cases h
    exact wp_exit (hq C a ⟨hs, .refl hs.inv, Nat.le_refl _, fun _ h => .inl h⟩)
  | label l =>
    intro ac st e st' hc h C a Q hs hq
    cases ac <;> simp only [compile, strip, Option.some.injEq, reduceCtorEq] at hc
    try subst hc
    cases h
    exact wp_label (hq C a ⟨hs, .refl hs.inv, Nat.le_refl _, fun _ h => .inl h⟩)
  | ret =>
    intro ac st e st' hc h C a Q hs hq
    cases ac <;> simp only [compile, strip, Option.some.injEq, reduceCtorEq] at hc
    try subst hc
    cases h
    exact wp_ret (hq C a ⟨hs, .refl hs.inv, Nat.le_refl _, fun _ h => .inl h⟩)
  | rangeFunc => intro ac st e st' hc; cases hc
  | goto => intro ac st e st' hc; cases hc
  | refuse => intro ac st e st' hc; cases hc

def PolOk (P : Program) (pol : Pol) : Prop := ExtOk P pol ∧ HoleOk P pol

theorem back_ok {C : Cx} {st : St} {a : Act} (m : Mask) (hs : StOk C st a) : ∃ C', C'.w = C.w ∧ StOk C' (back m st) a ∧ Ext C C' ∧ C'.U = C.U := by
  have hsub : ∀ o x, forgetH m.nx st.hp o = some x → C.H o = some x := fun o x h => by
    rw [hs.H]
    cases hm : m.nx with
    | none => rw [hm] at h; exact h
    | some k => rw [hm] at h; simp only [forgetH] at h; split at h <;> first | exact h | cases h
  obtain ⟨hI, hE⟩ := drop_ok hs.inv hsub
  refine ⟨⟨C.ρ, C.F, forgetH m.nx st.hp, C.U, C.w⟩, rfl, ⟨rfl, hI, hs.lt, ⟨?_, fun j x hx => ?_⟩, hs.df⟩, hE, rfl⟩
  · show a.tmps.size = (maskT m.ks st.tm).length
    rw [maskT_len]; exact hs.tm.size
  · rcases maskT_get m.ks st.tm j x hx with rfl | q
    · exact .junk _
    · exact (hs.tm.rep j x q).ext hs.inv hE

theorem loop_sim (hm : P.follows .mixedOrders = true) {pol : Pol} (hh : HoleOk P pol) {cl : CallF} {lp : LoopF} {n : Nat} (hcl : SimC P cl) (hlp : SimL P lp n) : SimL P (loopF P pol cl lp) (n + 1) := by
  intro w c ac m st e st' hc h C a Q hs hq
  simp only [loopF, Option.bind_eq_some_iff] at h
  obtain ⟨⟨e1, s1⟩, h1, h⟩ := h
  rw [rounds_succ]
  refine exec_sim hm hh hcl hlp c ac st e1 s1 hc h1 C a _ hs fun C1 a1 hp1 => ?_
  cases e1 with
  | normal =>
    simp only at h
    obtain ⟨C2, hw2, hs2, he2, hU2⟩ := back_ok m hp1.ok
    have := hlp w c ac m (back m s1) e st' hc h C2 a1 Q hs2 fun C' a' hp => hq C' a' (hp1.trans ⟨hp.ok, he2.trans hp.ext, hp.nx, fun o ho => by rw [← hU2]; exact hp.use o ho⟩)
    rw [hw2] at this
    exact this
  | exit j =>
    cases h
    obtain ⟨C2, hw2, hs2, he2, hU2⟩ := back_ok m hp1.ok
    have := hq C2 a1 (hp1.trans ⟨hs2, he2, Nat.le_refl _, fun o ho => .inl (by rw [← hU2]; exact ho)⟩)
    rw [hw2] at this
    exact this
  | ret =>
    cases h
    obtain ⟨C2, hw2, hs2, he2, hU2⟩ := back_ok m hp1.ok
    have := hq C2 a1 (hp1.trans ⟨hs2, he2, Nat.le_refl _, fun o ho => .inl (by rw [← hU2]; exact ho)⟩)
    rw [hw2] at this
    exact this

/-- One result. -/
def resRun (tmps : Array Value) : ResultVar → Sem Value
  | .tmp t => pure (tmps.getD t undef)
  | .cell a t => do loadVar t (← asAddr (tmps.getD a undef))
theorem results_eq (fn : Func) (tmps : Array Value) : Go.results fn tmps = (do let vs ← fn.results.mapM (resRun tmps); pure (if h : vs.size = 1 then vs[0] else .tuple vs)) := by
  unfold Go.results
  congr 2

theorem resultOf_sim {C : Cx} {st : St} {a : Act} (hs : StOk C st a) {rv : ResultVar} {x : AV} (h : resultOf P st rv = some x) : ∃ z, (resRun a.tmps rv).run P C.w = .ok z C.w ∧ Rep C x z := by
  cases rv with
  | tmp t => cases h; exact ⟨_, rfl, hs.tm.getD t⟩
  | cell b t =>
    simp only [resultOf] at h
    rw [← hs.H] at h
    have hb := hs.tm.getD b
    obtain ⟨z, hz, hr⟩ := load_sim hs.inv h hb
    refine ⟨z, ?_, hr⟩
    simp only [resRun]
    generalize hu : a.tmps.getD b undef = u at hz ⊢
    simp only [Instr.loadAt, Sem.run_bind] at hz ⊢
    cases u with
    | pointer p =>
      cases p with
      | some ad => simpa [Instr.sureAddr, asAddr] using hz
      | none => simp [Instr.sureAddr] at hz
    | _ => simp [Instr.sureAddr] at hz

theorem mapM_results {C : Cx} {st : St} {a : Act} (hs : StOk C st a) : ∀ {rs : List ResultVar} {xs : List AV}, rs.mapM (resultOf P st) = some xs →
    ∃ zs : List Value, (rs.mapM (resRun a.tmps)).run P C.w = .ok zs C.w ∧ zs.length = xs.length ∧ ∀ (j : Nat) (x : AV), xs[j]? = some x → ∃ z, zs[j]? = some z ∧ Rep C x z := by
  intro rs
  induction rs with
  | nil => intro xs h; simp at h; subst h; exact ⟨[], rfl, rfl, fun j x h => by simp at h⟩
  | cons r rs ih =>
    intro xs h
    simp only [List.mapM_cons, Option.bind_eq_bind, Option.bind_eq_some_iff] at h
    obtain ⟨x, hx, l, hl, h⟩ := h
    cases h
    obtain ⟨z, hz, hr⟩ := resultOf_sim (P := P) hs hx
    obtain ⟨zs, hzs, hlen, hall⟩ := ih hl
    refine ⟨z :: zs, ?_, by simp [hlen], fun j y hy => ?_⟩
    · simp only [List.mapM_cons, Sem.run_bind, Sem.run_pure, hz, Result.andThen_ok, hzs]
    · cases j with
      | zero => simp at hy; subst hy; exact ⟨z, rfl, hr⟩
      | succ j => simpa using hall j y (by simpa using hy)

theorem results_sim {C : Cx} {st : St} {a : Act} (hs : StOk C st a) {fn : Func} {x : AV} (h : results P st fn.results.toList = some x) : ∃ z, (Go.results fn a.tmps).run P C.w = .ok z C.w ∧ Rep C x z := by
  unfold results at h
  simp only [Option.bind_eq_bind, Option.bind_eq_some_iff] at h
  obtain ⟨xs, hxs, h⟩ := h
  obtain ⟨zs, hzs, hlen, hall⟩ := mapM_results hs hxs
  have hrun : (Go.results fn a.tmps).run P C.w = .ok (if h : zs.toArray.size = 1 then zs.toArray[0] else .tuple zs.toArray) C.w := by
    rw [results_eq, Array.mapM_eq_mapM_toList]
    simp only [Sem.run_bind, Sem.run_map, hzs, Result.andThen_ok, Sem.run_pure]
  match xs, hxs, hlen, hall, h with
  | [], _, hlen, hall, h =>
    cases h
    refine ⟨.tuple zs.toArray, by rw [hrun, dif_neg (by simp [hlen])], mkTup_rep ⟨by simp [hlen], fun j y hy => by simp at hy⟩⟩
  | [v], _, hlen, hall, h =>
    cases h
    obtain ⟨z, hz, hr⟩ := hall 0 x rfl
    refine ⟨z, ?_, hr⟩
    have h1 : zs.toArray.size = 1 := by simpa using hlen
    rw [hrun, dif_pos h1]
    congr 1
    match zs, hz with
    | q :: r, hz => simpa using hz
  | v :: u :: r, _, hlen, hall, h =>
    cases h
    refine ⟨.tuple zs.toArray, by rw [hrun, dif_neg (by simp [hlen])], mkTup_rep ⟨by simp [hlen], fun j y hy => ?_⟩⟩
    obtain ⟨z, hz, hr⟩ := hall j y hy
    rw [getD_toArray, List.getD_eq_getElem?_getD, hz]
    exact hr

theorem call_sim (hm : P.follows .mixedOrders = true) {pol : Pol} (hx : PolOk P pol) {cl : CallF} {lp : LoopF} {n : Nat} (hcl : SimC P cl) (hlp : SimL P lp n) : SimC P (callF P pol cl lp) := by
  intro f vs H nx r H' nx' h
  simp only [callF] at h
  split at h
  · rename_i g hg
    exact hx.1 f g hg vs H nx r H' nx' h
  simp only [Option.bind_eq_some_iff] at h
  obtain ⟨⟨ac, k, rs⟩, hb, ⟨e, s1⟩, h1, h⟩ := h
  unfold bodyOf at hb
  simp only [Option.bind_eq_bind, Option.bind_eq_some_iff] at hb
  obtain ⟨fn, hfn, c, hc, ac', hac, hb⟩ := hb
  split at hb
  · cases hb
  rename_i hnm
  cases hb
  refine ⟨⟨fn, hfn, by simpa using hnm, by rw [hc]; rfl⟩, fun C args hI hH hlt hv => ?_⟩
  refine calls_of_wp hfn hc (exec_sim hm hx.2 hcl hlp c _ _ e s1 (by rw [strip_fix, strip_compile hac]; exact hac) h1 C _ _ ⟨hH, hI, hlt, ⟨?_, fun j x hx => ?_⟩, rfl⟩ fun C' a' hp => ?_)
  · simp [hv.1]
  · rw [List.getElem?_append] at hx
    rw [Array.getD_eq_getD_getElem?, Array.getElem?_append]
    split at hx
    · rename_i hj
      rw [if_pos (by rw [hv.1]; exact hj), ← Array.getD_eq_getD_getElem?]
      exact hv.2 j x hx
    · have : x = .junk := by
        rw [List.getElem?_replicate] at hx
        split at hx <;> first | (cases hx; rfl) | cases hx
      subst this
      exact .junk _
  · have fin : (results P s1 fn.results.toList).bind (fun v => some (v, s1.hp, s1.nx)) = some (r, H', nx') → (Go.results fn a'.tmps).run P C'.w = (Go.results fn a'.tmps).run P C'.w → a'.defers = [] ∧ ∃ v, (Go.results fn a'.tmps).run P C'.w = .ok v C'.w ∧ ∃ v' C'', Ending.returned v = .returned v' ∧ C'.w = C''.w ∧ CallPost C nx r H' nx' v' C'' := by
      intro h _
      simp only [Option.bind_eq_some_iff] at h
      obtain ⟨v, hv, h⟩ := h
      cases h
      obtain ⟨z, hz, hr⟩ := results_sim hp.ok hv
      exact ⟨hp.ok.df, z, hz, z, C', rfl, rfl, ⟨hp.ok.H, hp.ok.inv, hp.ext, hr, hp.nx, hp.ok.lt, hp.use⟩⟩
    cases e with
    | normal => exact fin h rfl
    | ret => exact fin h rfl
    | exit j => cases h

theorem oracles_sim (hm : P.follows .mixedOrders = true) {pol : Pol} (hx : PolOk P pol) : ∀ n, SimC P (oracles P pol n).1 ∧ SimL P (oracles P pol n).2 n := by
  intro n
  induction n with
  | zero =>
    refine ⟨?_, ?_⟩
    · intro f vs H nx r H' nx' h; simp [oracles] at h
    · intro w c ac m st e st' _ h; simp [oracles] at h
  | succ n ih => exact ⟨call_sim hm hx ih.1 ih.2, loop_sim hm hx.2 ih.1 ih.2⟩

/-- WHAT THE ABSTRACT MACHINE ANSWERS, THE PROGRAM ANSWERS. -/
theorem acall_sim (hm : P.follows .mixedOrders = true) {pol : Pol} (hx : PolOk P pol) : SimC P (acall P pol) := by
  intro f vs H nx r H' nx' h
  obtain ⟨n, hn⟩ := (acall_some P pol).1 h
  exact (oracles_sim hm hx n).1 f vs H nx r H' nx' hn

/-- A call on data alone. -/
theorem pcl_calls (hm : P.follows .mixedOrders = true) {pol : Pol} (hx : PolOk P pol) {f : FuncId} {ds : List D} {x : D} (h : pcl (acall P pol) f ds = some x) {w : World} {args : Array Value} (hv : args.size = ds.length ∧ ∀ (j : Nat) (d : D), ds[j]? = some d → RepD (· < w.heap.size) w d (args.getD j undef)) :
    Calls P f args w fun e w' => ∃ v, e = .returned v ∧ Go.RowKit.Below w.heap.size w w' ∧ RepD (· < w'.heap.size) w' x v := by
  unfold pcl at h
  simp only [Option.bind_eq_some_iff, Option.map_eq_some_iff] at h
  obtain ⟨⟨r1, H1, nx1⟩, hc, ⟨x', is1⟩, hre, rfl⟩ := h
  obtain ⟨_, hsim⟩ := acall_sim hm hx _ _ _ _ _ _ _ hc
  have hI0 : Inv ⟨fun _ => none, (· < w.heap.size), fun _ => none, fun _ => False, w⟩ :=
    ⟨fun o x h => (by cases h), fun o x h => (by cases h), fun o x b S h => (by cases h), fun o o' x x' b S S' h => (by cases h), fun b hb => hb⟩
  refine (hsim ⟨fun _ => none, (· < w.heap.size), fun _ => none, fun _ => False, w⟩ args hI0 rfl (fun o h => h.elim) ⟨by simp [hv.1], fun j y hy => ?_⟩).mono ?_
  · simp only [List.getElem?_map, Option.map_eq_some_iff] at hy
    obtain ⟨d, hd2, rfl⟩ := hy
    exact .d _ _ (hv.2 j d hd2)
  · rintro e w' ⟨v, C1, rfl, rfl, hp⟩
    have hrx : RepD (FW C1 is1) C1.w (unfull x') v := RepD.unfull ( reify_sim hp.inv 6 (by rw [hp.H]; exact hre) hp.rep)
    exact ⟨v, rfl, ⟨hp.ext.os, hp.ext.tape, hp.ext.output, hp.ext.size, fun k hk => hp.ext.keep k hk (fun ⟨o, x, S, h, _⟩ => by cases h)⟩, hrx.keep (fun b hb => FW_lt hp.inv hb) (fun _ _ _ => rfl)⟩

end
end Go.Proofs.Ytnlmonokkppagaa.Am


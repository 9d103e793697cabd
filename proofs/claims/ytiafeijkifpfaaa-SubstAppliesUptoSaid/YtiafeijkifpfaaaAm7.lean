/-
  The abstract machine: an operation that touches no object is the machine's. No condition.
-/
import Derived.Test.YtiafeijkifpfaaaAm6
namespace Go.Proofs.Ytiafeijkifpfaaa.Am
open Go

section
variable {P : Program} {C : Cx}

theorem args_ok {tm : List AV} {a : Act} (hT : TmOk C tm a) (args : List Operand) : (args.toArray.map a.eval).size = (args.map (ev tm)).length ∧ ∀ j x, (args.map (ev tm))[j]? = some x → Rep C x ((args.toArray.map a.eval).getD j undef) := by
  refine ⟨by simp, fun j x hx => ?_⟩
  simp only [List.getElem?_map, Option.map_eq_some_iff] at hx
  obtain ⟨y, hy, rfl⟩ := hx
  have : (args.toArray.map a.eval).getD j undef = a.eval y := by simp [hy]
  rw [this]
  exact hT.ev y

theorem args1 {tm : List AV} {a : Act} (hT : TmOk C tm a) {args : Array Operand} {x : AV} (h : args.toList.map (ev tm) = [x]) : ∃ u, args.map a.eval = #[u] ∧ Rep C x u := by
  obtain ⟨l⟩ := args
  match l, h with
  | [y], h =>
    simp only [List.map_cons, List.map_nil, List.cons.injEq, and_true] at h
    subst h
    exact ⟨a.eval y, by simp, hT.ev y⟩
theorem args2 {tm : List AV} {a : Act} (hT : TmOk C tm a) {args : Array Operand} {x y : AV} (h : args.toList.map (ev tm) = [x, y]) : ∃ u v, args.map a.eval = #[u, v] ∧ Rep C x u ∧ Rep C y v := by
  obtain ⟨l⟩ := args
  match l, h with
  | [p, q], h =>
    simp only [List.map_cons, List.map_nil, List.cons.injEq, and_true] at h
    obtain ⟨rfl, rfl⟩ := h
    exact ⟨a.eval p, a.eval q, by simp, hT.ev p, hT.ev q⟩

theorem val_sim {tm : List AV} {a : Act} {op : Op} {r : AV} (hT : TmOk C tm a) (h : valOp P (ev tm) op = some r) (o : Oper) (ho : o.op = op) :
    ∃ z, (execOp a.eval o).run P C.w = .ok (.value z) C.w ∧ Rep C r z := by
  subst ho
  unfold valOp at h
  unfold execOp
  split at h
  · rename_i x ho; cases h; rw [ho]; exact ⟨_, rfl, hT.ev x⟩
  · rename_i x ho; cases h; rw [ho]; exact ⟨_, rfl, hT.ev x⟩
  · rename_i c x y ho
    rw [ho]
    split at h
    · rename_i t ht
      cases h
      have hc := hT.ev c
      rw [ht] at hc
      have := hc.dinv
      generalize hv : a.eval c = v at this
      cases this
      refine ⟨if t then a.eval x else a.eval y, ?_, ?_⟩
      · simp [hv, asBool]
      · cases t
        · exact hT.ev y
        · exact hT.ev x
    · cases h
  · rename_i x ho
    rw [ho]
    have hx := hT.ev x
    split at h
    · rename_i ho2; cases h; rw [ho2] at hx; generalize hv : a.eval x = v at hx; cases hx with
      | ptr _ _ _ ad hU hv2 hs => exact ⟨_, by simp [hv], .ptr _ _ _ ad hU hv2 hs⟩
    · rename_i ho2; cases h; rw [ho2] at hx; generalize hv : a.eval x = v at hx; cases hx.dinv with
      | dptr cs ad vs h1 hr hF hc => exact ⟨_, by simp [hv], .d _ _ (.dptr _ ad vs h1 hr hF hc)⟩
    · rename_i ho2; cases h; rw [ho2] at hx; generalize hv : a.eval x = v at hx; cases hx.dinv with
      | fn _ _ arr hn hr => exact ⟨_, by simp [hv], .d _ _ (.fn _ _ arr hn hr)⟩
    · rename_i ho2; cases h; rw [ho2] at hx; generalize hv : a.eval x = v at hx; cases hx with
      | fn _ _ arr hn hr => exact ⟨_, by simp [hv], .fn _ _ arr hn hr⟩
    · cases h
  · rename_i op t x y yt ho
    rw [ho]
    obtain ⟨z, hz, hr⟩ := binD_sim (x := x) (y := y) h (hT.ev x) (hT.ev y)
    exact ⟨z, by simp only [Sem.run_bind, hz, Result.andThen_ok, Sem.run_pure], hr⟩
  · rename_i op t x ho
    rw [ho]
    obtain ⟨z, hz, hr⟩ := unD_sim (P := P) h (hT.ev x)
    exact ⟨z, by simp only [Sem.run_bind, hz, Result.andThen_ok, Sem.run_pure], hr⟩
  · rename_i s t x ho
    rw [ho]
    have hx := hT.ev x
    split at h
    · rename_i k n hx2
      rw [hx2] at hx
      have hd := hx.dinv
      generalize hv : a.eval x = v at hd
      cases hd
      split at h
      · rename_i hk
        simp only [Option.map_eq_some_iff] at h
        obtain ⟨k2, hk2, rfl⟩ := h
        have ht : P.underlying t = some (.int k2) := by unfold tint at hk2; split at hk2 <;> first | (cases hk2; assumption) | cases hk2
        have hs : ∃ q, P.underlying s = some (.int q) := by unfold tkind at hk; split at hk <;> first | exact ⟨_, by assumption⟩ | cases hk
        obtain ⟨q, hs⟩ := hs
        have hc : (convert s t (.int k n)).run P C.w = .ok (.int k2 (k2.wrap n)) C.w := by simp [convert, und_run ht, und_run hs, Conv.intToInt]
        exact ⟨_, by simp only [hv, Sem.run_bind, hc, Result.andThen_ok, Sem.run_pure], .d _ _ (.int _ _)⟩
      · cases h
    · rename_i b hx2
      rw [hx2] at hx
      have hd := hx.dinv
      generalize hv : a.eval x = v at hd
      cases hd
      split at h
      · rename_i hk
        cases h
        have hs : P.underlying s = some .string := by have := hk.1; unfold tkind at this; split at this <;> first | assumption | cases this
        have ht : P.underlying t = some .string := by have := hk.2; unfold tkind at this; split at this <;> first | assumption | cases this
        have hc : (convert s t (.string b)).run P C.w = .ok (.string b) C.w := by simp [convert, und_run ht, und_run hs]
        exact ⟨_, by simp only [hv, Sem.run_bind, hc, Result.andThen_ok, Sem.run_pure], .d _ _ (.str _)⟩
      · cases h
    · cases h
  · rename_i f first cap ho
    rw [ho]
    split at h
    · rename_i he
      cases h
      have he : first = #[] := by simpa using he
      subst he
      have hc := args_ok hT cap.toList
      refine ⟨.func (.func f) #[] (cap.map a.eval), by simp [Instr.makeFunc], .fn _ _ _ ?_ ?_⟩
      · simp
      · intro j x hx; have := hc.2 j x hx; simpa using this
    · cases h
  · rename_i t x i ho
    rw [ho]
    obtain ⟨z, hz, hr⟩ := fieldPtr_sim h (hT.ev x)
    exact ⟨z, by simp only [Sem.run_bind, hz, Result.andThen_ok, Sem.run_pure], hr⟩
  · rename_i t x i ho
    rw [ho]
    obtain ⟨z, hz, hr⟩ := fieldD_sim h (hT.ev x)
    exact ⟨z, by simp only [Sem.run_bind, hz, Result.andThen_ok, Sem.run_pure], hr⟩
  · rename_i x i ho
    rw [ho]
    obtain ⟨z, hz, hr⟩ := tup1_sim (P := P) h (hT.ev x)
    exact ⟨z, by simp only [Sem.run_bind, hz, Result.andThen_ok, Sem.run_pure], hr⟩
  · rename_i t ps ho
    rw [ho]
    obtain ⟨z, hz, hr⟩ := buildD_sim (us := ps.map fun (i, x) => (i, a.eval x)) h (by simp) (fun j p hj => by
      simp only [List.getElem?_map, Option.map_eq_some_iff] at hj
      obtain ⟨q, hq, rfl⟩ := hj
      refine ⟨a.eval q.2, ?_, hT.ev q.2⟩
      simp only [Array.getElem?_toList] at hq
      simp [hq])
    exact ⟨z, by simp only [Sem.run_bind, hz, Result.andThen_ok, Sem.run_pure], hr⟩
  · rename_i t x i ho
    rw [ho]
    have hx := hT.ev x
    have hi := hT.ev i
    split at h
    · rename_i s k hx2 hi2
      rw [hx2] at hx
      rw [hi2] at hi
      have hd := hx.dinv
      have he := hi.dinv
      generalize hv : a.eval x = v at hd
      generalize hu : a.eval i = u at he
      cases hd
      cases he
      split at h
      · rename_i hb
        obtain ⟨⟨hb0, hb1⟩, hk⟩ := hb
        cases h
        have hu2 : P.underlying t = some .string := by unfold tkind at hk; split at hk <;> first | assumption | cases hk
        have hc : (Instr.index t (.string s) (.int .i64 k)).run P C.w = .ok (.int .u8 (s[k.toNat]'hb1).toNat) C.w := by
          simp only [Instr.index, asIntOf, Sem.run_bind, Sem.run_pure, Result.andThen_ok, und_run hu2, if_pos hb0, getElem?_pos s k.toNat hb1]
        exact ⟨_, by simp only [hv, hu, Sem.run_bind, hc, Result.andThen_ok, Sem.run_pure], .d _ _ (.int _ _)⟩
      · cases h
    · cases h
  · rename_i args ats ho
    rw [ho]
    split at h
    · rename_i x t hx ht
      simp only [Option.map_eq_some_iff] at h
      obtain ⟨d, hd, rfl⟩ := h
      obtain ⟨u, hu, hr⟩ := args1 hT hx
      obtain ⟨z, hz, hr⟩ := lenD_sim (P := P) (ty := o.type) hd ht hr
      exact ⟨z, by simp only [resolve, Sem.run_bind, Sem.run_pure, Result.andThen_ok, invoke, builtin, hu, hz], hr⟩
    · cases h
  · rename_i args ats ho
    rw [ho]
    obtain ⟨z, hz, hr⟩ := minmax_sim (P := P) (ty := o.type) (ts := ats) h (args_ok hT args.toList)
    simp only [if_true] at hz
    exact ⟨z, by simp only [resolve, Sem.run_bind, Sem.run_pure, Result.andThen_ok, invoke, builtin]; simp only [Array.toArray_toList] at hz; simp [hz], hr⟩
  · rename_i args ats ho
    rw [ho]
    obtain ⟨z, hz, hr⟩ := minmax_sim (P := P) (ty := o.type) (ts := ats) h (args_ok hT args.toList)
    simp only [Bool.false_eq_true, if_false] at hz
    exact ⟨z, by simp only [resolve, Sem.run_bind, Sem.run_pure, Result.andThen_ok, invoke, builtin]; simp only [Array.toArray_toList] at hz; simp [hz], hr⟩
  · cases h

end
end Go.Proofs.Ytiafeijkifpfaaa.Am

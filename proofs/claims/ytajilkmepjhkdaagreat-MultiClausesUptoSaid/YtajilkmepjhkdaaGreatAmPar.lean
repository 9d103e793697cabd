/-
  Joined texts: AmHole, AmHole1, AmHole2. No condition.
-/
import Derived.Test.YtajilkmepjhkdaaGreatAmPaq
import Derived.Maps.RangeRun
import Derived.Tactics
import Derived.Tactics2
import Derived.StillTactics
import Derived.LoopTactic
import Derived.LoopN
/-
 The loop over a map whose entries come in a drawn order: what it leaves. No condition.
-/
namespace Go.Proofs.YtajilkmepjhkdaaGreat.Am
open Go Go.Proofs
set_option maxRecDepth 1000000
set_option linter.unusedSimpArgs false
set_option linter.unusedVariables false
set_option maxHeartbeats 4000000
theorem run_next_dr {P : Program} (w : World) (ty : TypeId) (bm since : Nat) (seen : Array Nat) (es : Array MapEntry) (clock : Nat) (hb : w.heap[bm]? = some (.map es clock)) (hold : ∀ x ∈ es.toList, x.born < since) (hsc : since ≤ clock) :
  ((leftOf es seen).size = 0 ∧ (Instr.next (.pointer (some ⟨w.heap.size, 0, none⟩)) false ty).run P (w.alloc (.mapIter (some bm) since seen clock)) = .ok (.tuple #[.bool false]) (w.alloc (.mapIter (some bm) since seen clock))) ∨
  ∃ e ∈ (leftOf es seen).toList, ∃ k : Nat, (Instr.next (.pointer (some ⟨w.heap.size, 0, none⟩)) false ty).run P (w.alloc (.mapIter (some bm) since seen clock)) = .ok (.tuple #[.bool true, e.key, e.val]) (({ w with drawn := k } : World).alloc (.mapIter (some bm) since (seen.push e.born) clock)) := by
 have hlt : bm < w.heap.size := by
  rcases Nat.lt_or_ge bm w.heap.size with h | h
  ·exact h
  ·simp [Array.getElem?_eq_none h] at hb
 have hp : ∀ (h : Array Go.Obj) (x y : Go.Obj), (h.push x).setIfInBounds h.size y = h.push y := by
  intro h x y
  apply Array.toList_inj.1
  simp
 rcases run_next_at (P := P) (w.alloc (.mapIter (some bm) since seen clock)) ty w.heap.size bm since clock seen es clock (heap_alloc_new _ _) (by rw [heap_alloc_old w _ hlt, hb]) hold hsc with h | ⟨e, he, w1, h1, h⟩
 ·exact .inl h
 ·refine .inr ⟨e, he, w1.drawn, h.trans ?_⟩
  congr 1
  rcases h1 with rfl | rfl
  ·show World.mk .. = World.mk ..
   simp only [World.alloc, Go.ChangeMaps.setBlock, hp]
  ·simp only [World.alloc, Go.ChangeMaps.setBlock, World.drew, hp]
def seenAny (p : Int → Bool) (l : List MapEntry) (seen : Array Nat) : Bool := l.any fun e => seen.contains e.born && p (valOf e.val)
theorem seenAny_none (p : Int → Bool) (l : List MapEntry) : seenAny p l #[] = false := by simp [seenAny]
theorem seenAny_push (p : Int → Bool) (seen : Array Nat) (e : MapEntry) : ∀ (l : List MapEntry), (l.map (·.born)).Nodup → e ∈ l → seenAny p l (seen.push e.born) = (seenAny p l seen || p (valOf e.val)) := by
 intro l hn he
 have key : ∀ x ∈ l, x.born = e.born → x = e := fun x hx h => by
  induction l with
  | nil => cases hx
  | cons a l ih =>
   have hn' := List.nodup_cons.1 hn
   rcases List.mem_cons.1 he with rfl | h1 <;> rcases List.mem_cons.1 hx with rfl | h2
   ·rfl
   ·exact absurd (List.mem_map.2 ⟨x, h2, h⟩) hn'.1
   ·exact absurd (List.mem_map.2 ⟨e, h1, h.symm⟩) hn'.1
   ·exact ih hn'.2 h1 h2
 rw [Bool.eq_iff_iff]
 simp only [seenAny, List.any_eq_true, Bool.or_eq_true, Bool.and_eq_true, Array.contains_iff_mem, Array.mem_push]
 constructor
 ·rintro ⟨x, hx, h1 | h1, h2⟩
  ·exact .inl ⟨x, hx, h1, h2⟩
  ·exact .inr (key x hx h1 ▸ h2)
 ·rintro (⟨x, hx, h1, h2⟩ | h)
  ·exact ⟨x, hx, .inl h1, h2⟩
  ·exact ⟨e, he, .inr rfl, h⟩
theorem seenAny_all (p : Int → Bool) (es : Array MapEntry) (seen : Array Nat) (h : (leftOf es seen).size = 0) : seenAny p es.toList seen = es.toList.any fun e => p (valOf e.val) := by
 have h2 : leftOf es seen = #[] := Array.eq_empty_of_size_eq_zero h
 unfold leftOf at h2
 rw [Array.filter_eq_empty_iff] at h2
 rw [Bool.eq_iff_iff]
 simp only [seenAny, List.any_eq_true, Bool.and_eq_true]
 constructor
 ·rintro ⟨x, hx, _, h2⟩; exact ⟨x, hx, h2⟩
 ·rintro ⟨x, hx, h3⟩
  have := h2 x (Array.mem_toList_iff.1 hx)
  exact ⟨x, hx, by simpa using this, h3⟩
theorem hole_wp (t0 t1 t2 t3 t4 t5 t6 t7 t8 t9 t10 t11 t12 t13 t14 t15 t16 t17 t18 t19 t20 t21 t22 t23 t24 t25 t26 t27 t28 t29 t30 t31 t32 t33 t34 t35 t36 t37 t38 t39 t40 t41 t42 t43 t44 t45 t46 t47 t48 t49 t50 t51 t52 t53 t54 t55 t56 t57 t58 t59 t60 t61 t62 t63 t64 t65 t66 t67 t68 t69 t70 t71 t72 t73 t74 t75 t76 t77 t78 t79 t80 t81 t82 t83 t84 t85 t86 t87 t88 t89 t90 t91 t92 t93 t94 t95 t96 t97 t98 t99 t100 t101 t102 t103 t104 t105 t106 t107 t108 t109 t110 t111 t112 t113 t114 t115 : Value) (df : List Deferred) (w : World) (bm clock : Nat) (es : Array MapEntry) (hb : w.heap[bm]? = some (.map es clock)) (hst : (∀ x ∈ es.toList, x.born < clock) ∧ (es.toList.map (·.born)).Nodup) (hv : ∀ x ∈ es.toList, ∃ v, x.val = .int .i64 v) (Q : Exit → Act → World → Prop)
  (hQ : ∀ (k : Nat) (seen : Array Nat) (u12 u28 u29 u30 u31 u32 u33 u34 u35 u36 u37 u38 u39 u40 u41 u42 u43 : Value), Q .normal ⟨#[t0, t1, t2, t3, t4, t5, t6, .map (some bm), t8, .bool (es.toList.any fun e => decide (0 < valOf e.val)), .bool (es.toList.any fun e => decide (valOf e.val < 0)), t11, u12, t13, t14, t15, t16, t17, t18, t19, t20, t21, t22, t23, t24, t25, t26, t27, u28, u29, u30, u31, u32, u33, u34, u35, u36, u37, u38, u39, u40, u41, u42, u43, t44, t45, t46, t47, t48, t49, t50, t51, t52, t53, t54, t55, t56, t57, t58, t59, t60, t61, t62, t63, t64, t65, t66, t67, t68, t69, t70, t71, t72, t73, t74, t75, t76, t77, t78, t79, t80, t81, t82, t83, t84, t85, t86, t87, t88, t89, t90, t91, t92, t93, t94, t95, t96, t97, t98, t99, t100, t101, t102, t103, t104, t105, t106, t107, t108, t109, t110, t111, t112, t113, t114, t115], df⟩ (({ w with drawn := k } : World).alloc (.mapIter (some bm) clock seen clock))) :
  h54_0.wp Tryz.prog Q ⟨#[t0, t1, t2, t3, t4, t5, t6, .map (some bm), t8, .bool false, .bool false, t11, t12, t13, t14, t15, t16, t17, t18, t19, t20, t21, t22, t23, t24, t25, t26, t27, t28, t29, t30, t31, t32, t33, t34, t35, t36, t37, t38, t39, t40, t41, t42, t43, t44, t45, t46, t47, t48, t49, t50, t51, t52, t53, t54, t55, t56, t57, t58, t59, t60, t61, t62, t63, t64, t65, t66, t67, t68, t69, t70, t71, t72, t73, t74, t75, t76, t77, t78, t79, t80, t81, t82, t83, t84, t85, t86, t87, t88, t89, t90, t91, t92, t93, t94, t95, t96, t97, t98, t99, t100, t101, t102, t103, t104, t105, t106, t107, t108, t109, t110, t111, t112, t113, t114, t115], df⟩ w := by
 have hrg := run_range_map (P := Tryz.prog) w 101 3 3 bm es clock (by kernel_rfl) hb
 unfold h54_0
 go_wp2
 go_loopw [9, 10] (fun s s' w' => ∃ (k : Nat) (seen : Array Nat) (x y : Bool), w' = ({ w with drawn := k } : World).alloc (.mapIter (some bm) clock seen clock) ∧ s = .bool x ∧ s' = .bool y ∧ x = seenAny (fun n => decide (0 < n)) es.toList seen ∧ y = seenAny (fun n => decide (n < 0)) es.toList seen) (fun _ _ w' => (leftOf es (w'.iterSeen w.heap.size)).size)
 case atStart => exact ⟨w.drawn, #[], false, false, rfl, rfl, rfl, (seenAny_none _ _).symm, (seenAny_none _ _).symm⟩
 case round =>
  obtain ⟨k, seen, x, y, rfl, rfl, rfl, hx, hy⟩ := hrel
  have hb1 : ({ w with drawn := k } : World).heap[bm]? = some (.map es clock) := hb
  have law := run_next_dr (P := Tryz.prog) ({ w with drawn := k } : World) 0 bm clock seen es clock hb1 hst.1 (Nat.le_refl _)
  have hsz : ({ w with drawn := k } : World).heap.size = w.heap.size := rfl
  rcases law with ⟨h0, hrun⟩ | ⟨e, he, k2, hrun⟩
  ·have hnx : ∀ ty, (Instr.next (.pointer (some ⟨w.heap.size, 0, none⟩)) false ty).run Tryz.prog (({ w with drawn := k } : World).alloc (.mapIter (some bm) clock seen clock)) = _ := fun _ => hrun
   rw [seenAny_all _ _ _ h0] at hx hy
   subst hx hy
   clear hrun hb1 hsz
   generalize hA : (es.toList.any fun e => decide (0 < valOf e.val)) = A at hQ ⊢
   generalize hB : (es.toList.any fun e => decide (valOf e.val < 0)) = B at hQ ⊢
   go_wp2
   exact hQ _ _ _ _ _ _ _ _ _ _ _ _ _ _ _ _ _ _ _
  ·obtain ⟨v, hval⟩ := hv e (mem_left he).1
   have hpx := seenAny_push (fun n => decide (0 < n)) seen e es.toList hst.2 (mem_left he).1
   have hpy := seenAny_push (fun n => decide (n < 0)) seen e es.toList hst.2 (mem_left he).1
   rw [← hx, hval] at hpx
   rw [← hy, hval] at hpy
   clear hx hy
   rw [hval] at hrun
   have hnx : ∀ ty, (Instr.next (.pointer (some ⟨w.heap.size, 0, none⟩)) false ty).run Tryz.prog (({ w with drawn := k } : World).alloc (.mapIter (some bm) clock seen clock)) = _ := fun _ => hrun
   have hen := run_entry_map (P := Tryz.prog) ({ w with drawn := k2 } : World) bm clock seen es clock e hb (mem_left he).1 hst.2
   rw [show ({ w with drawn := k2 } : World).heap.size = w.heap.size from rfl, hval] at hen
   clear hrun hb1 hsz hQ
   have hleft := left_shrinks es seen e he
   cases x <;> cases y
   all_goals
    go_wp2
    refine ⟨k2, seen.push e.born, rfl, ?_⟩
    rw [hpx, hpy]
    constructor <;> (simp [valOf] <;> first | rfl | exact decide_eq_decide.2 Iff.rfl)
theorem list_lit (l : List Value) (h : l.length = 116) : l = [l.getD 0 undef, l.getD 1 undef, l.getD 2 undef, l.getD 3 undef, l.getD 4 undef, l.getD 5 undef, l.getD 6 undef, l.getD 7 undef, l.getD 8 undef, l.getD 9 undef, l.getD 10 undef, l.getD 11 undef, l.getD 12 undef, l.getD 13 undef, l.getD 14 undef, l.getD 15 undef, l.getD 16 undef, l.getD 17 undef, l.getD 18 undef, l.getD 19 undef, l.getD 20 undef, l.getD 21 undef, l.getD 22 undef, l.getD 23 undef, l.getD 24 undef, l.getD 25 undef, l.getD 26 undef, l.getD 27 undef, l.getD 28 undef, l.getD 29 undef, l.getD 30 undef, l.getD 31 undef, l.getD 32 undef, l.getD 33 undef, l.getD 34 undef, l.getD 35 undef, l.getD 36 undef, l.getD 37 undef, l.getD 38 undef, l.getD 39 undef, l.getD 40 undef, l.getD 41 undef, l.getD 42 undef, l.getD 43 undef, l.getD 44 undef, l.getD 45 undef, l.getD 46 undef, l.getD 47 undef, l.getD 48 undef, l.getD 49 undef, l.getD 50 undef, l.getD 51 undef, l.getD 52 undef, l.getD 53 undef, l.getD 54 undef, l.getD 55 undef, l.getD 56 undef, l.getD 57 undef, l.getD 58 undef, l.getD 59 undef, l.getD 60 undef, l.getD 61 undef, l.getD 62 undef, l.getD 63 undef, l.getD 64 undef, l.getD 65 undef, l.getD 66 undef, l.getD 67 undef, l.getD 68 undef, l.getD 69 undef, l.getD 70 undef, l.getD 71 undef, l.getD 72 undef, l.getD 73 undef, l.getD 74 undef, l.getD 75 undef, l.getD 76 undef, l.getD 77 undef, l.getD 78 undef, l.getD 79 undef, l.getD 80 undef, l.getD 81 undef, l.getD 82 undef, l.getD 83 undef, l.getD 84 undef, l.getD 85 undef, l.getD 86 undef, l.getD 87 undef, l.getD 88 undef, l.getD 89 undef, l.getD 90 undef, l.getD 91 undef, l.getD 92 undef, l.getD 93 undef, l.getD 94 undef, l.getD 95 undef, l.getD 96 undef, l.getD 97 undef, l.getD 98 undef, l.getD 99 undef, l.getD 100 undef, l.getD 101 undef, l.getD 102 undef, l.getD 103 undef, l.getD 104 undef, l.getD 105 undef, l.getD 106 undef, l.getD 107 undef, l.getD 108 undef, l.getD 109 undef, l.getD 110 undef, l.getD 111 undef, l.getD 112 undef, l.getD 113 undef, l.getD 114 undef, l.getD 115 undef] := by
 have : l = (List.range 116).map fun i => l.getD i undef := by
  apply List.ext_getElem?
  intro i
  rw [List.getElem?_map]
  rcases Nat.lt_or_ge i 116 with hi | hi
  ·rw [List.getElem?_range hi]
   simp [List.getD_eq_getElem?_getD, List.getElem?_eq_getElem (show i < l.length by omega)]
  ·rw [List.getElem?_eq_none (by omega), List.getElem?_eq_none (by simp; omega)]
   rfl
 exact this
end Go.Proofs.YtajilkmepjhkdaaGreat.Am

/-
 The numbers of a map; a frame written out. No condition.
-/
namespace Go.Proofs.YtajilkmepjhkdaaGreat.Am
open Go Go.Proofs
set_option maxRecDepth 1000000
set_option maxHeartbeats 4000000
theorem vals_rep {C : Cx} : ∀ (es : List (D × AV × Nat)) (l : List MapEntry) (ns : List Int), l.length = es.length → (∀ (j : Nat) k v n, es[j]? = some (k, v, n) → ∃ e : MapEntry, l[j]? = some e ∧ Rep C v e.val ∧ e.born = n) → valsOf es = some ns →
  l.map (fun e => valOf e.val) = ns ∧ (∀ x ∈ l, ∃ v, x.val = .int .i64 v) ∧ l.map (·.born) = es.map (·.2.2)
 | [], [], ns, _, _, h => by simp [valsOf] at h; subst h; simp
 | (k, v, n) :: es, x :: l, ns, hl, hr, h => by
  have hx := hr 0 k v n rfl
  obtain ⟨e, he, h1, h2⟩ := hx
  simp at he; subst he
  unfold valsOf at h
  split at h
  ·simp_all
  ·rename_i q1 n1 s1 r1 heq
   cases heq
   simp only [Option.map_eq_some_iff] at h
   obtain ⟨ns', h3, rfl⟩ := h
   have ih := vals_rep es l ns' (by simpa using hl) (fun j k v n hj => by simpa using hr (j + 1) k v n (by simpa using hj)) h3
   have hxv : x.val = .int .i64 n1 := by
    have hd := h1.dinv
    generalize x.val = u at hd ⊢
    cases hd; rfl
   refine ⟨by rw [List.map_cons, ih.1, hxv]; rfl, fun y hy => ?_, by simp [h2, ih.2.2]⟩
   rcases List.mem_cons.1 hy with rfl | hy
   ·exact ⟨_, hxv⟩
   ·exact ih.2.1 y hy
  ·cases h
theorem tmps_lit (tmps : Array Value) (h : tmps.size = 116) {bm : Nat} (h7 : tmps.getD 7 undef = .map (some bm)) (h9 : tmps.getD 9 undef = .bool false) (h10 : tmps.getD 10 undef = .bool false) : tmps = #[tmps.getD 0 undef, tmps.getD 1 undef, tmps.getD 2 undef, tmps.getD 3 undef, tmps.getD 4 undef, tmps.getD 5 undef, tmps.getD 6 undef, .map (some bm), tmps.getD 8 undef, .bool false, .bool false, tmps.getD 11 undef, tmps.getD 12 undef, tmps.getD 13 undef, tmps.getD 14 undef, tmps.getD 15 undef, tmps.getD 16 undef, tmps.getD 17 undef, tmps.getD 18 undef, tmps.getD 19 undef, tmps.getD 20 undef, tmps.getD 21 undef, tmps.getD 22 undef, tmps.getD 23 undef, tmps.getD 24 undef, tmps.getD 25 undef, tmps.getD 26 undef, tmps.getD 27 undef, tmps.getD 28 undef, tmps.getD 29 undef, tmps.getD 30 undef, tmps.getD 31 undef, tmps.getD 32 undef, tmps.getD 33 undef, tmps.getD 34 undef, tmps.getD 35 undef, tmps.getD 36 undef, tmps.getD 37 undef, tmps.getD 38 undef, tmps.getD 39 undef, tmps.getD 40 undef, tmps.getD 41 undef, tmps.getD 42 undef, tmps.getD 43 undef, tmps.getD 44 undef, tmps.getD 45 undef, tmps.getD 46 undef, tmps.getD 47 undef, tmps.getD 48 undef, tmps.getD 49 undef, tmps.getD 50 undef, tmps.getD 51 undef, tmps.getD 52 undef, tmps.getD 53 undef, tmps.getD 54 undef, tmps.getD 55 undef, tmps.getD 56 undef, tmps.getD 57 undef, tmps.getD 58 undef, tmps.getD 59 undef, tmps.getD 60 undef, tmps.getD 61 undef, tmps.getD 62 undef, tmps.getD 63 undef, tmps.getD 64 undef, tmps.getD 65 undef, tmps.getD 66 undef, tmps.getD 67 undef, tmps.getD 68 undef, tmps.getD 69 undef, tmps.getD 70 undef, tmps.getD 71 undef, tmps.getD 72 undef, tmps.getD 73 undef, tmps.getD 74 undef, tmps.getD 75 undef, tmps.getD 76 undef, tmps.getD 77 undef, tmps.getD 78 undef, tmps.getD 79 undef, tmps.getD 80 undef, tmps.getD 81 undef, tmps.getD 82 undef, tmps.getD 83 undef, tmps.getD 84 undef, tmps.getD 85 undef, tmps.getD 86 undef, tmps.getD 87 undef, tmps.getD 88 undef, tmps.getD 89 undef, tmps.getD 90 undef, tmps.getD 91 undef, tmps.getD 92 undef, tmps.getD 93 undef, tmps.getD 94 undef, tmps.getD 95 undef, tmps.getD 96 undef, tmps.getD 97 undef, tmps.getD 98 undef, tmps.getD 99 undef, tmps.getD 100 undef, tmps.getD 101 undef, tmps.getD 102 undef, tmps.getD 103 undef, tmps.getD 104 undef, tmps.getD 105 undef, tmps.getD 106 undef, tmps.getD 107 undef, tmps.getD 108 undef, tmps.getD 109 undef, tmps.getD 110 undef, tmps.getD 111 undef, tmps.getD 112 undef, tmps.getD 113 undef, tmps.getD 114 undef, tmps.getD 115 undef] := by
 have h0 : tmps.toList = (List.range 116).map fun i => tmps.getD i undef := by
  apply List.ext_getElem?
  intro i
  rw [List.getElem?_map]
  rcases Nat.lt_or_ge i 116 with hi | hi
  ·rw [List.getElem?_range hi]
   simp [Array.getD_eq_getD_getElem?, Array.getElem?_eq_getElem (show i < tmps.size by omega)]
  ·rw [List.getElem?_eq_none (by simpa using by omega), List.getElem?_eq_none (by simp; omega)]
   rfl
 have h1 : tmps = #[tmps.getD 0 undef, tmps.getD 1 undef, tmps.getD 2 undef, tmps.getD 3 undef, tmps.getD 4 undef, tmps.getD 5 undef, tmps.getD 6 undef, tmps.getD 7 undef, tmps.getD 8 undef, tmps.getD 9 undef, tmps.getD 10 undef, tmps.getD 11 undef, tmps.getD 12 undef, tmps.getD 13 undef, tmps.getD 14 undef, tmps.getD 15 undef, tmps.getD 16 undef, tmps.getD 17 undef, tmps.getD 18 undef, tmps.getD 19 undef, tmps.getD 20 undef, tmps.getD 21 undef, tmps.getD 22 undef, tmps.getD 23 undef, tmps.getD 24 undef, tmps.getD 25 undef, tmps.getD 26 undef, tmps.getD 27 undef, tmps.getD 28 undef, tmps.getD 29 undef, tmps.getD 30 undef, tmps.getD 31 undef, tmps.getD 32 undef, tmps.getD 33 undef, tmps.getD 34 undef, tmps.getD 35 undef, tmps.getD 36 undef, tmps.getD 37 undef, tmps.getD 38 undef, tmps.getD 39 undef, tmps.getD 40 undef, tmps.getD 41 undef, tmps.getD 42 undef, tmps.getD 43 undef, tmps.getD 44 undef, tmps.getD 45 undef, tmps.getD 46 undef, tmps.getD 47 undef, tmps.getD 48 undef, tmps.getD 49 undef, tmps.getD 50 undef, tmps.getD 51 undef, tmps.getD 52 undef, tmps.getD 53 undef, tmps.getD 54 undef, tmps.getD 55 undef, tmps.getD 56 undef, tmps.getD 57 undef, tmps.getD 58 undef, tmps.getD 59 undef, tmps.getD 60 undef, tmps.getD 61 undef, tmps.getD 62 undef, tmps.getD 63 undef, tmps.getD 64 undef, tmps.getD 65 undef, tmps.getD 66 undef, tmps.getD 67 undef, tmps.getD 68 undef, tmps.getD 69 undef, tmps.getD 70 undef, tmps.getD 71 undef, tmps.getD 72 undef, tmps.getD 73 undef, tmps.getD 74 undef, tmps.getD 75 undef, tmps.getD 76 undef, tmps.getD 77 undef, tmps.getD 78 undef, tmps.getD 79 undef, tmps.getD 80 undef, tmps.getD 81 undef, tmps.getD 82 undef, tmps.getD 83 undef, tmps.getD 84 undef, tmps.getD 85 undef, tmps.getD 86 undef, tmps.getD 87 undef, tmps.getD 88 undef, tmps.getD 89 undef, tmps.getD 90 undef, tmps.getD 91 undef, tmps.getD 92 undef, tmps.getD 93 undef, tmps.getD 94 undef, tmps.getD 95 undef, tmps.getD 96 undef, tmps.getD 97 undef, tmps.getD 98 undef, tmps.getD 99 undef, tmps.getD 100 undef, tmps.getD 101 undef, tmps.getD 102 undef, tmps.getD 103 undef, tmps.getD 104 undef, tmps.getD 105 undef, tmps.getD 106 undef, tmps.getD 107 undef, tmps.getD 108 undef, tmps.getD 109 undef, tmps.getD 110 undef, tmps.getD 111 undef, tmps.getD 112 undef, tmps.getD 113 undef, tmps.getD 114 undef, tmps.getD 115 undef] := Array.toList_inj.1 h0
 rw [h7, h9, h10] at h1
 exact h1
end Go.Proofs.YtajilkmepjhkdaaGreat.Am

/-
 The loop over a map is what the policy says. No condition.
-/
namespace Go.Proofs.YtajilkmepjhkdaaGreat.Am
open Go Go.Proofs
set_option maxRecDepth 1000000
set_option maxHeartbeats 4000000
theorem hole_ok : HoleOk Tryz.prog plc := by
 intro c g hg st e st' h B C a Q hs hq
 obtain ⟨rfl, rfl⟩ : c = h54_0 ∧ g = holeG := by
  simp only [plc] at hg
  split at hg
  ·rename_i hc; cases hg; exact ⟨hc, rfl⟩
  ·cases hg
 obtain ⟨tm, H, nx⟩ := st
 simp only [holeG] at h
 split at h
 ·rename_i tm' y0 y1 y2 y3 y4 y5 y6 y7 y8 y9 y10 r
  split at h
  ·rename_i o
   split at h
   ·rename_i sh es clk hH
    split at h
    ·rename_i hc
     obtain ⟨hr, hst, hlc⟩ := hc
     simp only [Option.map_eq_some_iff] at h
     obtain ⟨ns, hns, h⟩ := h
     cases h
     have hsz := hs.tm.size
     simp only [List.length_cons, hr] at hsz
     obtain ⟨tmps, df⟩ := a
     simp only at hsz
     have hcH : C.H o = some (.mp sh es clk) := by rw [hs.H]; exact hH
     obtain ⟨bm, S, es', hρ, hheap, hes, hent⟩ := hs.inv.obj o _ hcH
     have r7 : Rep C (.map o) (tmps.getD 7 undef) := hs.tm.rep 7 _ rfl
     have r9 : Rep C (.d (.bool false)) (tmps.getD 9 undef) := hs.tm.rep 9 _ rfl
     have r10 : Rep C (.d (.bool false)) (tmps.getD 10 undef) := hs.tm.rep 10 _ rfl
     have h7 : tmps.getD 7 undef = .map (some bm) := by
      generalize tmps.getD 7 undef = u at r7
      cases r7 with
      | map _ b hU hb => obtain ⟨_, S', h2⟩ := hb _ hcH; rw [hρ] at h2; cases h2; rfl
     have h9 : tmps.getD 9 undef = .bool false := by
      have hd := r9.dinv
      generalize tmps.getD 9 undef = u at hd ⊢
      cases hd; rfl
     have h10 : tmps.getD 10 undef = .bool false := by
      have hd := r10.dinv
      generalize tmps.getD 10 undef = u at hd ⊢
      cases hd; rfl
     obtain ⟨hv1, hv2, hv3⟩ := vals_rep es es'.toList ns (by simpa using hes) (fun j k v n hj => by
      obtain ⟨_, e, h1, _, h2, h3⟩ := hent j k v n hj
      exact ⟨e, by simpa using h1, h2, h3⟩) hns
     rw [tmps_lit tmps hsz h7 h9 h10]
     refine hole_wp (tmps.getD 0 undef) (tmps.getD 1 undef) (tmps.getD 2 undef) (tmps.getD 3 undef) (tmps.getD 4 undef) (tmps.getD 5 undef) (tmps.getD 6 undef) (.map (some bm)) (tmps.getD 8 undef) (.bool false) (.bool false) (tmps.getD 11 undef) (tmps.getD 12 undef) (tmps.getD 13 undef) (tmps.getD 14 undef) (tmps.getD 15 undef) (tmps.getD 16 undef) (tmps.getD 17 undef) (tmps.getD 18 undef) (tmps.getD 19 undef) (tmps.getD 20 undef) (tmps.getD 21 undef) (tmps.getD 22 undef) (tmps.getD 23 undef) (tmps.getD 24 undef) (tmps.getD 25 undef) (tmps.getD 26 undef) (tmps.getD 27 undef) (tmps.getD 28 undef) (tmps.getD 29 undef) (tmps.getD 30 undef) (tmps.getD 31 undef) (tmps.getD 32 undef) (tmps.getD 33 undef) (tmps.getD 34 undef) (tmps.getD 35 undef) (tmps.getD 36 undef) (tmps.getD 37 undef) (tmps.getD 38 undef) (tmps.getD 39 undef) (tmps.getD 40 undef) (tmps.getD 41 undef) (tmps.getD 42 undef) (tmps.getD 43 undef) (tmps.getD 44 undef) (tmps.getD 45 undef) (tmps.getD 46 undef) (tmps.getD 47 undef) (tmps.getD 48 undef) (tmps.getD 49 undef) (tmps.getD 50 undef) (tmps.getD 51 undef) (tmps.getD 52 undef) (tmps.getD 53 undef) (tmps.getD 54 undef) (tmps.getD 55 undef) (tmps.getD 56 undef) (tmps.getD 57 undef) (tmps.getD 58 undef) (tmps.getD 59 undef) (tmps.getD 60 undef) (tmps.getD 61 undef) (tmps.getD 62 undef) (tmps.getD 63 undef) (tmps.getD 64 undef) (tmps.getD 65 undef) (tmps.getD 66 undef) (tmps.getD 67 undef) (tmps.getD 68 undef) (tmps.getD 69 undef) (tmps.getD 70 undef) (tmps.getD 71 undef) (tmps.getD 72 undef) (tmps.getD 73 undef) (tmps.getD 74 undef) (tmps.getD 75 undef) (tmps.getD 76 undef) (tmps.getD 77 undef) (tmps.getD 78 undef) (tmps.getD 79 undef) (tmps.getD 80 undef) (tmps.getD 81 undef) (tmps.getD 82 undef) (tmps.getD 83 undef) (tmps.getD 84 undef) (tmps.getD 85 undef) (tmps.getD 86 undef) (tmps.getD 87 undef) (tmps.getD 88 undef) (tmps.getD 89 undef) (tmps.getD 90 undef) (tmps.getD 91 undef) (tmps.getD 92 undef) (tmps.getD 93 undef) (tmps.getD 94 undef) (tmps.getD 95 undef) (tmps.getD 96 undef) (tmps.getD 97 undef) (tmps.getD 98 undef) (tmps.getD 99 undef) (tmps.getD 100 undef) (tmps.getD 101 undef) (tmps.getD 102 undef) (tmps.getD 103 undef) (tmps.getD 104 undef) (tmps.getD 105 undef) (tmps.getD 106 undef) (tmps.getD 107 undef) (tmps.getD 108 undef) (tmps.getD 109 undef) (tmps.getD 110 undef) (tmps.getD 111 undef) (tmps.getD 112 undef) (tmps.getD 113 undef) (tmps.getD 114 undef) (tmps.getD 115 undef) df C.w bm clk es' hheap ⟨fun x hx => ?_, by rw [hv3, hst]; exact List.nodup_range⟩ hv2 Q (fun k seen u12 u28 u29 u30 u31 u32 u33 u34 u35 u36 u37 u38 u39 u40 u41 u42 u43 => ?_)
     ·have : x.born ∈ es'.toList.map (·.born) := List.mem_map.2 ⟨x, hx, rfl⟩
      rw [hv3, hst, List.mem_range] at this
      omega
     ·have hg2 : Grew C.w (({ C.w with drawn := k } : World).alloc (.mapIter (some bm) clk seen clk)) := Grew.trans (b := { C.w with drawn := k }) ⟨rfl, rfl, rfl, Nat.le_refl _, fun _ _ => rfl⟩ (Grew.alloc _ _)
      obtain ⟨hI, hE⟩ := grow_world hs.inv hg2
      refine hq ⟨C.ρ, C.F, C.H, C.U, _⟩ _ ⟨⟨hs.H, hI, hs.lt, ⟨by simp, fun j x hx => ?_⟩, hs.df.ext hE⟩, hE, Nat.le_refl _, fun _ h => .inl h⟩
      have e1 : (es'.toList.any fun e => decide (0 < valOf e.val)) = ns.any fun n => decide (0 < n) := by rw [← hv1, List.any_map]; rfl
      have e2 : (es'.toList.any fun e => decide (valOf e.val < 0)) = ns.any fun n => decide (n < 0) := by rw [← hv1, List.any_map]; rfl
      rw [e1, e2]
      match j, hx with
       | 0, hx => cases hx; exact (hs.tm.rep 0 _ rfl).ext hs.inv hE
       | 1, hx => cases hx; exact (hs.tm.rep 1 _ rfl).ext hs.inv hE
       | 2, hx => cases hx; exact (hs.tm.rep 2 _ rfl).ext hs.inv hE
       | 3, hx => cases hx; exact (hs.tm.rep 3 _ rfl).ext hs.inv hE
       | 4, hx => cases hx; exact (hs.tm.rep 4 _ rfl).ext hs.inv hE
       | 5, hx => cases hx; exact (hs.tm.rep 5 _ rfl).ext hs.inv hE
       | 6, hx => cases hx; exact (hs.tm.rep 6 _ rfl).ext hs.inv hE
       | 8, hx => cases hx; exact (hs.tm.rep 8 _ rfl).ext hs.inv hE
       | 7, hx => cases hx; exact h7 ▸ r7.ext hs.inv hE
       | 9, hx => cases hx; exact .d _ _ (.bool _)
       | 10, hx => cases hx; exact .d _ _ (.bool _)
       | j + 11, hx =>
        have : x = .junk := by
         simp only [List.getElem?_cons_succ, List.getElem?_replicate] at hx
         split at hx <;> first | (cases hx; rfl) | cases hx
        subst this
        exact .junk _
    ·cases h
   ·cases h
  ·cases h
 ·cases h
end Go.Proofs.YtajilkmepjhkdaaGreat.Am


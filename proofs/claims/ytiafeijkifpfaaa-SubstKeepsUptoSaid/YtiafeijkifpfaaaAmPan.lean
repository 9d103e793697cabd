/-
  Joined texts: AmSo, AmPol. No condition.
-/
import Derived.Test.YtiafeijkifpfaaaAmPam
import Derived.Test.YtiafeijkifpfaaaProg
import Derived.Ground.NamesProg
import Derived.Shelf.Lay
import Derived.Shelf.Sort.Plain
import Derived.Shelf.Slices.In.SortNone
import Derived.Lib.SortBridge
import Derived.KernelRfl
/-
 slices.Sort at whole numbers, from the kit's contract: a call of the machine that is known from elsewhere. No condition.
-/
namespace Go.Proofs.Ytiafeijkifpfaaa
open Go Go.Proofs Go.Shelf
shelf_lay Lays.n189 Nm 189 at Try as Try.laysSort
end Go.Proofs.Ytiafeijkifpfaaa
namespace Go.Proofs.Ytiafeijkifpfaaa.Am
open Go Go.Proofs
set_option maxHeartbeats 4000000
set_option linter.unusedSimpArgs false
set_option linter.unusedVariables false
def intsOf : List AV → Option (List Int)
 | [] => some []
 | .d (.int .i64 n) :: r => (intsOf r).map (n :: ·)
 | _ => none
def sortZ (zs : List Int) : List Int := zs.mergeSort fun x y => decide (x ≤ y)
def sortX : CallF' := fun vs H nx => match vs with
 | [.d (.sl [] 0 _ _)] => some (.d (.tup []), H, nx)
 | [.osl o 0 0 _ _] => some (.d (.tup []), H, nx)
 | [.osl o 0 (len + 1) 1 ver] => match H o with
  | some x => match intsOf (x.cs.take (len + 1)) with
   | some zs => if x.isRow = true ∧ x.isFrz = false ∧ x.cs.length = ver ∧ len + 1 ≤ ver ∧ ver ≤ 1073741824 then some (.d (.tup []), upd H o (x.put (splice x.cs 0 ((sortZ zs).map fun z => .d (.int .i64 z)))), nx) else none
   | none => none
  | none => none
 | _ => none
theorem intsOf_len : ∀ {l : List AV} {zs : List Int}, intsOf l = some zs → zs.length = l.length ∧ ∀ j, j < zs.length → l[j]? = some (.d (.int .i64 (zs.getD j 0)))
 | [], zs, h => by simp [intsOf] at h; subst h; simp
 | x :: r, zs, h => by
  unfold intsOf at h
  split at h
  ·rename_i heq; cases heq
  ·rename_i n r' heq
   cases heq
   simp only [Option.map_eq_some_iff] at h
   obtain ⟨zs', h1, rfl⟩ := h
   obtain ⟨h2, h3⟩ := intsOf_len h1
   refine ⟨by simp [h2], fun j hj => ?_⟩
   cases j with
   | zero => simp
   | succ j => simpa using h3 j (by simpa using hj)
  ·cases h
theorem sortZ_len (zs : List Int) : (sortZ zs).length = zs.length := List.length_mergeSort _
theorem put_cells (c : Array Value) (ys : List Int) (h : ys.length ≤ c.size) : Sort.putCells (Value.int .i64) 0 ys.toArray c = (c.toList.take 0 ++ (ys.map (Value.int .i64)).toArray.toList ++ c.toList.drop (0 + (ys.map (Value.int .i64)).toArray.size)).toArray := by
 apply Array.ext
 ·simp [Sort.putCells]; omega
 ·intro i h1 h2
  simp only [Sort.putCells, Array.size_mapIdx] at h1
  simp only [Sort.putCells, Array.getElem_mapIdx, List.take_zero, List.nil_append, Nat.zero_add, Nat.zero_le, true_and, Nat.sub_zero]
  by_cases hi : i < ys.length
  ·rw [if_pos (by simpa using hi)]
   simp only [List.getElem_toArray]
   rw [List.getElem_append_left (by simpa using hi)]
   simp [hi]
  ·rw [if_neg (by simpa using hi)]
   simp only [List.getElem_toArray]
   rw [List.getElem_append_right (by simpa using hi)]
   simp
   congr 1
   omega
theorem sort_num : Try.laysSort_ren.f 189 = 90 := by kernel_rfl
theorem rep_unit {C : Cx} : Rep C (.d (.tup [])) (.tuple #[]) := .d _ _ (.tup [] #[] rfl (fun j x h => by simp at h))
theorem sort_none {C : Cx} {nx : Nat} (hI : Inv C) (hlt : ∀ o, C.U o → o.1 < nx) {A : Option Addr} {cap : Nat} : Calls Try.prog 90 #[.slice A 0 cap] C.w fun e w' => ∃ v C', e = .returned v ∧ w' = C'.w ∧ CallPost C nx (.d (.tup [])) C.H nx v C' := by
 have h := Any.slices_Sort_int_none Try.laysSort A cap C.w
 rw [sort_num] at h
 exact h.mono fun e w' ⟨he, hw⟩ => ⟨_, C, he, hw, ⟨rfl, hI, .refl hI, rep_unit, Nat.le_refl _, hlt, fun o ho => .inl ho⟩⟩
theorem sortX_sim : SimF Try.prog 90 sortX := by
 intro vs H nx r H' nx' h
 refine ⟨⟨Try.f90, Try.func90, by kernel_rfl, by kernel_rfl⟩, fun C args hI hH hlt hv => ?_⟩
 unfold sortX at h
 split at h
 ·rename_i b1 b2
  simp only [Option.some.injEq, Prod.mk.injEq] at h
  obtain ⟨rfl, rfl, rfl⟩ := h
  obtain ⟨hsz, hrep⟩ := hv
  have h0 := hrep 0 _ rfl
  have ha : args = #[args.getD 0 undef] := by
   apply Array.ext
   ·simpa using hsz
   ·intro i h1 h2
    obtain rfl : i = 0 := by simp at h2; omega
    simp [Array.getD_eq_getD_getElem?, h1]
  rw [ha]
  generalize args.getD 0 undef = u at h0
  cases h0.dinv with
  | sl => rw [← hH]; exact sort_none hI hlt
 ·rename_i o sz ver
  simp only [Option.some.injEq, Prod.mk.injEq] at h
  obtain ⟨rfl, rfl, rfl⟩ := h
  obtain ⟨hsz, hrep⟩ := hv
  have h0 := hrep 0 _ rfl
  have ha : args = #[args.getD 0 undef] := by
   apply Array.ext
   ·simpa using hsz
   ·intro i h1 h2
    obtain rfl : i = 0 := by simp at h2; omega
    simp [Array.getD_eq_getD_getElem?, h1]
  rw [ha]
  generalize args.getD 0 undef = u at h0
  cases h0 with
  | osl => rw [← hH]; exact sort_none hI hlt
 ·rename_i o len ver
  split at h
  ·rename_i x hx
   split at h
   ·rename_i zs hz
    split at h
    ·rename_i hc
     obtain ⟨hrow, hfz, hver, hlv, hvb⟩ := hc
     simp only [Option.some.injEq, Prod.mk.injEq] at h
     obtain ⟨rfl, rfl, rfl⟩ := h
     obtain ⟨hsz, hrep⟩ := hv
     have h0 := hrep 0 _ rfl
     have hxC : C.H o = some x := by rw [hH]; exact hx
     obtain ⟨hzl, hzg⟩ := intsOf_len hz
     have hzlen : zs.length = len + 1 := by rw [hzl, List.length_take]; omega
     have ha : args = #[args.getD 0 undef] := by
      apply Array.ext
      ·simpa using hsz
      ·intro i h1 h2
       obtain rfl : i = 0 := by simp at h2; omega
       simp [Array.getD_eq_getD_getElem?, h1]
     rw [ha]
     generalize args.getD 0 undef = u at h0
     cases h0 with
     | osl _ _ _ _ _ cap A hlc hU hvx hs =>
      have hsl := hs x hxC hver
      cases hρ : C.ρ o with
      | none => rw [hρ] at hsl; have := hsl.1; omega
      | some p =>
       obtain ⟨b, S⟩ := p
       rw [hρ] at hsl
       obtain ⟨hS, hA, _⟩ := hsl
       obtain rfl := hA (by omega)
       obtain ⟨c, t, hh, hcs, hlS, hm⟩ := row_mem hI hxC hrow hρ
       have hcell : ∀ j, j < zs.length → c.getD j undef = .int .i64 (zs.getD j 0) := fun j hj => by
        have h1 := hzg j hj
        rw [List.getElem?_take, if_pos (by omega)] at h1
        have h2 := (hm.rep j _ h1).dinv
        generalize c.getD j undef = u at h2
        cases h2; rfl
       have hH' : Sort.Holds (Value.int .i64) C.w b 0 zs.toArray := fun j hj => by
        simp only [List.size_toArray] at hj
        have hjc : j < c.size := by omega
        have hc1 := hcell j hj
        rw [Array.getD_eq_getD_getElem?, Array.getElem?_eq_getElem hjc, Option.getD_some] at hc1
        refine ⟨?_, ?_⟩
        ·unfold World.cell?
         simp [hh, hjc, hc1]
        ·unfold World.frozen?
         simp [hh]
       have hcall := Any.slices_Sort_int Try.laysSort b 0 cap zs C.w hH' (by
        rcases Nat.lt_or_ge b C.w.heap.size with h | h
        ·exact h
        ·rw [Array.getElem?_eq_none h] at hh; cases hh) (by omega)
       rw [sort_num, hzlen] at hcall
       refine hcall.mono ?_
       rintro e w' ⟨rfl, n, os, rfl⟩
       have hyl : (sortZ zs).length = zs.length := sortZ_len zs
       obtain ⟨ys, hys⟩ : ∃ ys, ys = sortZ zs := ⟨_, rfl⟩
       rw [← hys] at hyl ⊢
       rw [show (zs.mergeSort fun x y => decide (x ≤ y)) = ys from hys.symm]
       obtain ⟨hI1, hE1⟩ := row_splice hI hxC hrow hfz hρ hh (off := 0) (xs := ys.map fun z => .d (.int .i64 z)) (vs := (ys.map (Value.int .i64)).toArray) ⟨by simp, fun j hj => by simp at hj; simp [Array.getD_eq_getD_getElem?, hj]; rfl, fun j x hj => by
        simp only [List.getElem?_map, Option.map_eq_some_iff] at hj
        obtain ⟨z, hz, rfl⟩ := hj
        rw [Array.getD_eq_getD_getElem?, List.getElem?_toArray, List.getElem?_map, hz]
        exact .d _ _ (.int _ _)⟩ (by rw [List.length_map]; omega)
       have hpc := put_cells c ys (by omega)
       obtain ⟨c2, hc2⟩ : ∃ c2, c2 = (c.toList.take 0 ++ (ys.map (Value.int .i64)).toArray.toList ++ c.toList.drop (0 + (ys.map (Value.int .i64)).toArray.size)).toArray := ⟨_, rfl⟩
       rw [← hc2] at hI1 hE1 hpc
       have hbl : b < C.w.heap.size := by
        rcases Nat.lt_or_ge b C.w.heap.size with h | h
        ·exact h
        ·rw [Array.getElem?_eq_none h] at hh; cases hh
       have hg : Grew (C.w.setRow b c2) (Sort.grow (Sort.putRow (Value.int .i64) (Sort.ahead C.w n) b 0 ys.toArray) os) := by
        have hwr := wrote_setRow C.w b c2
        refine ⟨rfl, rfl, rfl, by rw [hwr.size]; simp [Sort.grow, Sort.putRow, Sort.mapBlock, Sort.ahead], fun k hk => ?_⟩
        rw [hwr.size] at hk
        simp only [Sort.grow, Sort.putRow, Sort.mapBlock, Sort.ahead]
        rw [Array.getElem?_append_left (by simpa using hk), Array.getElem?_modify]
        by_cases hkb : b = k
        ·subst hkb
         rw [if_pos rfl, hh, setRow_heap C.w b c c2 t (0, 0) hh]
         simp only [Option.map_some, Sort.onCells, hpc]
        ·rw [if_neg hkb, hwr.block k (fun e => hkb e.symm)]
       obtain ⟨hI2, hE2⟩ := grow_world hI1 hg
       refine ⟨_, _, rfl, rfl, ⟨?_, hI2, hE1.trans hE2, rep_unit, Nat.le_refl _, hlt, fun o ho => .inl ho⟩⟩
       show upd C.H o _ = _
       rw [hH]
    ·cases h
   ·cases h
  ·cases h
 ·cases h
end Go.Proofs.Ytiafeijkifpfaaa.Am

/-
 Which functions of this seat run on the caller's objects; of which data less is known; what is known from elsewhere: a term's copy, the chapter's examples, the library's sort. No condition.
-/
namespace Go.Proofs.Ytiafeijkifpfaaa.Am
open Go Go.Proofs
open Classical in
noncomputable def copyX : CallF' := fun vs H nx => if ∃ t : Term, t.size ≤ 1048576 ∧ vs = [.d (.agg t.enc)] then some (vs.headD .junk, H, nx) else none
def aliveX : CallF' := fun vs H nx => match vs with
 | [] => some (.d (.bool true), H, nx)
 | _ => none
def rawF (f : FuncId) : Bool := f == 89 || f == 90 || f == 91
def weakF (f : FuncId) : Bool := f == 33 || f == 82 || f == 62 || f == 31 || f == 30 || f == 61 || f == 73 || f == 81 || f == 66 || f == 74 || f == 40
noncomputable def plc : Pol := { raw := rawF, ext := fun f => if f == 66 then some copyX else if f == 29 then some aliveX else if f == 90 then some sortX else none, weak := weakF }
theorem plc_raw (f : FuncId) : plc.raw f = (f == 89 || f == 90 || f == 91) := rfl
@[simp] theorem plc_weak (f : FuncId) : plc.weak f = (f == 33 || f == 82 || f == 62 || f == 31 || f == 30 || f == 61 || f == 73 || f == 81 || f == 66 || f == 74 || f == 40) := rfl
@[simp] theorem plc_deep (f : FuncId) : plc.deep f = 6 := rfl
theorem plc_ext (f : FuncId) : plc.ext f = if f == 66 then some copyX else if f == 29 then some aliveX else if f == 90 then some sortX else none := rfl
noncomputable abbrev Cp := acall Try.prog plc
end Go.Proofs.Ytiafeijkifpfaaa.Am


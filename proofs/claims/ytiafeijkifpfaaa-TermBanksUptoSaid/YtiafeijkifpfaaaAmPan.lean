/-
  Joined texts: AmX2, AmPol, AmX3, AmJa, AmJa2, AmJc, AmT, AmSn, AmJd0, AmJd1, AmJd, AmJe, AmJf. No condition.
-/
import Derived.Test.YtiafeijkifpfaaaAmPam
import Derived.Test.YtiafeijkifpfaaaProg
import Derived.WalkKit
import Derived.ProofKit
/-
 A call that is known by another policy is a call of the machine. No condition.
-/
namespace Go.Proofs.Ytiafeijkifpfaaa.Am
open Go Go.Proofs
set_option linter.unusedSimpArgs false
set_option linter.unusedVariables false
theorem row_orders : Try.prog.follows .mixedOrders = true := by kernel_rfl
theorem mapD_all (H : Hp) (n : Nat) : ∀ (l : List D), mapD (reify H n) (l.map .d) = some (l, [])
 | [] => rfl
 | x :: r => by
  have h := mapD_all H n r
  rw [List.map_cons, mapD, h]
  cases n <;> simp [reify]
theorem sim_of_pcl {pol : Pol} (hp : PolOk Try.prog pol) {f : FuncId} {ds : List D} {x : D} (hne : f ≠ yieldF) (hraw : pol.raw f = false) (hweak : pol.weak f = false) (h : pcl (acall Try.prog pol) f ds = some x) {C : Cx} {args : Array Value} (hI : Inv C) {nx : Nat} (hlt : ∀ o, C.U o → o.1 < nx)
  (hv : args.size = ds.length ∧ ∀ j d, ds[j]? = some d → RepD C.F C.w d (args.getD j undef)) :
  Enters Try.prog f ∧ Calls Try.prog f args C.w fun e w' => ∃ v C', e = .returned v ∧ w' = C'.w ∧ CallPost C nx (.d x) C.H nx v C' := by
 refine callA_sim (pol := pol) (acall_sim row_orders hp) hne (vs := ds.map .d) ?_ hI hlt ⟨by simp [hv.1], fun j y hy => ?_⟩
 ·unfold callA reifyAll
  rw [mapD_all, hraw, hweak]
  simp [h, kill_nil']
 ·simp only [List.getElem?_map, Option.map_eq_some_iff] at hy
  obtain ⟨d, hd, rfl⟩ := hy
  exact .d _ _ (hv.2 j d hd)
end Go.Proofs.Ytiafeijkifpfaaa.Am

/-
 Which functions of this seat run on the caller's objects; of which data less is known; what is known from elsewhere: the chapter's examples. No condition.
-/
namespace Go.Proofs.Ytiafeijkifpfaaa.Am
open Go Go.Proofs
def aliveX : CallF' := fun vs H nx => match vs with
 | [] => some (.d (.bool true), H, nx)
 | _ => none
def rawF (f : FuncId) : Bool := f == 12 || f == 13 || f == 16 || f == 18 || f == 20 || f == 23 || f == 48 || f == 49 || f == 54 || f == 17 || f == 19 || f == 21
def plc : Pol := { raw := rawF, ext := fun f => if f == 14 then some aliveX else none, weak := fun f => f == 22 || f == 24 }
theorem plc_raw (f : FuncId) : plc.raw f = (f == 12 || f == 13 || f == 16 || f == 18 || f == 20 || f == 23 || f == 48 || f == 49 || f == 54 || f == 17 || f == 19 || f == 21) := rfl
@[simp] theorem plc_weak (f : FuncId) : plc.weak f = (f == 22 || f == 24) := rfl
@[simp] theorem plc_deep (f : FuncId) : plc.deep f = 6 := rfl
theorem plc_ext (f : FuncId) : plc.ext f = if f == 14 then some aliveX else none := rfl
noncomputable abbrev Cp := acall Try.prog plc
@[simp] theorem wkL_encL : ∀ (ts : List Term), wkL (encL ts) = encL ts
 | [] => rfl
 | .mk v fn args :: r => by simp [encL, Term.enc, wkL_encL args, wkL_encL r]
theorem mapD_encT (H : Hp) (n : Nat) : ∀ (l : List D), mapD (reify H n) (l.map .d) = some (l, [])
 | [] => rfl
 | x :: r => by
  have h := mapD_encT H n r
  rw [List.map_cons, mapD, h]
  cases n <;> simp [reify]
end Go.Proofs.Ytiafeijkifpfaaa.Am

/-
 The chapter's examples hold: the machine runs them. No condition.
-/
namespace Go.Proofs.Ytiafeijkifpfaaa.Am
open Go Go.Proofs
set_option maxHeartbeats 4000000
set_option linter.unusedSimpArgs false
set_option linter.unusedVariables false
def pol0 : Pol := { raw := fun f => f == 12 || f == 16 || f == 48 || f == 20 || f == 54 || f == 23 || f == 93 || f == 92 || f == 100 }
theorem pol0_ok : PolOk Try.prog pol0 := ⟨fun f g h => (by cases h), fun c g h => (by cases h)⟩
theorem alive_pol0 : pcl (acall Try.prog pol0) 14 [] = some (.bool true) :=
 pcl_mono (fun f vs H nx r h => (acall_some Try.prog pol0).2 ⟨60, h⟩) (show pcl (oracles Try.prog pol0 60).1 14 [] = some (.bool true) by kernel_rfl)
theorem aliveX_sim : SimF Try.prog 14 aliveX := by
 intro vs H nx r H' nx' h
 match vs, h with
 | [], h =>
  simp [aliveX] at h
  obtain ⟨rfl, rfl, rfl⟩ := h
  refine ⟨⟨Try.f14, Try.func14, by kernel_rfl, by kernel_rfl⟩, fun C args hI hH hlt hv => ?_⟩
  have := sim_of_pcl pol0_ok (by decide) (by rfl) (by rfl) alive_pol0 hI hlt (args := args) ⟨by simpa using hv.1, fun j d hd => by simp at hd⟩
  refine this.2.mono ?_
  rintro e w' ⟨v', C', rfl, rfl, hp⟩
  exact ⟨v', C', rfl, rfl, ⟨hp.H.trans hH, hp.inv, hp.ext, hp.rep, hp.le, hp.lt, hp.use⟩⟩
theorem row_pol : PolOk Try.prog plc := by
 refine ⟨fun f g h => ?_, fun c g h => (by cases h)⟩
 by_cases h2 : f = 14
 ·subst h2
  have : g = aliveX := (Option.some.inj h).symm
  subst this
  exact aliveX_sim
 ·have : plc.ext f = none := by rw [plc_ext]; simp [h2]
  rw [this] at h; cases h
end Go.Proofs.Ytiafeijkifpfaaa.Am

/-
 A bank of terms as mathematics: which numbers terms get, what stays. No condition.
-/
namespace Go.Proofs.Ytiafeijkifpfaaa.Am
open Go Go.Proofs
set_option linter.unusedSimpArgs false
set_option linter.unusedVariables false
def Term.v : Term → Int | .mk v _ _ => v
def Term.fn : Term → ByteArray | .mk _ fn _ => fn
def Term.args : Term → List Term | .mk _ _ a => a
mutual
def Term.parts : Term → List Term
 | .mk v fn args => partsL args ++ [.mk v fn args]
def partsL : List Term → List Term
 | [] => []
 | t :: r => t.parts ++ partsL r
end
theorem parts_self (t : Term) : t ∈ t.parts := by cases t; simp [Term.parts]
theorem partsL_mem : ∀ {l : List Term} {x y : Term}, x ∈ l → y ∈ x.parts → y ∈ partsL l
 | [], _, _, h, _ => by simp at h
 | t :: r, x, y, h, hy => by
  simp only [partsL, List.mem_append]
  rcases List.mem_cons.1 h with rfl | h
  ·exact .inl hy
  ·exact .inr (partsL_mem h hy)
theorem partsL_of : ∀ {l : List Term} {y : Term}, y ∈ partsL l → ∃ x ∈ l, y ∈ x.parts
 | [], _, h => by simp [partsL] at h
 | t :: r, y, h => by
  simp only [partsL, List.mem_append] at h
  rcases h with h | h
  ·exact ⟨t, by simp, h⟩
  ·obtain ⟨x, hx, hy⟩ := partsL_of h; exact ⟨x, by simp [hx], hy⟩
theorem parts_iff {t y : Term} : y ∈ t.parts ↔ y = t ∨ ∃ x ∈ t.args, y ∈ x.parts := by
 obtain ⟨v, fn, args⟩ := t
 simp only [Term.parts, List.mem_append, List.mem_singleton, Term.args]
 constructor
 ·rintro (h | h)
  ·exact .inr (partsL_of h)
  ·exact .inl h
 ·rintro (h | ⟨x, hx, hy⟩)
  ·exact .inr h
  ·exact .inl (partsL_mem hx hy)
theorem parts_args (t : Term) : ∀ {y z : Term}, y ∈ t.parts → z ∈ y.args → z ∈ t.parts := by
 refine Term.ind (p := fun t => ∀ {y z : Term}, y ∈ t.parts → z ∈ y.args → z ∈ t.parts) (fun v fn args ih y z hy hz => ?_) t
 rcases parts_iff.1 hy with rfl | ⟨x, hx, hy⟩
 ·exact parts_iff.2 (.inr ⟨z, hz, parts_self z⟩)
 ·exact parts_iff.2 (.inr ⟨x, hx, ih x hx hy hz⟩)
theorem parts_up (t : Term) : ∀ {y : Term}, y ∈ t.parts → y = t ∨ ∃ z ∈ t.parts, y ∈ z.args := by
 refine Term.ind (p := fun t => ∀ {y : Term}, y ∈ t.parts → y = t ∨ ∃ z ∈ t.parts, y ∈ z.args) (fun v fn args ih y hy => ?_) t
 rcases parts_iff.1 hy with rfl | ⟨x, hx, hy⟩
 ·exact .inl rfl
 ·rcases ih x hx hy with rfl | ⟨z, hz, hy⟩
  ·exact .inr ⟨.mk v fn args, parts_self _, hx⟩
  ·exact .inr ⟨z, parts_iff.2 (.inr ⟨x, hx, hz⟩), hy⟩
theorem parts_trans (t : Term) : ∀ {y z : Term}, y ∈ t.parts → z ∈ y.parts → z ∈ t.parts := by
 refine Term.ind (p := fun t => ∀ {y z : Term}, y ∈ t.parts → z ∈ y.parts → z ∈ t.parts) (fun v fn args ih y z hy hz => ?_) t
 rcases parts_iff.1 hy with rfl | ⟨x, hx, hy⟩
 ·exact hz
 ·exact parts_iff.2 (.inr ⟨x, hx, ih x hx hy hz⟩)
theorem args_size {t a : Term} (h : a ∈ t.args) : a.size < t.size := by
 obtain ⟨v, fn, args⟩ := t
 have := sizeL_mem h
 simp only [Term.size]; simp only [Term.args] at this; omega
structure Nd where
 id : Int
 t : Term
 kept : Int
structure Gn where
 id : Int
 v : Int
 fn : ByteArray
 ar : List Int
def hasT (L : List Nd) (t : Term) : Bool := L.any fun n => n.t.sameB t
def hasI (L : List Nd) (i : Int) : Bool := L.any fun n => decide (n.id = i)
def idOf (L : List Nd) (t : Term) : Int := match L.find? (fun n => n.t.sameB t) with | some n => n.id | none => 0
theorem hasT_iff {L : List Nd} {t : Term} : hasT L t = true ↔ ∃ n ∈ L, n.t = t := by simp [hasT, sameB_eq]
theorem hasT_ff {L : List Nd} {t : Term} : hasT L t = false ↔ ∀ n ∈ L, n.t ≠ t := by simp [hasT, sameB_ff]
theorem hasI_iff {L : List Nd} {i : Int} : hasI L i = true ↔ ∃ n ∈ L, n.id = i := by simp [hasI]
theorem hasI_ff {L : List Nd} {i : Int} : hasI L i = false ↔ ∀ n ∈ L, n.id ≠ i := by simp [hasI]
theorem idOf_mem {L : List Nd} {t : Term} (h : hasT L t = true) : ∃ n ∈ L, n.t = t ∧ idOf L t = n.id := by
 unfold idOf
 cases e : L.find? (fun n => n.t.sameB t) with
 | none =>
  rw [List.find?_eq_none] at e
  obtain ⟨n, hn, rfl⟩ := hasT_iff.1 h
  exact absurd ((sameB_eq _ _).2 rfl) (e n hn)
 | some n =>
  have h2 := List.find?_some e
  exact ⟨n, List.mem_of_find?_eq_some e, (sameB_eq _ _).1 h2, rfl⟩
theorem hasT_append {L M : List Nd} {t : Term} (h : hasT L t = true) : hasT (L ++ M) t = true := by
 obtain ⟨n, hn, e⟩ := hasT_iff.1 h; exact hasT_iff.2 ⟨n, by simp [hn], e⟩
theorem idOf_append {L M : List Nd} {t : Term} (h : hasT L t = true) : idOf (L ++ M) t = idOf L t := by
 unfold idOf
 rw [List.find?_append]
 cases e : L.find? (fun n => n.t.sameB t) with
 | none =>
  rw [List.find?_eq_none] at e
  obtain ⟨n, hn, rfl⟩ := hasT_iff.1 h
  exact absurd ((sameB_eq _ _).2 rfl) (e n hn)
 | some n => rfl
structure IsFree (L : List Nd) (i : Int) : Prop where
 pos : 1 ≤ i
 no : hasI L i = false
 all : ∀ j, 1 ≤ j → j < i → hasI L j = true
theorem isFree_uniq {L : List Nd} {i j : Int} (h : IsFree L i) (k : IsFree L j) : i = j := by
 rcases Int.lt_trichotomy i j with c | c | c
 ·have := k.all i h.pos c; rw [h.no] at this; cases this
 ·exact c
 ·have := h.all j k.pos c; rw [k.no] at this; cases this
theorem nodup_le {α : Type} [BEq α] [LawfulBEq α] : ∀ (a b : List α), a.Nodup → (∀ x ∈ a, x ∈ b) → a.length ≤ b.length
 | [], _, _, _ => by simp
 | x :: r, b, hn, h => by
  obtain ⟨h1, h2⟩ := List.nodup_cons.1 hn
  have hx := h x (by simp)
  have := nodup_le r (b.erase x) h2 (fun y hy => by
   have hne : y ≠ x := fun e => h1 (e ▸ hy)
   exact (List.mem_erase_of_ne hne).2 (h y (by simp [hy])))
  rw [List.length_erase_of_mem hx] at this
  have hp : 0 < b.length := List.length_pos_of_mem hx
  simp only [List.length_cons]; omega
theorem free_le {L : List Nd} {i : Int} (h0 : 1 ≤ i) (h : ∀ j, 1 ≤ j → j < i → hasI L j = true) : i ≤ L.length + 1 := by
 have := nodup_le ((List.range (i - 1).toNat).map fun (k : Nat) => ((k : Int) + 1)) (L.map (·.id)) (by
  rw [List.Nodup, List.pairwise_map]
  exact List.Pairwise.imp (fun {a b} (hab : a ≠ b) => by omega) List.nodup_range) (fun x hx => by
  obtain ⟨k, hk, rfl⟩ := List.mem_map.1 hx
  rw [List.mem_range] at hk
  obtain ⟨n, hn, e⟩ := hasI_iff.1 (h ((k : Int) + 1) (by omega) (by omega))
  exact List.mem_map.2 ⟨n, hn, e⟩)
 simp only [List.length_map, List.length_range] at this
 omega
def freeF : Nat → List Nd → Int → Int
 | 0, _, i => i
 | k + 1, L, i => if hasI L i then freeF k L (i + 1) else i
theorem freeF_ok : ∀ (k : Nat) (L : List Nd) (i : Int), 1 ≤ i → (∀ j, 1 ≤ j → j < i → hasI L j = true) → L.length + 1 - i ≤ (k : Int) - 1 → IsFree L (freeF k L i)
 | 0, L, i, h0, h, hk => by have := free_le h0 h; omega
 | k + 1, L, i, h0, h, hk => by
  unfold freeF
  by_cases hi : hasI L i = true
  ·rw [if_pos hi]
   exact freeF_ok k L (i + 1) (by omega) (fun j h1 h2 => by
    by_cases e : j = i
    ·exact e ▸ hi
    ·exact h j h1 (by omega)) (by omega)
  ·rw [if_neg hi]
   exact ⟨h0, by simpa using hi, h⟩
def freeI (L : List Nd) : Int := freeF (L.length + 2) L 1
theorem freeI_ok (L : List Nd) : IsFree L (freeI L) := freeF_ok _ _ _ (by omega) (fun j h1 h2 => by omega) (by omega)
theorem freeI_le (L : List Nd) : freeI L ≤ L.length + 1 := free_le (freeI_ok L).pos (freeI_ok L).all
def addB (L : List Nd) (t : Term) : List Nd := if hasT L t then L else L ++ [⟨freeI L, t, 0⟩]
def layB (L : List Nd) (l : List Term) : List Nd := l.foldl addB L
theorem layB_append (L : List Nd) (a b : List Term) : layB L (a ++ b) = layB (layB L a) b := by simp [layB]
theorem layB_mk (L : List Nd) (v : Int) (fn : ByteArray) (args : List Term) : layB L (Term.mk v fn args).parts = addB (layB L (partsL args)) (.mk v fn args) := by
 rw [Term.parts, layB_append]; rfl
theorem layB_cons (L : List Nd) (t : Term) (r : List Term) : layB L (partsL (t :: r)) = layB (layB L t.parts) (partsL r) := by rw [partsL, layB_append]
structure Bk (L : List Nd) : Prop where
 ids : (L.map (·.id)).Nodup
 pos : ∀ n ∈ L, 1 ≤ n.id
 ts : (L.map (·.t)).Nodup
 cl : ∀ n ∈ L, ∀ a ∈ n.t.args, hasT L a = true
 small : ∀ n ∈ L, n.t.args.length ≤ 16
 kept : ∀ n ∈ L, 0 ≤ n.kept
theorem Bk.nil : Bk [] := ⟨by simp, by simp, by simp, by simp, by simp, by simp⟩
theorem nodup_inj {α β : Type} {f : α → β} : ∀ {l : List α}, (l.map f).Nodup → ∀ {x y : α}, x ∈ l → y ∈ l → f x = f y → x = y
 | [], _, _, _, h, _, _ => by simp at h
 | a :: r, hn, x, y, hx, hy, e => by
  rw [List.map_cons] at hn
  obtain ⟨h1, h2⟩ := List.nodup_cons.1 hn
  rcases List.mem_cons.1 hx with hxa | hxr
  ·rcases List.mem_cons.1 hy with hya | hyr
   ·rw [hxa, hya]
   ·exact absurd (List.mem_map.2 ⟨y, hyr, by rw [← e, hxa]⟩) h1
  ·rcases List.mem_cons.1 hy with hya | hyr
   ·exact absurd (List.mem_map.2 ⟨x, hxr, by rw [e, hya]⟩) h1
   ·exact nodup_inj h2 hxr hyr e
theorem Bk.idOf {L : List Nd} (h : Bk L) {n : Nd} (hn : n ∈ L) : Am.idOf L n.t = n.id := by
 obtain ⟨m, hm, e, hi⟩ := idOf_mem (hasT_iff.2 ⟨n, hn, rfl⟩)
 rw [hi, nodup_inj h.ts hm hn e]
theorem Bk.id_inj {L : List Nd} (h : Bk L) {t u : Term} (ht : hasT L t = true) (hu : hasT L u = true) (e : Am.idOf L t = Am.idOf L u) : t = u := by
 obtain ⟨m, hm, rfl, hi⟩ := idOf_mem ht
 obtain ⟨n, hn, rfl, hj⟩ := idOf_mem hu
 rw [nodup_inj h.ids hm hn (by rw [← hi, ← hj, e])]
theorem Bk.ids_inj {L : List Nd} (h : Bk L) : ∀ {a b : List Term}, (∀ x ∈ a, hasT L x = true) → (∀ x ∈ b, hasT L x = true) → a.map (Am.idOf L) = b.map (Am.idOf L) → a = b
 | [], [], _, _, _ => rfl
 | [], _ :: _, _, _, e => by simp at e
 | _ :: _, [], _, _, e => by simp at e
 | x :: r, y :: s, ha, hb, e => by
  simp only [List.map_cons, List.cons.injEq] at e
  rw [h.id_inj (ha x (by simp)) (hb y (by simp)) e.1, h.ids_inj (fun z hz => ha z (by simp [hz])) (fun z hz => hb z (by simp [hz])) e.2]
theorem Bk.add {L : List Nd} (h : Bk L) {t : Term} (ht : ∀ a ∈ t.args, hasT L a = true) (h16 : t.args.length ≤ 16) : Bk (addB L t) := by
 unfold addB
 by_cases hh : hasT L t = true
 ·rw [if_pos hh]; exact h
 ·rw [if_neg hh]
  have hh2 : hasT L t = false := by simpa using hh
  have hf := freeI_ok L
  refine ⟨?_, ?_, ?_, ?_, ?_, ?_⟩
  ·rw [List.map_append, List.nodup_append]
   exact ⟨h.ids, by simp, fun a ha b hb => by
    simp only [List.map_cons, List.map_nil, List.mem_singleton] at hb
    subst hb
    obtain ⟨n, hn, rfl⟩ := List.mem_map.1 ha
    exact hasI_ff.1 hf.no n hn⟩
  ·intro n hn
   rcases List.mem_append.1 hn with hn | hn
   ·exact h.pos n hn
   ·simp only [List.mem_singleton] at hn; subst hn; exact hf.pos
  ·rw [List.map_append, List.nodup_append]
   exact ⟨h.ts, by simp, fun a ha b hb => by
    simp only [List.map_cons, List.map_nil, List.mem_singleton] at hb
    subst hb
    obtain ⟨n, hn, rfl⟩ := List.mem_map.1 ha
    exact hasT_ff.1 hh2 n hn⟩
  ·intro n hn a ha
   rcases List.mem_append.1 hn with hn | hn
   ·exact hasT_append (h.cl n hn a ha)
   ·simp only [List.mem_singleton] at hn; subst hn; exact hasT_append (ht a ha)
  ·intro n hn
   rcases List.mem_append.1 hn with hn | hn
   ·exact h.small n hn
   ·simp only [List.mem_singleton] at hn; subst hn; exact h16
  ·intro n hn
   rcases List.mem_append.1 hn with hn | hn
   ·exact h.kept n hn
   ·simp only [List.mem_singleton] at hn; subst hn; exact Int.le_refl _
theorem add_ext (L : List Nd) (t : Term) : ∃ M, addB L t = L ++ M ∧ ∀ n ∈ M, n.kept = 0 ∧ n.t = t := by
 unfold addB
 split
 ·exact ⟨[], by simp, by simp⟩
 ·exact ⟨_, rfl, by simp⟩
theorem add_has (L : List Nd) (t : Term) : hasT (addB L t) t = true := by
 unfold addB
 split
 ·assumption
 ·exact hasT_iff.2 ⟨⟨freeI L, t, 0⟩, by simp, rfl⟩
theorem lay_ext : ∀ (l : List Term) (L : List Nd), ∃ M, layB L l = L ++ M ∧ (∀ n ∈ M, n.kept = 0 ∧ n.t ∈ l) ∧ M.length ≤ l.length
 | [], L => ⟨[], by simp [layB], by simp, by simp⟩
 | t :: r, L => by
  obtain ⟨M1, h1, k1⟩ := add_ext L t
  obtain ⟨M2, h2, k2, l2⟩ := lay_ext r (addB L t)
  have hl : M1.length ≤ 1 := by
   have e : addB L t = L ++ M1 := h1
   unfold addB at e
   split at e
   ·have := congrArg List.length e; simp at this; simp [this]
   ·have := congrArg List.length e; simp at this; omega
  refine ⟨M1 ++ M2, ?_, ?_, ?_⟩
  ·show layB (addB L t) r = _
   rw [h2, h1, List.append_assoc]
  ·intro n hn
   rcases List.mem_append.1 hn with hn | hn
   ·exact ⟨(k1 n hn).1, by simp [(k1 n hn).2]⟩
   ·exact ⟨(k2 n hn).1, by simp [(k2 n hn).2]⟩
  ·simp only [List.length_append, List.length_cons]; omega
theorem lay_has {L : List Nd} {l : List Term} {t : Term} (h : hasT L t = true) : hasT (layB L l) t = true := by
 obtain ⟨M, e, _⟩ := lay_ext l L; rw [e]; exact hasT_append h
theorem lay_id {L : List Nd} {l : List Term} {t : Term} (h : hasT L t = true) : idOf (layB L l) t = idOf L t := by
 obtain ⟨M, e, _⟩ := lay_ext l L; rw [e]; exact idOf_append h
theorem lay_mem : ∀ (l : List Term) (L : List Nd) {t : Term}, t ∈ l → hasT (layB L l) t = true
 | [], _, _, h => by simp at h
 | x :: r, L, t, h => by
  show hasT (layB (addB L x) r) t = true
  rcases List.mem_cons.1 h with rfl | h
  ·exact lay_has (add_has L _)
  ·exact lay_mem r _ h
mutual
def Term.fits : Term → Prop
 | .mk _ _ args => args.length ≤ 16 ∧ fitsL args
def fitsL : List Term → Prop
 | [] => True
 | t :: r => t.fits ∧ fitsL r
end
theorem fitsL_mem : ∀ {l : List Term}, fitsL l → ∀ x ∈ l, x.fits
 | [], _, x, h => by simp at h
 | t :: r, h, x, hx => by
  rcases List.mem_cons.1 hx with rfl | hx
  ·exact h.1
  ·exact fitsL_mem h.2 x hx
theorem fitsL_of : ∀ {l : List Term}, (∀ x ∈ l, x.fits) → fitsL l
 | [], _ => trivial
 | t :: r, h => ⟨h t (by simp), fitsL_of fun x hx => h x (by simp [hx])⟩
theorem shape_fits (t : Term) : t.shapeB = true → t.fits := by
 refine Term.ind (p := fun t => t.shapeB = true → t.fits) (fun v fn args ih h => ?_) t
 simp only [Term.shapeB, Bool.and_eq_true] at h
 refine ⟨?_, fitsL_of fun x hx => ih x hx (shapeBL_mem' h.2 x hx)⟩
 have := h.1
 unfold rightB at this
 split at this
 ·simp at this; simp [this.2]
 ·simp at this; omega
theorem Bk.layL (l : List Term) (ih : ∀ x ∈ l, ∀ L, Bk L → Bk (layB L x.parts)) : ∀ L, Bk L → Bk (layB L (partsL l)) := by
 induction l with
 | nil => intro L h; exact h
 | cons t r ihr =>
  intro L h
  rw [layB_cons]
  exact ihr (fun x hx => ih x (by simp [hx])) _ (ih t (by simp) L h)
theorem Bk.lay (t : Term) : t.fits → ∀ L, Bk L → Bk (layB L t.parts) := by
 refine Term.ind (p := fun t => t.fits → ∀ L, Bk L → Bk (layB L t.parts)) (fun v fn args ih hf L h => ?_) t
 rw [layB_mk]
 refine (Bk.layL args (fun x hx L hL => ih x hx (fitsL_mem hf.2 x hx) L hL) L h).add (fun a ha => ?_) hf.1
 exact lay_mem _ _ (partsL_mem ha (parts_self a))
def gr (L : List Nd) : List Gn := L.map fun n => ⟨n.id, n.t.v, n.t.fn, n.t.args.map (idOf L)⟩
def upG (G : List Gn) (i : Int) : Nat := (G.flatMap (·.ar)).count i
def kpL (L : List Nd) (i : Int) : Int := match L.find? (fun n => decide (n.id = i)) with | some n => n.kept | none => 0
structure GOk (G : List Gn) : Prop where
 ids : (G.map (·.id)).Nodup
 cl : ∀ g ∈ G, ∀ a ∈ g.ar, ∃ m ∈ G, m.id = a
 small : ∀ g ∈ G, g.ar.length ≤ 16
theorem gr_len (L : List Nd) : (gr L).length = L.length := by simp [gr]
theorem gr_ids (L : List Nd) : (gr L).map (·.id) = L.map (·.id) := by simp [gr, List.map_map]
theorem Bk.g {L : List Nd} (h : Bk L) : GOk (gr L) := by
 refine ⟨by rw [gr_ids]; exact h.ids, ?_, ?_⟩
 ·intro g hg a ha
  obtain ⟨n, hn, rfl⟩ := List.mem_map.1 hg
  obtain ⟨x, hx, rfl⟩ := List.mem_map.1 ha
  obtain ⟨m, hm, e, hi⟩ := idOf_mem (h.cl n hn x hx)
  exact ⟨_, List.mem_map.2 ⟨m, hm, rfl⟩, hi.symm⟩
 ·intro g hg
  obtain ⟨n, hn, rfl⟩ := List.mem_map.1 hg
  simpa using h.small n hn
theorem Bk.gr_add {L : List Nd} (h : Bk L) {t : Term} (hh : hasT L t = false) : gr (addB L t) = gr L ++ [⟨freeI L, t.v, t.fn, t.args.map (Am.idOf (addB L t))⟩] := by
 unfold addB
 rw [if_neg (by simp [hh])]
 unfold gr
 rw [List.map_append]
 congr 1
 refine List.map_congr_left fun n hn => ?_
 congr 1
 exact List.map_congr_left fun a ha => idOf_append (h.cl n hn a ha)
theorem add_args {L : List Nd} {t : Term} (ht : ∀ a ∈ t.args, hasT L a = true) : t.args.map (idOf (addB L t)) = t.args.map (idOf L) := by
 obtain ⟨M, e, _⟩ := add_ext L t
 rw [e]
 exact List.map_congr_left fun a ha => idOf_append (ht a ha)
theorem Bk.key {L : List Nd} (h : Bk L) {t : Term} (ht : ∀ a ∈ t.args, hasT L a = true) {n : Nd} (hn : n ∈ L) : (n.t.v = t.v ∧ n.t.fn = t.fn ∧ n.t.args.map (Am.idOf L) = t.args.map (Am.idOf L)) ↔ n.t = t := by
 constructor
 ·rintro ⟨h1, h2, h3⟩
  have := h.ids_inj (h.cl n hn) ht h3
  generalize n.t = u at *
  obtain ⟨v, fn, args⟩ := t
  obtain ⟨v2, fn2, args2⟩ := u
  simp only [Term.v, Term.fn, Term.args] at *
  rw [h1, h2, this]
 ·rintro rfl; exact ⟨rfl, rfl, rfl⟩
theorem Bk.up {L : List Nd} (h : Bk L) {n : Nd} (hn : n ∈ L) : 0 < upG (gr L) n.id ↔ ∃ m ∈ L, n.t ∈ m.t.args := by
 unfold upG
 rw [List.count_pos_iff, List.mem_flatMap]
 constructor
 ·rintro ⟨g, hg, hi⟩
  obtain ⟨m, hm, rfl⟩ := List.mem_map.1 hg
  obtain ⟨a, ha, e⟩ := List.mem_map.1 hi
  refine ⟨m, hm, ?_⟩
  rw [← h.idOf hn] at e
  rw [← h.id_inj (h.cl m hm a ha) (hasT_iff.2 ⟨n, hn, rfl⟩) e]
  exact ha
 ·rintro ⟨m, hm, ha⟩
  exact ⟨_, List.mem_map.2 ⟨m, hm, rfl⟩, List.mem_map.2 ⟨n.t, ha, h.idOf hn⟩⟩
def loose (G : List Gn) (kp : Int → Int) (i : Int) : Prop := upG G i = 0 ∧ (∃ g ∈ G, g.id = i) ∧ kp i = 0
theorem Bk.kp {L : List Nd} (h : Bk L) {n : Nd} (hn : n ∈ L) : kpL L n.id = n.kept := by
 unfold kpL
 cases e : L.find? (fun m => decide (m.id = n.id)) with
 | none => rw [List.find?_eq_none] at e; exact absurd (by simp) (e n hn)
 | some m =>
  have h1 := List.mem_of_find?_eq_some e
  have h2 := List.find?_some e
  simp only [decide_eq_true_eq] at h2
  show m.kept = n.kept
  rw [nodup_inj h.ids h1 hn h2]
theorem kp_append {L M : List Nd} (h : ∀ n ∈ M, n.kept = 0) (i : Int) : kpL (L ++ M) i = kpL L i := by
 unfold kpL
 rw [List.find?_append]
 cases L.find? (fun m => decide (m.id = i)) with
 | some n => rfl
 | none =>
  show (match M.find? (fun m => decide (m.id = i)) with | some n => n.kept | none => 0) = 0
  cases e : M.find? (fun m => decide (m.id = i)) with
  | none => rfl
  | some m => exact h m (List.mem_of_find?_eq_some e)
def needed (L : List Nd) (n : Nd) : Bool := L.any fun m => decide (m.kept > 0) && m.t.parts.any fun x => x.sameB n.t
theorem needed_iff {L : List Nd} {n : Nd} : needed L n = true ↔ ∃ m ∈ L, 0 < m.kept ∧ n.t ∈ m.t.parts := by
 simp only [needed, List.any_eq_true, Bool.and_eq_true, decide_eq_true_eq, sameB_eq]
 constructor
 ·rintro ⟨m, hm, h1, x, hx, rfl⟩; exact ⟨m, hm, h1, hx⟩
 ·rintro ⟨m, hm, h1, hx⟩; exact ⟨m, hm, h1, _, hx, rfl⟩
def Held (L : List Nd) : Prop := ∀ n ∈ L, 0 < n.kept ∨ ∃ m ∈ L, n.t ∈ m.t.args
theorem live_needed {L : List Nd} (h : Held L) : ∀ n ∈ L, needed L n = true := by
 obtain ⟨B, hB⟩ : ∃ B, ∀ n ∈ L, n.t.size ≤ B := by
  clear h
  induction L with
  | nil => exact ⟨0, by simp⟩
  | cons a r ih =>
   obtain ⟨B, hB⟩ := ih
   refine ⟨B + a.t.size, fun n hn => ?_⟩
   rcases List.mem_cons.1 hn with rfl | hn
   ·omega
   ·have := hB n hn; omega
 have key : ∀ k, ∀ n ∈ L, B - n.t.size ≤ k → needed L n = true := by
  intro k
  induction k with
  | zero =>
   intro n hn hk
   rcases h n hn with h0 | ⟨m, hm, ha⟩
   ·exact needed_iff.2 ⟨n, hn, h0, parts_self _⟩
   ·have := args_size ha; have := hB m hm; omega
  | succ k ih =>
   intro n hn hk
   rcases h n hn with h0 | ⟨m, hm, ha⟩
   ·exact needed_iff.2 ⟨n, hn, h0, parts_self _⟩
   ·have h1 := args_size ha
    have h2 := hB m hm
    obtain ⟨p, hp, hp0, hpm⟩ := needed_iff.1 (ih m hm (by omega))
    exact needed_iff.2 ⟨p, hp, hp0, parts_args _ hpm ha⟩
 exact fun n hn => key _ n hn (Nat.le_refl _)
theorem Bk.parts {L : List Nd} (h : Bk L) (t : Term) : hasT L t = true → ∀ x ∈ t.parts, hasT L x = true := by
 refine Term.ind (p := fun t => hasT L t = true → ∀ x ∈ t.parts, hasT L x = true) (fun v fn args ih ht x hx => ?_) t
 rcases parts_iff.1 hx with rfl | ⟨a, ha, hx⟩
 ·exact ht
 ·obtain ⟨n, hn, e⟩ := hasT_iff.1 ht
  refine ih a ha (h.cl n hn a ?_) x hx
  rw [e]; exact ha
theorem sweep_needed {L : List Nd} (h : Bk L) {keep : Nd → Bool} (hk : ∀ n ∈ L, keep n = false → n.kept = 0) (hc : ∀ n ∈ L, keep n = true → ∀ a ∈ n.t.args, ∃ m ∈ L, keep m = true ∧ m.t = a)
  (hz : ∀ n ∈ L, keep n = true → n.kept = 0 → ∃ m ∈ L, keep m = true ∧ n.t ∈ m.t.args) : L.filter keep = L.filter (needed L) := by
 have hL : Held (L.filter keep) := by
  intro n hn
  obtain ⟨hn, h1⟩ := List.mem_filter.1 hn
  have := h.kept n hn
  by_cases h0 : n.kept = 0
  ·obtain ⟨m, hm, h2, h3⟩ := hz n hn h1 h0
   exact .inr ⟨m, List.mem_filter.2 ⟨hm, h2⟩, h3⟩
  ·exact .inl (by omega)
 have hP : ∀ t : Term, (∃ m ∈ L, keep m = true ∧ m.t = t) → ∀ x ∈ t.parts, ∃ m ∈ L, keep m = true ∧ m.t = x := by
  intro t
  refine Term.ind (p := fun t => (∃ m ∈ L, keep m = true ∧ m.t = t) → ∀ x ∈ t.parts, ∃ m ∈ L, keep m = true ∧ m.t = x) (fun v fn args ih ht x hx => ?_) t
  rcases parts_iff.1 hx with rfl | ⟨a, ha, hx⟩
  ·exact ht
  ·obtain ⟨n, hn, h1, e⟩ := ht
   exact ih a ha (hc n hn h1 a (by rw [e]; exact ha)) x hx
 refine List.filter_congr fun n hn => ?_
 rw [Bool.eq_iff_iff]
 constructor
 ·intro h1
  obtain ⟨m, hm, h2, h3⟩ := needed_iff.1 (live_needed hL n (List.mem_filter.2 ⟨hn, h1⟩))
  exact needed_iff.2 ⟨m, (List.mem_filter.1 hm).1, h2, h3⟩
 ·intro h1
  obtain ⟨m, hm, h2, h3⟩ := needed_iff.1 h1
  have hkm : keep m = true := by
   cases e : keep m with
   | true => rfl
   | false => have := hk m hm e; omega
  obtain ⟨p, hp, h4, h5⟩ := hP m.t ⟨m, hm, hkm, rfl⟩ n.t h3
  rw [← nodup_inj h.ts hp hn h5]; exact h4
theorem Bk.filter {L : List Nd} (h : Bk L) {keep : Nd → Bool} (hc : ∀ n ∈ L, keep n = true → ∀ a ∈ n.t.args, ∃ m ∈ L, keep m = true ∧ m.t = a) : Bk (L.filter keep) := by
 refine ⟨h.ids.sublist (List.Sublist.map _ List.filter_sublist), fun n hn => h.pos n (List.mem_filter.1 hn).1, h.ts.sublist (List.Sublist.map _ List.filter_sublist), fun n hn a ha => ?_, fun n hn => h.small n (List.mem_filter.1 hn).1, fun n hn => h.kept n (List.mem_filter.1 hn).1⟩
 obtain ⟨hn, h1⟩ := List.mem_filter.1 hn
 obtain ⟨m, hm, h2, e⟩ := hc n hn h1 a ha
 exact hasT_iff.2 ⟨m, List.mem_filter.2 ⟨hm, h2⟩, e⟩
theorem Bk.idOf_filter {L : List Nd} (h : Bk L) {keep : Nd → Bool} {t : Term} (hh : ∃ m ∈ L, keep m = true ∧ m.t = t) : Am.idOf (L.filter keep) t = Am.idOf L t := by
 obtain ⟨m, hm, h2, rfl⟩ := hh
 have hx : m ∈ L.filter keep := List.mem_filter.2 ⟨hm, h2⟩
 obtain ⟨p, hp, e, hi⟩ := idOf_mem (hasT_iff.2 ⟨m, hx, rfl⟩)
 rw [hi, h.idOf hm, nodup_inj h.ts (List.mem_filter.1 hp).1 hm e]
theorem Bk.gr_filter {L : List Nd} (h : Bk L) {p : Int → Bool} (hc : ∀ n ∈ L, p n.id = true → ∀ a ∈ n.t.args, ∃ m ∈ L, p m.id = true ∧ m.t = a) : gr (L.filter fun n => p n.id) = (gr L).filter fun g => p g.id := by
 unfold gr
 rw [List.filter_map]
 show _ = List.map _ (L.filter fun n => p n.id)
 refine List.map_congr_left fun n hn => ?_
 obtain ⟨hn, h1⟩ := List.mem_filter.1 hn
 congr 1
 exact List.map_congr_left fun a ha => h.idOf_filter (keep := fun n => p n.id) (hc n hn h1 a ha)
end Go.Proofs.Ytiafeijkifpfaaa.Am

/-
 A bank of terms as mathematics: what a sweep takes away. No condition.
-/
namespace Go.Proofs.Ytiafeijkifpfaaa.Am
open Go Go.Proofs
set_option linter.unusedSimpArgs false
set_option linter.unusedVariables false
theorem upG_append (G M : List Gn) (i : Int) : upG (G ++ M) i = upG G i + upG M i := by simp [upG]
theorem upG_one (g : Gn) (i : Int) : upG [g] i = g.ar.count i := by simp [upG]
theorem upG_cons (g : Gn) (G : List Gn) (i : Int) : upG (g :: G) i = g.ar.count i + upG G i := by simp [upG]
theorem upG_le {G : List Gn} (h : ∀ g ∈ G, g.ar.length ≤ 16) (i : Int) : upG G i ≤ 16 * G.length := by
 induction G with
 | nil => simp [upG]
 | cons g r ih =>
  have := ih fun x hx => h x (by simp [hx])
  have h1 := h g (by simp)
  have h2 : g.ar.count i ≤ g.ar.length := List.count_le_length
  rw [upG_cons, List.length_cons]; omega
def delG (G : List Gn) (i : Int) : List Gn := G.filter fun g => decide (g.id ≠ i)
theorem delG_no : ∀ {G : List Gn} {i : Int}, (∀ g ∈ G, g.id ≠ i) → delG G i = G := fun h => List.filter_eq_self.2 fun g hg => by simpa using h g hg
theorem delG_mem {G : List Gn} {i : Int} {g : Gn} : g ∈ delG G i ↔ g ∈ G ∧ g.id ≠ i := by simp [delG]
theorem upG_del {i : Int} {x : Gn} : ∀ {G : List Gn}, (G.map (·.id)).Nodup → x ∈ G → x.id = i → ∀ j, upG (delG G i) j + x.ar.count j = upG G j
 | [], _, hx, _, _ => by simp at hx
 | g :: r, hn, hx, e, j => by
  rw [List.map_cons] at hn
  obtain ⟨h1, h2⟩ := List.nodup_cons.1 hn
  rcases List.mem_cons.1 hx with rfl | hx
  ·have h3 : ∀ g ∈ r, g.id ≠ i := fun g hg e2 => h1 (List.mem_map.2 ⟨g, hg, by rw [e2, e]⟩)
   have h4 : delG (x :: r) i = r := by
    show (x :: r).filter _ = r
    rw [List.filter_cons_of_neg (by simp [e])]
    exact delG_no h3
   rw [h4, upG_cons]; omega
  ·have h3 : g.id ≠ i := fun e2 => h1 (List.mem_map.2 ⟨x, hx, by rw [e, e2]⟩)
   have h4 : delG (g :: r) i = g :: delG r i := List.filter_cons_of_pos (by simp [h3])
   have := upG_del h2 hx e j
   rw [h4, upG_cons, upG_cons]; omega
theorem delG_len {i : Int} {x : Gn} : ∀ {G : List Gn}, (G.map (·.id)).Nodup → x ∈ G → x.id = i → (delG G i).length + 1 = G.length
 | [], _, hx, _ => by simp at hx
 | g :: r, hn, hx, e => by
  rw [List.map_cons] at hn
  obtain ⟨h1, h2⟩ := List.nodup_cons.1 hn
  rcases List.mem_cons.1 hx with rfl | hx
  ·have h3 : ∀ g ∈ r, g.id ≠ i := fun g hg e2 => h1 (List.mem_map.2 ⟨g, hg, by rw [e2, e]⟩)
   have h4 : delG (x :: r) i = r := by
    show (x :: r).filter _ = r
    rw [List.filter_cons_of_neg (by simp [e])]
    exact delG_no h3
   rw [h4, List.length_cons]
  ·have h3 : g.id ≠ i := fun e2 => h1 (List.mem_map.2 ⟨x, hx, by rw [e, e2]⟩)
   have h4 : delG (g :: r) i = g :: delG r i := List.filter_cons_of_pos (by simp [h3])
   have := delG_len h2 hx e
   rw [h4, List.length_cons, List.length_cons]; omega
theorem upG_pos {G : List Gn} {i : Int} : 0 < upG G i ↔ ∃ g ∈ G, i ∈ g.ar := by
 unfold upG
 rw [List.count_pos_iff, List.mem_flatMap]
theorem GOk.del {G : List Gn} (h : GOk G) {i : Int} (hi : upG G i = 0) : GOk (delG G i) := by
 refine ⟨h.ids.sublist (List.Sublist.map _ List.filter_sublist), fun g hg a ha => ?_, fun g hg => h.small g (delG_mem.1 hg).1⟩
 have hg2 := (delG_mem.1 hg).1
 obtain ⟨m, hm, e⟩ := h.cl g hg2 a ha
 refine ⟨m, delG_mem.2 ⟨hm, fun e2 => ?_⟩, e⟩
 have : 0 < upG G i := upG_pos.2 ⟨g, hg2, by rw [← e2, e]; exact ha⟩
 omega
def swp (kp : Int → Int) : Nat → List Gn → Int → List Gn
 | 0, G, _ => G
 | f + 1, G, i => match G.find? (fun g => decide (g.id = i)) with
  | none => G
  | some x => if kp i > 0 ∨ upG G i > 0 then G else x.ar.foldl (swp kp f) (delG G i)
structure Swept (kp : Int → Int) (G G' : List Gn) (is : List Int) : Prop where
 ok : GOk G'
 fil : ∃ p : Int → Bool, G' = G.filter (fun g => p g.id) ∧ ∀ g ∈ G, p g.id = false → kp g.id ≤ 0
 lse : ∀ j, loose G' kp j → loose G kp j ∧ j ∉ is
theorem Swept.len {kp : Int → Int} {G G' : List Gn} {is : List Int} (h : Swept kp G G' is) : G'.length ≤ G.length := by
 obtain ⟨p, e, _⟩ := h.fil
 rw [e]; exact List.length_filter_le _ _
theorem Swept.refl {kp : Int → Int} {G : List Gn} (h : GOk G) : Swept kp G G [] :=
 ⟨h, ⟨fun _ => true, (List.filter_eq_self.2 fun _ _ => rfl).symm, fun _ _ h => by cases h⟩, fun j hj => ⟨hj, by simp⟩⟩
theorem Swept.trans {kp : Int → Int} {G G' G'' : List Gn} {is js : List Int} (h : Swept kp G G' is) (k : Swept kp G' G'' js) : Swept kp G G'' (is ++ js) := by
 obtain ⟨p, e1, h1⟩ := h.fil
 obtain ⟨q, e2, h2⟩ := k.fil
 refine ⟨k.ok, ⟨fun i => p i && q i, ?_, fun g hg hp => ?_⟩, fun j hj => ?_⟩
 ·rw [e2, e1, List.filter_filter]
  exact List.filter_congr fun g _ => Bool.and_comm _ _
 ·by_cases hpg : p g.id = true
  ·exact h2 g (by rw [e1]; exact List.mem_filter.2 ⟨hg, hpg⟩) (by simpa [hpg] using hp)
  ·exact h1 g hg (by simpa using hpg)
 ·obtain ⟨a, b⟩ := k.lse j hj
  obtain ⟨c, d⟩ := h.lse j a
  exact ⟨c, by simp [b, d]⟩
theorem swp_ok (kp : Int → Int) : ∀ (f : Nat) (G : List Gn) (i : Int), G.length < f → GOk G → Swept kp G (swp kp f G i) [i]
 | 0, G, i, hl, h => by omega
 | f + 1, G, i, hl, h => by
  unfold swp
  cases e : G.find? (fun g => decide (g.id = i)) with
  | none =>
   rw [List.find?_eq_none] at e
   refine ⟨h, (Swept.refl h).fil, fun j hj => ⟨hj, fun hm => ?_⟩⟩
   obtain ⟨_, ⟨g, hg, e2⟩, _⟩ := hj
   rw [List.mem_singleton] at hm
   exact e g hg (by simp [e2, hm])
  | some x =>
   have hx := List.mem_of_find?_eq_some e
   have hxi : x.id = i := by simpa using List.find?_some e
   by_cases hc : kp i > 0 ∨ upG G i > 0
   ·simp only [if_pos hc]
    refine ⟨h, (Swept.refl h).fil, fun j hj => ⟨hj, fun hm => ?_⟩⟩
    rw [List.mem_singleton] at hm
    obtain ⟨h1, _, h3⟩ := hj
    rw [hm] at h1 h3; omega
   ·simp only [if_neg hc]
    have hu : upG G i = 0 := by omega
    have hk : kp i ≤ 0 := by omega
    have hd := h.del hu
    have hlen := delG_len h.ids hx hxi
    have key : ∀ (l : List Int) (G0 : List Gn), G0.length < f → GOk G0 → Swept kp G0 (l.foldl (swp kp f) G0) l := by
     intro l
     induction l with
     | nil => intro G0 _ h0; exact Swept.refl h0
     | cons a r ih =>
      intro G0 hl0 h0
      have h1 := swp_ok kp f G0 a hl0 h0
      have h2 := ih (swp kp f G0 a) (by have := h1.len; omega) h1.ok
      exact h1.trans h2
    have hs := key x.ar (delG G i) (by omega) hd
    obtain ⟨p, e1, h1⟩ := hs.fil
    refine ⟨hs.ok, ⟨fun j => decide (j ≠ i) && p j, ?_, fun g hg hp => ?_⟩, fun j hj => ?_⟩
    ·rw [e1, delG, List.filter_filter]
     exact List.filter_congr fun g _ => Bool.and_comm _ _
    ·by_cases hgi : g.id = i
     ·rw [hgi]; exact hk
     ·exact h1 g (delG_mem.2 ⟨hg, hgi⟩) (by simpa [hgi] using hp)
    ·obtain ⟨⟨l1, ⟨g, hg, hgj⟩, l3⟩, h4⟩ := hs.lse j hj
     have hup := upG_del h.ids hx hxi j
     have h0 : x.ar.count j = 0 := List.count_eq_zero.2 h4
     obtain ⟨hg1, hg2⟩ := delG_mem.1 hg
     exact ⟨⟨by omega, ⟨g, hg1, hgj⟩, l3⟩, by simp; exact fun e => hg2 (by rw [hgj, e])⟩
def LooseOnly (L : List Nd) (i : Int) : Prop := ∀ j, loose (gr L) (kpL L) j → j = i
theorem swept_bank {L : List Nd} (h : Bk L) {i : Int} {G' : List Gn} (hs : Swept (kpL L) (gr L) G' [i]) (hl : LooseOnly L i) : G' = gr (L.filter (needed L)) := by
 obtain ⟨p, e, hp⟩ := hs.fil
 have hc : ∀ n ∈ L, p n.id = true → ∀ a ∈ n.t.args, ∃ m ∈ L, p m.id = true ∧ m.t = a := by
  intro n hn hpn a ha
  have hg : (⟨n.id, n.t.v, n.t.fn, n.t.args.map (idOf L)⟩ : Gn) ∈ G' := by
   rw [e]; exact List.mem_filter.2 ⟨List.mem_map.2 ⟨n, hn, rfl⟩, hpn⟩
  obtain ⟨g, hg2, e2⟩ := hs.ok.cl _ hg (idOf L a) (List.mem_map.2 ⟨a, ha, rfl⟩)
  rw [e] at hg2
  obtain ⟨hg3, hg4⟩ := List.mem_filter.1 hg2
  obtain ⟨m, hm, rfl⟩ := List.mem_map.1 hg3
  refine ⟨m, hm, hg4, h.id_inj (hasT_iff.2 ⟨m, hm, rfl⟩) (h.cl n hn a ha) ?_⟩
  rw [h.idOf hm]; exact e2
 have hk : ∀ n ∈ L, p n.id = false → n.kept = 0 := by
  intro n hn hpn
  have h1 := hp _ (List.mem_map.2 ⟨n, hn, rfl⟩) hpn
  simp only [h.kp hn] at h1
  have := h.kept n hn; omega
 have hz : ∀ n ∈ L, p n.id = true → n.kept = 0 → ∃ m ∈ L, p m.id = true ∧ n.t ∈ m.t.args := by
  intro n hn hpn h0
  by_cases hx : ∃ m ∈ L, p m.id = true ∧ n.t ∈ m.t.args
  ·exact hx
  ·exfalso
   have hg : (⟨n.id, n.t.v, n.t.fn, n.t.args.map (idOf L)⟩ : Gn) ∈ G' := by
    rw [e]; exact List.mem_filter.2 ⟨List.mem_map.2 ⟨n, hn, rfl⟩, hpn⟩
   have hlo : loose G' (kpL L) n.id := by
    refine ⟨?_, ⟨_, hg, rfl⟩, by rw [h.kp hn]; exact h0⟩
    rcases Nat.eq_zero_or_pos (upG G' n.id) with h1 | h1
    ·exact h1
    ·exfalso
     obtain ⟨g, hg1, hg2⟩ := upG_pos.1 h1
     rw [e] at hg1
     obtain ⟨hg3, hg4⟩ := List.mem_filter.1 hg1
     obtain ⟨m, hm, rfl⟩ := List.mem_map.1 hg3
     obtain ⟨a, ha, e2⟩ := List.mem_map.1 hg2
     rw [← h.idOf hn] at e2
     rw [h.id_inj (h.cl m hm a ha) (hasT_iff.2 ⟨n, hn, rfl⟩) e2] at ha
     exact hx ⟨m, hm, hg4, ha⟩
   obtain ⟨h1, h2⟩ := hs.lse _ hlo
   exact h2 (by simp [hl _ h1])
 have h1 := sweep_needed h (keep := fun n => p n.id) hk hc hz
 rw [e, ← h.gr_filter hc, h1]
theorem needed_live {L : List Nd} (h : Bk L) : Held (L.filter (needed L)) := by
 intro n hn
 obtain ⟨hn1, hn2⟩ := List.mem_filter.1 hn
 obtain ⟨m, hm, h0, hp⟩ := needed_iff.1 hn2
 rcases parts_up m.t hp with e | ⟨z, hz, ha⟩
 ·exact .inl (by rw [nodup_inj h.ts hn1 hm e]; exact h0)
 ·obtain ⟨q, hq, rfl⟩ := hasT_iff.1 (h.parts m.t (hasT_iff.2 ⟨m, hm, rfl⟩) z hz)
  exact .inr ⟨q, List.mem_filter.2 ⟨hq, needed_iff.2 ⟨m, hm, h0, hz⟩⟩, ha⟩
theorem Bk.needed {L : List Nd} (h : Bk L) : Bk (L.filter (needed L)) := by
 refine h.filter fun n hn hk a ha => ?_
 obtain ⟨m, hm, h0, hp⟩ := needed_iff.1 hk
 obtain ⟨q, hq, rfl⟩ := hasT_iff.1 (h.cl n hn a ha)
 exact ⟨q, hq, needed_iff.2 ⟨m, hm, h0, parts_args m.t hp ha⟩, rfl⟩
theorem lay_loose {L : List Nd} (h : Bk L) (hl : Held L) {t : Term} (hf : t.fits) : LooseOnly (layB L t.parts) (idOf (layB L t.parts) t) := by
 have h1 := Bk.lay t hf L h
 obtain ⟨M, e, hM, _⟩ := lay_ext t.parts L
 rintro j ⟨hu, ⟨g, hg, rfl⟩, h0⟩
 obtain ⟨n, hn, rfl⟩ := List.mem_map.1 hg
 simp only at hu h0 ⊢
 rw [h1.kp hn] at h0
 have hno : ∀ m ∈ layB L t.parts, n.t ∉ m.t.args := fun m hm ha => by
  have := (h1.up hn).2 ⟨m, hm, ha⟩; omega
 rw [e] at hn
 rcases List.mem_append.1 hn with hn | hn
 ·rcases hl n hn with h2 | ⟨m, hm, h2⟩
  ·omega
  ·exact absurd h2 (hno m (by rw [e]; exact List.mem_append_left _ hm))
 ·rcases parts_up t (hM n hn).2 with h2 | ⟨z, hz, h2⟩
  ·have hb : Bk (L ++ M) := e ▸ h1
   have hid := hb.idOf (List.mem_append_right _ hn)
   rw [e, ← hid, h2]
  ·obtain ⟨q, hq, rfl⟩ := hasT_iff.1 (lay_mem t.parts L hz)
   exact absurd h2 (hno q hq)
theorem lay_back {L : List Nd} (h : Bk L) (hl : Held L) {t : Term} (hf : t.fits) : (layB L t.parts).filter (needed (layB L t.parts)) = L := by
 have h1 := Bk.lay t hf L h
 obtain ⟨M, e, hM, _⟩ := lay_ext t.parts L
 rw [e] at h1 ⊢
 rw [List.filter_append, List.filter_eq_self.2 fun n hn => ?_, List.filter_eq_nil_iff.2 fun n hn => ?_, List.append_nil]
 ·rw [needed_iff]
  rintro ⟨m, hm, h2, h3⟩
  rcases List.mem_append.1 hm with hm | hm
  ·obtain ⟨q, hq, e2⟩ := hasT_iff.1 (h.parts m.t (hasT_iff.2 ⟨m, hm, rfl⟩) n.t h3)
   have h4 := h1.ts
   rw [List.map_append, List.nodup_append] at h4
   exact h4.2.2 q.t (List.mem_map.2 ⟨q, hq, rfl⟩) n.t (List.mem_map.2 ⟨n, hn, rfl⟩) e2
  ·have := (hM m hm).1; omega
 ·obtain ⟨m, hm, h2, h3⟩ := needed_iff.1 (live_needed hl n hn)
  exact needed_iff.2 ⟨m, List.mem_append_left _ hm, h2, h3⟩
def bump (L : List Nd) (t : Term) (d : Int) : List Nd := L.map fun n => if n.t.sameB t then ⟨n.id, n.t, n.kept + d⟩ else n
theorem bump_ids (L : List Nd) (t : Term) (d : Int) : (bump L t d).map (·.id) = L.map (·.id) := by
 rw [bump, List.map_map]; refine List.map_congr_left fun n _ => ?_
 simp only [Function.comp]; split <;> rfl
theorem bump_ts (L : List Nd) (t : Term) (d : Int) : (bump L t d).map (·.t) = L.map (·.t) := by
 rw [bump, List.map_map]; refine List.map_congr_left fun n _ => ?_
 simp only [Function.comp]; split <;> rfl
theorem bump_len (L : List Nd) (t : Term) (d : Int) : (bump L t d).length = L.length := by simp [bump]
theorem bump_find (L : List Nd) (t : Term) (d : Int) (u : Term) : idOf (bump L t d) u = idOf L u := by
 unfold idOf bump
 rw [List.find?_map]
 have : ((fun n : Nd => n.t.sameB u) ∘ fun (n : Nd) => if n.t.sameB t then ⟨n.id, n.t, n.kept + d⟩ else n) = fun n => n.t.sameB u := by
  funext n; simp only [Function.comp]; split <;> rfl
 rw [this]
 cases L.find? (fun n => n.t.sameB u) with
 | none => rfl
 | some n => simp only [Option.map_some]; split <;> rfl
theorem bump_has (L : List Nd) (t : Term) (d : Int) (u : Term) : hasT (bump L t d) u = hasT L u := by
 unfold hasT bump
 rw [List.any_map]
 congr 1
 funext n; simp only [Function.comp]; split <;> rfl
theorem bump_gr (L : List Nd) (t : Term) (d : Int) : gr (bump L t d) = gr L := by
 unfold gr
 have : idOf (bump L t d) = idOf L := funext fun u => bump_find L t d u
 rw [this, bump, List.map_map]
 refine List.map_congr_left fun n _ => ?_
 simp only [Function.comp]; split <;> rfl
theorem bump_mem {L : List Nd} {t : Term} {d : Int} {n : Nd} (h : n ∈ bump L t d) : ∃ m ∈ L, m.id = n.id ∧ m.t = n.t ∧ (m.t = t → n.kept = m.kept + d) ∧ (m.t ≠ t → n.kept = m.kept) := by
 obtain ⟨m, hm, rfl⟩ := List.mem_map.1 h
 refine ⟨m, hm, ?_⟩
 by_cases e : m.t = t
 ·have : m.t.sameB t = true := (sameB_eq _ _).2 e
  rw [if_pos this]; exact ⟨rfl, rfl, fun _ => rfl, fun h => absurd e h⟩
 ·have : m.t.sameB t = false := sameB_ff.2 e
  simp [this, e]
theorem mem_bump {L : List Nd} (t : Term) (d : Int) {m : Nd} (h : m ∈ L) : ∃ n ∈ bump L t d, n.id = m.id ∧ n.t = m.t ∧ (m.t = t → n.kept = m.kept + d) ∧ (m.t ≠ t → n.kept = m.kept) := by
 refine ⟨_, List.mem_map.2 ⟨m, h, rfl⟩, ?_⟩
 by_cases e : m.t = t
 ·have : m.t.sameB t = true := (sameB_eq _ _).2 e
  rw [if_pos this]; exact ⟨rfl, rfl, fun _ => rfl, fun h => absurd e h⟩
 ·have : m.t.sameB t = false := sameB_ff.2 e
  simp [this, e]
theorem Bk.bump {L : List Nd} (h : Bk L) {t : Term} {d : Int} (hd : ∀ n ∈ L, n.t = t → 0 ≤ n.kept + d) : Bk (bump L t d) := by
 refine ⟨by rw [bump_ids]; exact h.ids, fun n hn => ?_, by rw [bump_ts]; exact h.ts, fun n hn a ha => ?_, fun n hn => ?_, fun n hn => ?_⟩ <;> obtain ⟨m, hm, e1, e2, e3, e4⟩ := bump_mem hn
 ·rw [← e1]; exact h.pos m hm
 ·rw [bump_has]; rw [← e2] at ha; exact h.cl m hm a ha
 ·rw [← e2]; exact h.small m hm
 ·by_cases e : m.t = t
  ·rw [e3 e]; exact hd m hm e
  ·rw [e4 e]; exact h.kept m hm
theorem Bk.kp_bump {L : List Nd} (h : Bk L) (t : Term) (d : Int) (hb : Bk (Am.bump L t d)) {n : Nd} (hn : n ∈ L) : (n.t = t → kpL (Am.bump L t d) n.id = n.kept + d) ∧ (n.t ≠ t → kpL (Am.bump L t d) n.id = n.kept) := by
 obtain ⟨m, hm, e1, e2, e3, e4⟩ := mem_bump t d hn
 rw [← e1, hb.kp hm]
 exact ⟨e3, e4⟩
theorem lay_live {L : List Nd} (h : Bk L) (hl : Held L) {t : Term} (hf : t.fits) : Held (Am.bump (layB L t.parts) t 1) := by
 have h1 := Bk.lay t hf L h
 intro n hn
 obtain ⟨m, hm, e1, e2, e3, e5⟩ := bump_mem hn
 have h0 := h1.kept m hm
 by_cases hk : 0 < n.kept
 ·exact .inl hk
 right
 have hmt : m.t ≠ t := fun e => by have := e3 e; omega
 have e3 := e5 hmt
 by_cases hx : ∃ q ∈ layB L t.parts, m.t ∈ q.t.args
 ·obtain ⟨q, hq, ha⟩ := hx
  obtain ⟨r, hr, _, e4, _⟩ := mem_bump t 1 hq
  exact ⟨r, hr, by rw [e4, ← e2]; exact ha⟩
 ·exfalso
  have hlo : loose (gr (layB L t.parts)) (kpL (layB L t.parts)) m.id := by
   refine ⟨?_, ⟨_, List.mem_map.2 ⟨m, hm, rfl⟩, rfl⟩, by rw [h1.kp hm]; omega⟩
   rcases Nat.eq_zero_or_pos (upG (gr (layB L t.parts)) m.id) with h2 | h2
   ·exact h2
   ·exact absurd ((h1.up hm).1 h2) hx
  have := lay_loose h hl hf _ hlo
  rw [← h1.idOf hm] at this
  exact hmt (h1.id_inj (hasT_iff.2 ⟨m, hm, rfl⟩) (lay_mem _ _ (parts_self t)) this)
theorem drop_loose {L : List Nd} (h : Bk L) (hl : Held L) {n : Nd} (hn : n ∈ L) (h0 : 0 < n.kept) : LooseOnly (Am.bump L n.t (-1)) n.id := by
 have hb : Bk (Am.bump L n.t (-1)) := h.bump fun m hm e => by rw [nodup_inj h.ts hm hn e]; omega
 rintro j ⟨hu, ⟨g, hg, rfl⟩, hk⟩
 rw [bump_gr] at hg
 obtain ⟨m, hm, rfl⟩ := List.mem_map.1 hg
 have hkb := h.kp_bump n.t (-1) hb hm
 by_cases e : m.t = n.t
 ·rw [nodup_inj h.ts hm hn e]
 ·rw [hkb.2 e] at hk
  rcases hl m hm with h1 | h1
  ·omega
  ·rw [bump_gr] at hu
   have := (h.up hm).2 h1
   simp only at hu; omega
theorem live_nil {L : List Nd} (hl : Held L) (h0 : ∀ n ∈ L, n.kept = 0) : L = [] := by
 cases L with
 | nil => rfl
 | cons n r =>
  obtain ⟨m, hm, h1, _⟩ := needed_iff.1 (live_needed hl n (by simp))
  have := h0 m hm; omega
end Go.Proofs.Ytiafeijkifpfaaa.Am

/-
 A bank on the objects: two maps, a node's object for each number. No condition.
-/
namespace Go.Proofs.Ytiafeijkifpfaaa.Am
open Go Go.Proofs
set_option maxHeartbeats 4000000
set_option linter.unusedSimpArgs false
set_option linter.unusedVariables false
theorem upd_old {o : Oid} {i : Nat} (h : o.1 < i) (j : Nat) (x : Am.Obj) (H : Hp) : upd H (i, j) x o = H o := by
 simp only [upd]; rw [if_neg]; intro e; rw [e] at h; simp at h
theorem upd_ne {H : Hp} {o p : Oid} {x : Am.Obj} (h : p ≠ o) : Am.upd H o x p = H p := by simp only [Am.upd]; rw [if_neg h]
theorem below_lt {k : Nat} {H : Hp} {p : Oid} (h : p.1 < k) : below k H p = H p := by simp only [below]; rw [if_pos h]
def pads (ar : List Int) : List D := ar.map (D.int .i64 ·) ++ List.replicate (16 - ar.length) (.int .i64 0)
def keyN (v : Int) (fn : ByteArray) (n : Nat) (ar : List Int) : List D := .int .i64 v :: .str fn :: .int .i64 n :: pads ar
def Gn.key (g : Gn) : List D := keyN g.v g.fn g.ar.length g.ar
theorem pads_len {ar : List Int} (h : ar.length ≤ 16) : (pads ar).length = 16 := by simp [pads]; omega
theorem keyN_len {v : Int} {fn : ByteArray} {n : Nat} {ar : List Int} (h : ar.length ≤ 16) : (keyN v fn n ar).length = 19 := by simp [keyN, pads_len h]
theorem pads_get {ar : List Int} {i : Nat} (h : i < ar.length) : (pads ar)[i]? = some (.int .i64 ar[i]) := by
 rw [pads, List.getElem?_append_left (by simpa using h)]; simp [h]
theorem pads_set {ar : List Int} (h : ar.length < 16) (x : Int) : (pads ar).take ar.length ++ .int .i64 x :: (pads ar).drop (ar.length + 1) = pads (ar ++ [x]) := by
 have e : 16 - ar.length = (16 - (ar.length + 1)) + 1 := by omega
 unfold pads
 rw [List.take_append_of_le_length (by simp), List.take_of_length_le (by simp), List.drop_append, List.drop_of_length_le (by simp)]
 simp only [List.length_map, List.nil_append, List.length_append, List.length_singleton, List.map_append, List.map_cons, List.map_nil, List.append_assoc, List.singleton_append, Nat.add_sub_cancel_left]
 rw [e, List.replicate_succ, List.drop_one, List.tail_cons]
theorem pads_inj {ar bs : List Int} (hl : ar.length = bs.length) (h : pads ar = pads bs) : ar = bs := by
 unfold pads at h
 have := (List.append_inj h (by simp [hl])).1
 exact List.map_inj_right (fun a b e => by simpa using e) |>.1 this
theorem fitL_rep (n : Nat) : ∀ (l : List Int), l.length = n → fitL (List.replicate n (.int .i64)) (l.map (D.int .i64 ·)) = true
 | [], h => by subst h; rfl
 | x :: r, h => by subst h; simp [List.replicate_succ, fitL, fit1, fitL_rep r.length r rfl]
theorem pads_map (ar : List Int) : pads ar = (ar ++ List.replicate (16 - ar.length) 0).map (D.int .i64 ·) := by simp [pads]
theorem eqL_int : ∀ (a b : List Int), eqL (a.map (D.int .i64 ·)) (b.map (D.int .i64 ·)) = true ↔ a = b
 | [], [] => by simp [eqL]
 | [], y :: s => by simp [eqL]
 | x :: r, [] => by simp [eqL]
 | x :: r, y :: s => by simp [eqL, eq1, eqL_int r s]
theorem key_eq {v v' : Int} {fn fn' : ByteArray} {ar ar' : List Int} : eqL (keyN v fn ar.length ar) (keyN v' fn' ar'.length ar') = true ↔ v = v' ∧ fn = fn' ∧ ar = ar' := by
 simp only [keyN, eqL, eq1, Bool.and_eq_true, beq_iff_eq]
 constructor
 ·rintro ⟨h1, h2, h3, h4⟩
  refine ⟨h1, bytes_ext h2, pads_inj (by omega) ?_⟩
  rw [pads_map, pads_map] at h4 ⊢
  rw [(eqL_int _ _).1 h4]
 ·rintro ⟨rfl, rfl, rfl⟩
  exact ⟨rfl, rfl, rfl, by rw [pads_map, eqL_int]⟩
theorem key_ne {v v' : Int} {fn fn' : ByteArray} {ar ar' : List Int} (h : ¬ (v = v' ∧ fn = fn' ∧ ar = ar')) : eqL (keyN v fn ar.length ar) (keyN v' fn' ar'.length ar') = false := by
 rw [← Bool.not_eq_true, key_eq]; exact h
abbrev ents (k : Gn → D) (v : Gn → AV) (s : Int → Nat) (G : List Gn) : List (D × AV × Nat) := G.map fun g => (k g, v g, s g.id)
theorem findK_none {x : D} {k : Gn → D} {v : Gn → AV} {s : Int → Nat} : ∀ {G : List Gn} (n : Nat), (∀ g ∈ G, eqD x (k g) = false) → findK x (ents k v s G) n = none
 | [], _, _ => rfl
 | g :: r, n, h => by
  rw [ents, List.map_cons, findK, h g (by simp)]
  simp only [Bool.false_eq_true, if_false]
  exact findK_none (n + 1) fun y hy => h y (by simp [hy])
theorem findK_at {x : D} {k : Gn → D} {v : Gn → AV} {s : Int → Nat} {g : Gn} {B : List Gn} : ∀ {A : List Gn} (n : Nat), (∀ y ∈ A, eqD x (k y) = false) → eqD x (k g) = true → findK x (ents k v s (A ++ g :: B)) n = some (n + A.length, v g, s g.id)
 | [], n, _, h => by rw [List.nil_append, ents, List.map_cons, findK, if_pos h]; rfl
 | a :: A, n, hA, h => by
  rw [List.cons_append, ents, List.map_cons, findK, hA a (by simp)]
  simp only [Bool.false_eq_true, if_false]
  rw [findK_at (n + 1) (fun y hy => hA y (by simp [hy])) h, List.length_cons]
  congr 2; omega
theorem stamp_last {m : Nat} : ∀ (es : List (D × AV × Nat)) (n : Nat) (x : D) (v : AV), (∀ e ∈ es, e.2.2 < m) → stampAt (m : Int) (es ++ [(x, v, m)]) n = some (n + es.length, x)
 | [], n, x, v, _ => by simp [stampAt]
 | (y, w, b) :: r, n, x, v, h => by
  have hb : b < m := h _ (List.mem_cons_self ..)
  rw [List.cons_append, stampAt, if_neg (by omega), stamp_last r (n + 1) x v fun e he => h e (by simp [he]), List.length_cons]
  congr 2; omega
theorem GOk.split {G : List Gn} (h : (G.map (·.id)).Nodup) {g : Gn} (hg : g ∈ G) : ∃ A B, G = A ++ g :: B ∧ (∀ y ∈ A, y.id ≠ g.id) ∧ (∀ y ∈ B, y.id ≠ g.id) ∧ delG G g.id = A ++ B := by
 obtain ⟨A, B, rfl⟩ := List.append_of_mem hg
 rw [List.map_append, List.map_cons, List.nodup_append] at h
 obtain ⟨h1, h2, h3⟩ := h
 obtain ⟨h4, h5⟩ := List.nodup_cons.1 h2
 have hA : ∀ y ∈ A, y.id ≠ g.id := fun y hy => h3 _ (List.mem_map.2 ⟨y, hy, rfl⟩) _ (by simp)
 have hB : ∀ y ∈ B, y.id ≠ g.id := fun y hy e => h4 (List.mem_map.2 ⟨y, hy, e⟩)
 refine ⟨A, B, rfl, hA, hB, ?_⟩
 unfold delG
 rw [List.filter_append, List.filter_cons_of_neg (by simp)]
 rw [show A.filter (fun g_1 => decide (g_1.id ≠ g.id)) = A from delG_no hA, show B.filter (fun g_1 => decide (g_1.id ≠ g.id)) = B from delG_no hB]
theorem ents_erase {k : Gn → D} {v : Gn → AV} {s : Int → Nat} {A B : List Gn} {g : Gn} : (ents k v s (A ++ g :: B)).eraseIdx A.length = ents k v s (A ++ B) := by
 simp only [ents, List.map_append, List.map_cons]
 rw [List.eraseIdx_append_of_length_le (by simp)]
 simp
structure Vw where
 o : Oid
 m1 : Oid
 m2 : Oid
 P : Int → Oid
abbrev shI : Shape := (false, [.int .i64])
abbrev shK : Shape := (true, [.int .i64, .str, .int .i64, .int .i64, .int .i64, .int .i64, .int .i64, .int .i64, .int .i64, .int .i64, .int .i64, .int .i64, .int .i64, .int .i64, .int .i64, .int .i64, .int .i64, .int .i64, .int .i64])
theorem fit_key {v : Int} {fn : ByteArray} {n : Nat} {ar : List Int} (h : ar.length ≤ 16) : fitL shK.2 (keyN v fn n ar) = true := by
 have := fitL_rep 16 (ar ++ List.replicate (16 - ar.length) 0) (by simp; omega)
 rw [← pads_map] at this
 simpa [keyN, fitL, fit1, List.replicate] using this
def Foot (V : Vw) (G : List Gn) (p : Oid) : Prop := p = V.o ∨ p = V.m1 ∨ p = V.m2 ∨ ∃ g ∈ G, p = V.P g.id
structure BkH (H : Hp) (N : Nat) (V : Vw) (lim : Int) (G : List Gn) (kp : Int → Int) (up : Int → Int) : Prop where
 root : H V.o = some (.cells [.d (.int .i64 lim), .map V.m1, .map V.m2])
 nodes : ∃ s c, H V.m1 = some (.mp shI (ents (fun g => .int .i64 g.id) (fun g => .ptr (V.P g.id) 0 21) s G) c) ∧ ∀ g ∈ G, s g.id < c
 idm : ∃ s c, H V.m2 = some (.mp shK (ents (fun g => .agg g.key) (fun g => .d (.int .i64 g.id)) s G) c) ∧ ∀ g ∈ G, s g.id < c
 node : ∀ g ∈ G, H (V.P g.id) = some (.cells (g.key.map .d ++ [.d (.int .i64 (kp g.id)), .d (.int .i64 (up g.id))]))
 inj : ∀ g ∈ G, ∀ h ∈ G, V.P g.id = V.P h.id → g.id = h.id
 ltO : V.o.1 < N
 lt1 : V.m1.1 < N
 lt2 : V.m2.1 < N
 ltP : ∀ g ∈ G, (V.P g.id).1 < N
 ne1 : V.o ≠ V.m1
 ne2 : V.o ≠ V.m2
 ne12 : V.m1 ≠ V.m2
 neO : ∀ g ∈ G, V.P g.id ≠ V.o
 neM : ∀ g ∈ G, V.P g.id ≠ V.m1
 neN : ∀ g ∈ G, V.P g.id ≠ V.m2
theorem BkH.mono {H : Hp} {N M : Nat} {V : Vw} {lim : Int} {G : List Gn} {kp up : Int → Int} (h : BkH H N V lim G kp up) (k : N ≤ M) : BkH H M V lim G kp up :=
 { h with ltO := by have := h.ltO; omega, lt1 := by have := h.lt1; omega, lt2 := by have := h.lt2; omega, ltP := fun g hg => by have := h.ltP g hg; omega }
theorem BkH.keep {H H' : Hp} {N : Nat} {V : Vw} {lim : Int} {G : List Gn} {kp up : Int → Int} (h : BkH H N V lim G kp up) (k : ∀ p, Foot V G p → H' p = H p) : BkH H' N V lim G kp up :=
 { h with root := (k _ (.inl rfl)).trans h.root, nodes := by rw [k _ (.inr (.inl rfl))]; exact h.nodes, idm := by rw [k _ (.inr (.inr (.inl rfl)))]; exact h.idm, node := fun g hg => (k _ (.inr (.inr (.inr ⟨g, hg, rfl⟩)))).trans (h.node g hg) }
theorem BkH.foot_lt {H : Hp} {N : Nat} {V : Vw} {lim : Int} {G : List Gn} {kp up : Int → Int} (h : BkH H N V lim G kp up) {p : Oid} (hp : Foot V G p) : p.1 < N := by
 rcases hp with rfl | rfl | rfl | ⟨g, hg, rfl⟩
 ·exact h.ltO
 ·exact h.lt1
 ·exact h.lt2
 ·exact h.ltP g hg
theorem BkH.fun {H : Hp} {N : Nat} {V : Vw} {lim : Int} {G : List Gn} {kp up kp' up' : Int → Int} (h : BkH H N V lim G kp up) (h1 : ∀ g ∈ G, kp' g.id = kp g.id) (h2 : ∀ g ∈ G, up' g.id = up g.id) : BkH H N V lim G kp' up' :=
 { h with node := fun g hg => by rw [h1 g hg, h2 g hg]; exact h.node g hg }
theorem BkH.turn {H H' : Hp} {N : Nat} {V : Vw} {lim : Int} {G : List Gn} {kp up kp' up' : Int → Int} (h : BkH H N V lim G kp up) {g : Gn} (hg : g ∈ G) (hH : H' (V.P g.id) = some (.cells (g.key.map .d ++ [.d (.int .i64 (kp' g.id)), .d (.int .i64 (up' g.id))])))
  (hk : ∀ p, p ≠ V.P g.id → H' p = H p) (h1 : ∀ i, i ≠ g.id → kp' i = kp i) (h2 : ∀ i, i ≠ g.id → up' i = up i) (hn : (G.map (·.id)).Nodup) : BkH H' N V lim G kp' up' :=
 { h with
  root := (hk _ (h.neO g hg).symm).trans h.root
  nodes := by rw [hk _ (h.neM g hg).symm]; exact h.nodes
  idm := by rw [hk _ (h.neN g hg).symm]; exact h.idm
  node := fun y hy => by
   by_cases e : y.id = g.id
   ·rw [nodup_inj hn hy hg e]; exact hH
   ·rw [hk _ fun e2 => e (h.inj y hy g hg e2), h1 _ e, h2 _ e]; exact h.node y hy }
theorem BkH.del {H H' : Hp} {N : Nat} {V : Vw} {lim : Int} {G : List Gn} {kp up : Int → Int} (h : BkH H N V lim G kp up) {i : Int} {s1 s2 : Int → Nat} {c1 c2 : Nat} (hs1 : ∀ g ∈ G, s1 g.id < c1) (hs2 : ∀ g ∈ G, s2 g.id < c2)
  (e1 : H' V.m1 = some (.mp shI (ents (fun g => .int .i64 g.id) (fun g => .ptr (V.P g.id) 0 21) s1 (delG G i)) c1)) (e2 : H' V.m2 = some (.mp shK (ents (fun g => .agg g.key) (fun g => .d (.int .i64 g.id)) s2 (delG G i)) c2))
  (hk : ∀ p, p ≠ V.m1 → p ≠ V.m2 → H' p = H p) : BkH H' N V lim (delG G i) kp up := by
 have hm : ∀ {g}, g ∈ delG G i → g ∈ G := fun hg => (delG_mem.1 hg).1
 exact { h with
  root := (hk _ h.ne1 h.ne2).trans h.root
  nodes := ⟨s1, c1, e1, fun g hg => hs1 g (hm hg)⟩
  idm := ⟨s2, c2, e2, fun g hg => hs2 g (hm hg)⟩
  node := fun g hg => by rw [hk _ (h.neM g (hm hg)) (h.neN g (hm hg))]; exact h.node g (hm hg)
  inj := fun g hg y hy => h.inj g (hm hg) y (hm hy)
  ltP := fun g hg => h.ltP g (hm hg)
  neO := fun g hg => h.neO g (hm hg)
  neM := fun g hg => h.neM g (hm hg)
  neN := fun g hg => h.neN g (hm hg) }
def setP {α : Type} (P : Int → α) (i : Int) (o : α) : Int → α := fun j => if j = i then o else P j
theorem setP_same {α : Type} {P : Int → α} {i : Int} {o : α} : setP P i o i = o := if_pos rfl
theorem setP_ne {α : Type} {P : Int → α} {i j : Int} {o : α} (h : j ≠ i) : setP P i o j = P j := if_neg h
theorem BkH.add {H H' : Hp} {N M : Nat} {V : Vw} {lim : Int} {G : List Gn} {kp up kp' up' : Int → Int} (h : BkH H N V lim G kp up) {g : Gn} {q : Oid} {s1 s2 : Int → Nat} {c1 c2 : Nat} (hs1 : ∀ y ∈ G, s1 y.id < c1) (hs2 : ∀ y ∈ G, s2 y.id < c2) (hno : ∀ y ∈ G, y.id ≠ g.id) (hNM : N ≤ M) (hq1 : N ≤ q.1) (hq2 : q.1 < M)
  (e1 : H' V.m1 = some (.mp shI (ents (fun g => .int .i64 g.id) (fun g => .ptr (V.P g.id) 0 21) s1 G ++ [(.int .i64 g.id, .ptr q 0 21, c1)]) (c1 + 1)))
  (e2 : H' V.m2 = some (.mp shK (ents (fun g => .agg g.key) (fun g => .d (.int .i64 g.id)) s2 G ++ [(.agg g.key, .d (.int .i64 g.id), c2)]) (c2 + 1)))
  (eq : H' q = some (.cells (g.key.map .d ++ [.d (.int .i64 (kp' g.id)), .d (.int .i64 (up' g.id))])))
  (hk : ∀ p : Oid, p.1 < N → p ≠ V.m1 → p ≠ V.m2 → H' p = H p) (h1 : ∀ y ∈ G, kp' y.id = kp y.id) (h2 : ∀ y ∈ G, up' y.id = up y.id) : BkH H' M { V with P := setP V.P g.id q } lim (G ++ [g]) kp' up' := by
 have hP : ∀ y ∈ G, setP V.P g.id q y.id = V.P y.id := fun y hy => setP_ne (hno y hy)
 have hin : ∀ {y}, y ∈ G ++ [g] → y ∈ G ∨ y = g := fun hy => by simpa using hy
 have hne : ∀ p : Oid, p.1 < N → q ≠ p := fun p hp e => by rw [← e] at hp; omega
 refine ⟨(hk _ h.ltO h.ne1 h.ne2).trans h.root, ⟨setP s1 g.id c1, c1 + 1, ?_, fun y hy => ?_⟩, ⟨setP s2 g.id c2, c2 + 1, ?_, fun y hy => ?_⟩, fun y hy => ?_, fun y hy z hz e => ?_, by have := h.ltO; show V.o.1 < M; omega, by have := h.lt1; show V.m1.1 < M; omega, by have := h.lt2; show V.m2.1 < M; omega, fun y hy => ?_, h.ne1, h.ne2, h.ne12, fun y hy => ?_, fun y hy => ?_, fun y hy => ?_⟩
 ·rw [show ({ V with P := setP V.P g.id q } : Vw).m1 = V.m1 from rfl, e1]
  simp only [ents, List.map_append, List.map_cons, List.map_nil, setP_same]
  rw [List.map_congr_left (g := fun g_1 => (D.int IntKind.i64 g_1.id, AV.ptr (setP V.P g.id q g_1.id) 0 21, setP s1 g.id c1 g_1.id)) fun y hy => by rw [hP y hy, setP_ne (hno y hy)]]
 ·rcases hin hy with hy | rfl
  ·rw [setP_ne (hno y hy)]; have := hs1 y hy; omega
  ·rw [setP_same]; omega
 ·rw [show ({ V with P := setP V.P g.id q } : Vw).m2 = V.m2 from rfl, e2]
  simp only [ents, List.map_append, List.map_cons, List.map_nil, setP_same]
  rw [List.map_congr_left (g := fun g_1 => (D.agg g_1.key, AV.d (D.int IntKind.i64 g_1.id), setP s2 g.id c2 g_1.id)) fun y hy => by rw [setP_ne (hno y hy)]]
 ·rcases hin hy with hy | rfl
  ·rw [setP_ne (hno y hy)]; have := hs2 y hy; omega
  ·rw [setP_same]; omega
 ·rcases hin hy with hy | rfl
  ·show H' (setP V.P g.id q y.id) = _
   rw [hP y hy, hk _ (h.ltP y hy) (h.neM y hy) (h.neN y hy), h1 y hy, h2 y hy]; exact h.node y hy
  ·show H' (setP V.P y.id q y.id) = _
   rw [setP_same]; exact eq
 ·simp only at e
  rcases hin hy with y1 | y1
  ·rcases hin hz with z1 | z1
   ·rw [hP y y1, hP z z1] at e; exact h.inj y y1 z z1 e
   ·rw [z1, hP y y1, setP_same] at e; exact absurd e.symm (hne _ (h.ltP y y1))
  ·rcases hin hz with z1 | z1
   ·rw [y1, hP z z1, setP_same] at e; exact absurd e (hne _ (h.ltP z z1))
   ·rw [y1, z1]
 ·show (setP V.P g.id q y.id).1 < M
  rcases hin hy with hy | rfl
  ·rw [hP y hy]; have := h.ltP y hy; omega
  ·rw [setP_same]; exact hq2
 ·show setP V.P g.id q y.id ≠ V.o
  rcases hin hy with hy | rfl
  ·rw [hP y hy]; exact h.neO y hy
  ·rw [setP_same]; exact hne _ h.ltO
 ·show setP V.P g.id q y.id ≠ V.m1
  rcases hin hy with hy | rfl
  ·rw [hP y hy]; exact h.neM y hy
  ·rw [setP_same]; exact hne _ h.lt1
 ·show setP V.P g.id q y.id ≠ V.m2
  rcases hin hy with hy | rfl
  ·rw [hP y hy]; exact h.neN y hy
  ·rw [setP_same]; exact hne _ h.lt2
end Go.Proofs.Ytiafeijkifpfaaa.Am

/-
 Terms: what the program's functions and the document's compute of them, as the abstract machine runs them. No condition.
-/
namespace Go.Proofs.Ytiafeijkifpfaaa.Am
open Go Go.Proofs
set_option maxHeartbeats 4000000
set_option linter.unusedSimpArgs false
def termH (v : Int) (fn : ByteArray) (args : List Term) : Hp := upd (fun _ => none) (0, 0) (.cells [.d (.int .i64 v), .d (.str fn), .d (.sl (encL args) args.length false none)])
theorem size_loop (ts : List Term) (hn : ts.length ≤ 9223372036854775807) (H : Hp) (hH : below 7 H = H) (hrec : ∀ x ∈ ts, pcl Cp 42 [.agg x.enc] = some (.int .i64 x.sizeW)) :
  ∃ e t, aloop Try.prog plc b42_0 ⟨[false, false, true, true, false, false, false, true, true, true, false, false, false, false, false, false, false, false, true], some 7⟩ ⟨[.junk, .junk, .d (.int .i64 0), .d (.int .i64 1), .junk, .junk, .junk, .d (.sl (encL ts) ts.length false none), .d (.int .i64 ts.length), .d (.int .i64 0), .junk, .junk, .junk, .junk, .junk, .junk, .junk, .junk, .junk], H, 7⟩ = some (e, t) ∧
   AtExit 0 [.junk, .junk, .d (.int .i64 0), .d (.int .i64 (sizeWL 1 ts)), .junk, .junk, .junk, .d (.sl (encL ts) ts.length false none), .d (.int .i64 ts.length), .d (.int .i64 ts.length), .junk, .junk, .junk, .junk, .junk, .junk, .junk, .junk, .junk] H e t := by
 refine loop_rule (b := 7) (tm := fun (s : Nat × Int) => [.junk, .junk, .d (.int .i64 0), .d (.int .i64 s.2), .junk, .junk, .junk, .d (.sl (encL ts) ts.length false none), .d (.int .i64 ts.length), .d (.int .i64 s.1), .junk, .junk, .junk, .junk, .junk, .junk, .junk, .junk, .junk]) (Hf := fun _ => H)
  (I := fun s => s.1 ≤ ts.length) (μ := fun s => ts.length - s.1) (res := fun s => sizeWL s.2 (ts.drop s.1)) (R := fun r => AtExit 0 [.junk, .junk, .d (.int .i64 0), .d (.int .i64 r), .junk, .junk, .junk, .d (.sl (encL ts) ts.length false none), .d (.int .i64 ts.length), .d (.int .i64 ts.length), .junk, .junk, .junk, .junk, .junk, .junk, .junk, .junk, .junk] H) (fun s nx hi => ?_) (0, 1) (Nat.zero_le _)
 obtain ⟨i, acc⟩ := s
 rcases Nat.lt_or_ge i ts.length with hl | hl
 ·obtain ⟨v, fn, args, a⟩ := at_ok hn hl
  have hcall := hrec _ a.mem
  simp [Term.enc] at hcall
  conv => arg 9; arg 4; unfold b42_0
  simp [a.lti, a.sz, a.ltm, a.cells, a.le3, plc_raw, hcall, a.w, hH]
  exact .next (i + 1, IntKind.i64.wrap (acc + (Term.mk v fn args).sizeW)) (by omega) rfl rfl hl (by simp; omega) (by simp only [a.dr, sizeWL])
 ·obtain rfl : i = ts.length := Nat.le_antisymm hi hl
  simp [b42_0, hH]
  exact .fin _ _ (by simp [sizeWL]; exact .mk)
theorem size_ok (t : Term) : t.ok → pcl Cp 42 [.agg t.enc] = some (.int .i64 t.sizeW) := by
 refine Term.ind (p := fun t => t.ok → pcl Cp 42 [.agg t.enc] = some (.int .i64 t.sizeW)) (fun v fn args ih h => ?_) t
 obtain ⟨e, t, hrun, rfl, nx, rfl⟩ := size_loop args h.1 (termH v fn args) (by simp [termH]) (fun x hx => ih x hx (okL_mem h.2 x hx))
 refine pcl_body code42 ?_
 simp [Term.enc, termH] at hrun ⊢
 simp [hrun, Term.sizeW]
theorem rsize_loop (v0 : Int) (fn0 : ByteArray) (ts : List Term) (hn : ts.length ≤ 9223372036854775807) (hrec : ∀ x ∈ ts, pcl Cp 45 [.agg x.enc] = some (.int .i64 x.sizeW)) :
  ∃ e t, aloop Try.prog plc b45_0 ⟨[false, true, true, true, true, false, false, false, false, false, false, false, false, false, false, false, false, false, false, false, true], some 4⟩ ⟨[.junk, .ptr (0, 0) 0 3, .d (.int .i64 0), .d (.int .i64 1), .d (.int .i64 0), .junk, .junk, .junk, .junk, .junk, .junk, .junk, .junk, .junk, .junk, .junk, .junk, .junk, .junk, .junk, .junk], termH v0 fn0 ts, 4⟩ = some (e, t) ∧
   AtExit 0 [.junk, .ptr (0, 0) 0 3, .d (.int .i64 0), .d (.int .i64 (sizeWL 1 ts)), .d (.int .i64 ts.length), .junk, .junk, .junk, .junk, .junk, .junk, .junk, .junk, .junk, .junk, .junk, .junk, .junk, .junk, .junk, .junk] (termH v0 fn0 ts) e t := by
 refine loop_rule (b := 4) (tm := fun (s : Nat × Int) => [.junk, .ptr (0, 0) 0 3, .d (.int .i64 0), .d (.int .i64 s.2), .d (.int .i64 s.1), .junk, .junk, .junk, .junk, .junk, .junk, .junk, .junk, .junk, .junk, .junk, .junk, .junk, .junk, .junk, .junk]) (Hf := fun _ => termH v0 fn0 ts)
  (I := fun s => s.1 ≤ ts.length) (μ := fun s => ts.length - s.1) (res := fun s => sizeWL s.2 (ts.drop s.1)) (R := fun r => AtExit 0 [.junk, .ptr (0, 0) 0 3, .d (.int .i64 0), .d (.int .i64 r), .d (.int .i64 ts.length), .junk, .junk, .junk, .junk, .junk, .junk, .junk, .junk, .junk, .junk, .junk, .junk, .junk, .junk, .junk, .junk] (termH v0 fn0 ts)) (fun s nx hi => ?_) (0, 1) (Nat.zero_le _)
 obtain ⟨i, acc⟩ := s
 rcases Nat.lt_or_ge i ts.length with hl | hl
 ·obtain ⟨v, fn, args, a⟩ := at_ok hn hl
  have hcall := hrec _ a.mem
  simp [Term.enc] at hcall
  conv => arg 9; arg 4; unfold b45_0
  simp [a.lti, a.sz, a.ltm, a.cells, a.le3, plc_raw, hcall, a.w, termH]
  exact .next (i + 1, IntKind.i64.wrap (acc + (Term.mk v fn args).sizeW)) (by omega) rfl rfl hl (by simp; omega) (by simp only [a.dr, sizeWL])
 ·obtain rfl : i = ts.length := Nat.le_antisymm hi hl
  simp [b45_0, termH]
  exact .fin _ _ (by simp [sizeWL, termH]; exact .mk)
theorem rsize_ok (t : Term) : t.ok → pcl Cp 45 [.agg t.enc] = some (.int .i64 t.sizeW) := by
 refine Term.ind (p := fun t => t.ok → pcl Cp 45 [.agg t.enc] = some (.int .i64 t.sizeW)) (fun v fn args ih h => ?_) t
 obtain ⟨e, t, hrun, rfl, nx, rfl⟩ := rsize_loop v fn args h.1 (fun x hx => ih x hx (okL_mem h.2 x hx))
 refine pcl_body code45 ?_
 simp [Term.enc, termH] at hrun ⊢
 simp [hrun, Term.sizeW]
theorem depth_loop (ts : List Term) (hn : ts.length ≤ 9223372036854775807) (H : Hp) (hH : below 7 H = H) (hrec : ∀ x ∈ ts, pcl Cp 44 [.agg x.enc] = some (.int .i64 x.depthW)) :
  ∃ e t, aloop Try.prog plc b44_0 ⟨[false, false, true, true, false, false, false, true, true, true, false, false, false, false, false, false, false, false, true, true], some 7⟩ ⟨[.junk, .junk, .d (.int .i64 0), .d (.int .i64 0), .junk, .junk, .junk, .d (.sl (encL ts) ts.length false none), .d (.int .i64 ts.length), .d (.int .i64 0), .junk, .junk, .junk, .junk, .junk, .junk, .junk, .junk, .junk, .junk], H, 7⟩ = some (e, t) ∧
   AtExit 0 [.junk, .junk, .d (.int .i64 0), .d (.int .i64 (depthWL 0 ts)), .junk, .junk, .junk, .d (.sl (encL ts) ts.length false none), .d (.int .i64 ts.length), .d (.int .i64 ts.length), .junk, .junk, .junk, .junk, .junk, .junk, .junk, .junk, .junk, .junk] H e t := by
 refine loop_rule (b := 7) (tm := fun (s : Nat × Int) => [.junk, .junk, .d (.int .i64 0), .d (.int .i64 s.2), .junk, .junk, .junk, .d (.sl (encL ts) ts.length false none), .d (.int .i64 ts.length), .d (.int .i64 s.1), .junk, .junk, .junk, .junk, .junk, .junk, .junk, .junk, .junk, .junk]) (Hf := fun _ => H)
  (I := fun s => s.1 ≤ ts.length) (μ := fun s => ts.length - s.1) (res := fun s => depthWL s.2 (ts.drop s.1)) (R := fun r => AtExit 0 [.junk, .junk, .d (.int .i64 0), .d (.int .i64 r), .junk, .junk, .junk, .d (.sl (encL ts) ts.length false none), .d (.int .i64 ts.length), .d (.int .i64 ts.length), .junk, .junk, .junk, .junk, .junk, .junk, .junk, .junk, .junk, .junk] H) (fun s nx hi => ?_) (0, 0) (Nat.zero_le _)
 obtain ⟨i, acc⟩ := s
 rcases Nat.lt_or_ge i ts.length with hl | hl
 ·obtain ⟨v, fn, args, a⟩ := at_ok hn hl
  have hcall := hrec _ a.mem
  simp [Term.enc] at hcall
  conv => arg 9; arg 4; unfold b44_0
  simp [a.lti, a.sz, a.ltm, a.cells, a.le3, plc_raw, hcall, a.w, hH]
  exact .next (i + 1, if (Term.mk v fn args).depthW > acc then (Term.mk v fn args).depthW else acc) (by omega) rfl rfl hl (by simp; omega) (by simp only [a.dr, depthWL])
 ·obtain rfl : i = ts.length := Nat.le_antisymm hi hl
  simp [b44_0, hH]
  exact .fin _ _ (by simp [depthWL]; exact .mk)
theorem depth_ok (t : Term) : t.ok → pcl Cp 44 [.agg t.enc] = some (.int .i64 t.depthW) := by
 refine Term.ind (p := fun t => t.ok → pcl Cp 44 [.agg t.enc] = some (.int .i64 t.depthW)) (fun v fn args ih h => ?_) t
 obtain ⟨e, t, hrun, rfl, nx, rfl⟩ := depth_loop args h.1 (termH v fn args) (by simp [termH]) (fun x hx => ih x hx (okL_mem h.2 x hx))
 refine pcl_body code44 ?_
 simp [Term.enc, termH] at hrun ⊢
 simp [hrun, Term.depthW]
theorem rdepth_loop (v0 : Int) (fn0 : ByteArray) (ts : List Term) (hn : ts.length ≤ 9223372036854775807) (hrec : ∀ x ∈ ts, pcl Cp 46 [.agg x.enc] = some (.int .i64 x.depthW)) :
  ∃ e t, aloop Try.prog plc b46_0 ⟨[false, true, true, true, true, false, false, false, false, false, false, false, false, false, false, false, false, false, false, false, true, true], some 4⟩ ⟨[.junk, .ptr (0, 0) 0 3, .d (.int .i64 0), .d (.int .i64 0), .d (.int .i64 0), .junk, .junk, .junk, .junk, .junk, .junk, .junk, .junk, .junk, .junk, .junk, .junk, .junk, .junk, .junk, .junk, .junk], termH v0 fn0 ts, 4⟩ = some (e, t) ∧
   AtExit 0 [.junk, .ptr (0, 0) 0 3, .d (.int .i64 0), .d (.int .i64 (depthWL 0 ts)), .d (.int .i64 ts.length), .junk, .junk, .junk, .junk, .junk, .junk, .junk, .junk, .junk, .junk, .junk, .junk, .junk, .junk, .junk, .junk, .junk] (termH v0 fn0 ts) e t := by
 refine loop_rule (b := 4) (tm := fun (s : Nat × Int) => [.junk, .ptr (0, 0) 0 3, .d (.int .i64 0), .d (.int .i64 s.2), .d (.int .i64 s.1), .junk, .junk, .junk, .junk, .junk, .junk, .junk, .junk, .junk, .junk, .junk, .junk, .junk, .junk, .junk, .junk, .junk]) (Hf := fun _ => termH v0 fn0 ts)
  (I := fun s => s.1 ≤ ts.length) (μ := fun s => ts.length - s.1) (res := fun s => depthWL s.2 (ts.drop s.1)) (R := fun r => AtExit 0 [.junk, .ptr (0, 0) 0 3, .d (.int .i64 0), .d (.int .i64 r), .d (.int .i64 ts.length), .junk, .junk, .junk, .junk, .junk, .junk, .junk, .junk, .junk, .junk, .junk, .junk, .junk, .junk, .junk, .junk, .junk] (termH v0 fn0 ts)) (fun s nx hi => ?_) (0, 0) (Nat.zero_le _)
 obtain ⟨i, acc⟩ := s
 rcases Nat.lt_or_ge i ts.length with hl | hl
 ·obtain ⟨v, fn, args, a⟩ := at_ok hn hl
  have hcall := hrec _ a.mem
  simp [Term.enc] at hcall
  conv => arg 9; arg 4; unfold b46_0
  simp [a.lti, a.sz, a.ltm, a.cells, a.le3, plc_raw, hcall, a.w, termH]
  exact .next (i + 1, if (Term.mk v fn args).depthW > acc then (Term.mk v fn args).depthW else acc) (by omega) rfl rfl hl (by simp; omega) (by simp only [a.dr, depthWL])
 ·obtain rfl : i = ts.length := Nat.le_antisymm hi hl
  simp [b46_0, termH]
  exact .fin _ _ (by simp [depthWL, termH]; exact .mk)
theorem rdepth_ok (t : Term) : t.ok → pcl Cp 46 [.agg t.enc] = some (.int .i64 t.depthW) := by
 refine Term.ind (p := fun t => t.ok → pcl Cp 46 [.agg t.enc] = some (.int .i64 t.depthW)) (fun v fn args ih h => ?_) t
 obtain ⟨e, t, hrun, rfl, nx, rfl⟩ := rdepth_loop v fn args h.1 (fun x hx => ih x hx (okL_mem h.2 x hx))
 refine pcl_body code46 ?_
 simp [Term.enc, termH] at hrun ⊢
 simp [hrun, Term.depthW]
theorem right_ok (v : Int) (fn : ByteArray) (cs : List D) (n : Nat) : pcl Cp 94 [.agg [.int .i64 v, .str fn, .sl cs n false none]] = some (.bool (rightB v fn n)) := by
 refine pcl_body code94 ?_
 simp
 repeat' ((try simp only [condP_ite]); split <;> (try simp only [holdE]) <;> (try simp [*, plc_raw]))
 all_goals (simp_all [rightB, noName])
 all_goals (first | omega | grind)
theorem index_loop (g : FuncId) (p : Term → Bool) (ts : List Term) (hn : ts.length ≤ 9223372036854775807) (hg : plc.raw g = false ∧ plc.weak g = false ∧ g < 1000000000) (hrec : ∀ x ∈ ts, pcl Cp g [.agg x.enc] = some (.bool (p x))) :
  ∃ e t, aloop Try.prog plc b101_0 ⟨[true, true, false, false, true, false, false, true, true, false, false, false, false, false, false, false, false, false, false], some 4⟩ ⟨[.d (.sl (encL ts) ts.length false none), .d (.fn g []), .junk, .junk, .d (.int .i64 0), .junk, .junk, .d (.int .i64 ts.length), .d (.int .i64 0), .junk, .junk, .junk, .junk, .junk, .junk, .junk, .junk, .junk, .junk], fun _ => none, 4⟩ = some (e, t) ∧
   (match fromI p ts 0 with | some k => AtRet 4 (.d (.int .i64 k)) e t | none => AtExit 0 [.d (.sl (encL ts) ts.length false none), .d (.fn g []), .junk, .junk, .d (.int .i64 0), .junk, .junk, .d (.int .i64 ts.length), .d (.int .i64 ts.length), .junk, .junk, .junk, .junk, .junk, .junk, .junk, .junk, .junk, .junk] (fun _ => none) e t) := by
 refine loop_rule (b := 4) (tm := fun (i : Nat) => [.d (.sl (encL ts) ts.length false none), .d (.fn g []), .junk, .junk, .d (.int .i64 0), .junk, .junk, .d (.int .i64 ts.length), .d (.int .i64 i), .junk, .junk, .junk, .junk, .junk, .junk, .junk, .junk, .junk, .junk]) (Hf := fun _ => fun _ => none)
  (I := fun i => i ≤ ts.length) (μ := fun i => ts.length - i) (res := fun i => fromI p ts i) (R := fun o e t => match o with | some k => AtRet 4 (.d (.int .i64 k)) e t | none => AtExit 0 [.d (.sl (encL ts) ts.length false none), .d (.fn g []), .junk, .junk, .d (.int .i64 0), .junk, .junk, .d (.int .i64 ts.length), .d (.int .i64 ts.length), .junk, .junk, .junk, .junk, .junk, .junk, .junk, .junk, .junk, .junk] (fun _ => none) e t)
  (fun i nx hi => ?_) 0 (Nat.zero_le _)
 rcases Nat.lt_or_ge i ts.length with hl | hl
 ·obtain ⟨v, fn, args, a⟩ := at_ok hn hl
  have hcall := hrec _ a.mem
  have hget : ts[i] = .mk v fn args := a.get
  simp [Term.enc] at hcall
  conv => arg 9; arg 4; unfold b101_0
  cases hp : p (.mk v fn args) <;> rw [hp] at hcall <;> simp [a.lti, a.sz, a.ltm, a.cells, a.le3, hg.1, hg.2.1, hg.2.2, -plc_weak, hcall, a.w]
  ·exact .next (i + 1) (by omega) rfl rfl hl (by omega) (by rw [fromI_step hl, hget, hp]; rfl)
  ·exact .fin _ _ (by rw [fromI_step hl, hget, hp]; exact ⟨rfl, rfl⟩)
 ·obtain rfl : i = ts.length := Nat.le_antisymm hi hl
  simp [b101_0]
  exact .fin _ _ (by rw [fromI_end]; exact .mk)
theorem index_ok {g : FuncId} {p : Term → Bool} {ts : List Term} (hn : ts.length ≤ 9223372036854775807) (hg : plc.raw g = false ∧ plc.weak g = false ∧ g < 1000000000) (hrec : ∀ x ∈ ts, pcl Cp g [.agg x.enc] = some (.bool (p x))) :
  pcl Cp 101 [.sl (encL ts) ts.length false none, .fn g []] = some (.int .i64 (match ts.findIdx? p with | some k => k | none => -1)) := by
 obtain ⟨e, t, h1, h2⟩ := index_loop g p ts hn hg hrec
 refine pcl_body code101 ?_
 simp [fromI_zero] at h1 h2
 simp [h1]
 revert h2
 cases ts.findIdx? p with
 | some k => rintro ⟨rfl, h⟩; simp [h]
 | none => rintro ⟨rfl, nx, rfl⟩; simp
theorem any_findIdx {α : Type} (p : α → Bool) (l : List α) : l.any p = (l.findIdx? p).isSome := by
 induction l with
 | nil => rfl
 | cons x l ih => rw [List.any_cons, List.findIdx?_cons, ih]; cases p x <;> simp
theorem contains_ok {g : FuncId} {p : Term → Bool} {ts : List Term} (hn : ts.length ≤ 9223372036854775807) (hg : plc.raw g = false ∧ plc.weak g = false ∧ g < 1000000000) (hrec : ∀ x ∈ ts, pcl Cp g [.agg x.enc] = some (.bool (p x))) :
  pcl Cp 95 [.sl (encL ts) ts.length false none, .fn g []] = some (.bool (ts.any p)) := by
 refine pcl_body code95 ?_
 have h := index_ok hn hg hrec
 rw [any_findIdx]
 cases hq : ts.findIdx? p <;> rw [hq] at h <;> simp [plc_raw, h]
theorem shapeBL_all : ∀ (ts : List Term), shapeBL ts = !ts.any (fun x => !x.shapeB)
 | [] => rfl
 | t :: r => by simp [shapeBL, shapeBL_all r]
theorem shaped_ok (t : Term) : t.ok → pcl Cp 76 [.agg t.enc] = some (.bool t.shapeB) := by
 refine Term.ind (p := fun t => t.ok → pcl Cp 76 [.agg t.enc] = some (.bool t.shapeB)) (fun v fn args ih h => ?_) t
 have hc := contains_ok (g := 96) (p := fun x => !x.shapeB) h.1 ⟨rfl, rfl, by decide⟩ (fun x hx => by
  have := ih x hx (okL_mem h.2 x hx)
  refine pcl_body code96 ?_
  obtain ⟨v, fn, a⟩ := x
  simp [Term.enc] at this
  simp [Term.enc, plc_raw, this])
 have hr := right_ok v fn (encL args) args.length
 refine pcl_body code76 ?_
 cases hb : rightB v fn args.length <;> rw [hb] at hr <;> simp [Term.enc, plc_raw, hr, hc, Term.shapeB, hb, shapeBL_all]
theorem rshape_loop (v0 : Int) (fn0 : ByteArray) (ts : List Term) (hn : ts.length ≤ 9223372036854775807) (hrec : ∀ x ∈ ts, pcl Cp 56 [.agg x.enc] = some (.bool x.shapeB)) :
  ∃ e t, aloop Try.prog plc b56_0 ⟨[false, true, true, true, false, false, false, false, false, false, false, false, false, false, false, false, false, false, false, false, false, false, false, false, false, false, false, false, false, false, false, false, false, false, false, false, false, false, false, false, false, false, false, false, false, false, false, false, false, false], some 21⟩ ⟨[.junk, .ptr (0, 0) 0 3, .d (.bool false), .d (.int .i64 0), .junk, .junk, .junk, .junk, .junk, .junk, .junk, .junk, .junk, .junk, .junk, .junk, .junk, .junk, .junk, .junk, .junk, .junk, .junk, .junk, .junk, .junk, .junk, .junk, .junk, .junk, .junk, .junk, .junk, .junk, .junk, .junk, .junk, .junk, .junk, .junk, .junk, .junk, .junk, .junk, .junk, .junk, .junk, .junk, .junk, .junk], termH v0 fn0 ts, 21⟩ = some (e, t) ∧
   (if shapeBL ts then AtExit 0 [.junk, .ptr (0, 0) 0 3, .d (.bool false), .d (.int .i64 ts.length), .junk, .junk, .junk, .junk, .junk, .junk, .junk, .junk, .junk, .junk, .junk, .junk, .junk, .junk, .junk, .junk, .junk, .junk, .junk, .junk, .junk, .junk, .junk, .junk, .junk, .junk, .junk, .junk, .junk, .junk, .junk, .junk, .junk, .junk, .junk, .junk, .junk, .junk, .junk, .junk, .junk, .junk, .junk, .junk, .junk, .junk] (termH v0 fn0 ts) e t else AtRet 2 (.d (.bool false)) e t) := by
 refine loop_rule (b := 21) (tm := fun (i : Nat) => [.junk, .ptr (0, 0) 0 3, .d (.bool false), .d (.int .i64 i), .junk, .junk, .junk, .junk, .junk, .junk, .junk, .junk, .junk, .junk, .junk, .junk, .junk, .junk, .junk, .junk, .junk, .junk, .junk, .junk, .junk, .junk, .junk, .junk, .junk, .junk, .junk, .junk, .junk, .junk, .junk, .junk, .junk, .junk, .junk, .junk, .junk, .junk, .junk, .junk, .junk, .junk, .junk, .junk, .junk, .junk]) (Hf := fun _ => termH v0 fn0 ts)
  (I := fun i => i ≤ ts.length) (μ := fun i => ts.length - i) (res := fun i => shapeBL (ts.drop i)) (R := fun b e t => if b then AtExit 0 [.junk, .ptr (0, 0) 0 3, .d (.bool false), .d (.int .i64 ts.length), .junk, .junk, .junk, .junk, .junk, .junk, .junk, .junk, .junk, .junk, .junk, .junk, .junk, .junk, .junk, .junk, .junk, .junk, .junk, .junk, .junk, .junk, .junk, .junk, .junk, .junk, .junk, .junk, .junk, .junk, .junk, .junk, .junk, .junk, .junk, .junk, .junk, .junk, .junk, .junk, .junk, .junk, .junk, .junk, .junk, .junk] (termH v0 fn0 ts) e t else AtRet 2 (.d (.bool false)) e t)
  (fun i nx hi => ?_) 0 (Nat.zero_le _)
 rcases Nat.lt_or_ge i ts.length with hl | hl
 ·obtain ⟨v, fn, args, a⟩ := at_ok hn hl
  have hcall := hrec _ a.mem
  simp [Term.enc] at hcall
  conv => arg 9; arg 4; unfold b56_0
  cases hp : (Term.mk v fn args).shapeB <;> rw [hp] at hcall <;> simp [a.lti, a.sz, a.ltm, a.cells, a.le3, plc_raw, hcall, a.w, termH]
  ·exact .fin _ _ (by simp only [a.dr, shapeBL, hp]; exact ⟨rfl, rfl⟩)
  ·exact .next (i + 1) (by omega) rfl rfl hl (by omega) (by simp [a.dr, shapeBL, hp])
 ·obtain rfl : i = ts.length := Nat.le_antisymm hi hl
  simp [b56_0, termH]
  exact .fin _ _ (by simp [shapeBL, termH]; exact .mk)
theorem rshape_ok (t : Term) : t.ok → pcl Cp 56 [.agg t.enc] = some (.bool t.shapeB) := by
 refine Term.ind (p := fun t => t.ok → pcl Cp 56 [.agg t.enc] = some (.bool t.shapeB)) (fun v fn args ih h => ?_) t
 refine pcl_body code56 ?_
 obtain ⟨e, t, hrun, hR⟩ := rshape_loop v fn args h.1 (fun x hx => ih x hx (okL_mem h.2 x hx))
 simp [Term.enc, termH] at hrun ⊢
 have hz : args.length = 0 → args = [] := List.eq_nil_of_length_eq_zero
 cases hs : shapeBL args <;> simp only [hs, if_true, Bool.false_eq_true, if_false] at hR
 ·obtain ⟨rfl, hv⟩ := hR
  have hne : args ≠ [] := by rintro rfl; simp [shapeBL] at hs
  repeat' ((try simp only [condP_ite]); split <;> (try simp only [holdE]) <;> (try simp [*, plc_raw]))
  all_goals (simp_all [Term.shapeB, rightB, noName, shapeBL])
  all_goals (clear hrun ih; first | omega | grind)
 ·obtain ⟨rfl, nx, rfl⟩ := hR
  repeat' ((try simp only [condP_ite]); split <;> (try simp only [holdE]) <;> (try simp [*, plc_raw]))
  all_goals (simp_all [Term.shapeB, rightB, noName, shapeBL])
  all_goals (clear hrun ih; first | omega | grind)
theorem equal_loop (g : FuncId) (p : Term → Term → Bool) (hg : plc.raw g = false ∧ plc.weak g = true ∧ g < 1000000000) (ts us : List Term) (hn : ts.length ≤ 9223372036854775807) (hlen : us.length = ts.length) (hrec : ∀ x ∈ ts, ∀ y ∈ us, pcl Cp g [.agg x.enc, .agg y.enc] = some (.bool (p x y))) :
  ∃ e t, aloop Try.prog plc b55_0 ⟨[false, true, true, false, false, false, true, false, false, false, false, false, false, false, false, true, true, true, false, false, false, false, false, false, false, false, false, false, false, false, false, false], some 9⟩ ⟨[.junk, .d (.sl (encL us) us.length false none), .d (.fn g []), .junk, .junk, .junk, .d (.bool false), .junk, .junk, .junk, .junk, .junk, .junk, .junk, .junk, .d (.sl (encL ts) us.length false none), .d (.int .i64 us.length), .d (.int .i64 0), .junk, .junk, .junk, .junk, .junk, .junk, .junk, .junk, .junk, .junk, .junk, .junk, .junk, .junk], fun _ => none, 9⟩ = some (e, t) ∧
   (if all2 p ts us then AtExit 0 [.junk, .d (.sl (encL us) us.length false none), .d (.fn g []), .junk, .junk, .junk, .d (.bool false), .junk, .junk, .junk, .junk, .junk, .junk, .junk, .junk, .d (.sl (encL ts) us.length false none), .d (.int .i64 us.length), .d (.int .i64 ts.length), .junk, .junk, .junk, .junk, .junk, .junk, .junk, .junk, .junk, .junk, .junk, .junk, .junk, .junk] (fun _ => none) e t else AtRet 6 (.d (.bool false)) e t) := by
 refine loop_rule (b := 9) (tm := fun (i : Nat) => [.junk, .d (.sl (encL us) us.length false none), .d (.fn g []), .junk, .junk, .junk, .d (.bool false), .junk, .junk, .junk, .junk, .junk, .junk, .junk, .junk, .d (.sl (encL ts) us.length false none), .d (.int .i64 us.length), .d (.int .i64 i), .junk, .junk, .junk, .junk, .junk, .junk, .junk, .junk, .junk, .junk, .junk, .junk, .junk, .junk]) (Hf := fun _ => fun _ => none)
  (I := fun i => i ≤ ts.length) (μ := fun i => ts.length - i) (res := fun i => all2 p (ts.drop i) (us.drop i)) (R := fun b e t => if b then AtExit 0 [.junk, .d (.sl (encL us) us.length false none), .d (.fn g []), .junk, .junk, .junk, .d (.bool false), .junk, .junk, .junk, .junk, .junk, .junk, .junk, .junk, .d (.sl (encL ts) us.length false none), .d (.int .i64 us.length), .d (.int .i64 ts.length), .junk, .junk, .junk, .junk, .junk, .junk, .junk, .junk, .junk, .junk, .junk, .junk, .junk, .junk] (fun _ => none) e t else AtRet 6 (.d (.bool false)) e t)
  (fun i nx hi => ?_) 0 (Nat.zero_le _)
 rcases Nat.lt_or_ge i ts.length with hl | hl
 ·obtain ⟨v, fn, args, a⟩ := at_ok hn hl
  obtain ⟨v2, fn2, args2, b⟩ := at_ok (ts := us) (by omega) (i := i) (by omega)
  have hcall := hrec _ a.mem _ b.mem
  simp [Term.enc] at hcall
  have asz := a.sz
  have altm := a.ltm
  have ale3 := a.le3
  have alti := a.lti
  rw [← hlen] at asz altm ale3 alti
  conv => arg 9; arg 4; unfold b55_0
  cases hp : p (.mk v fn args) (.mk v2 fn2 args2) <;> rw [hp] at hcall <;> simp [alti, asz, altm, a.cells, ale3, b.cells, b.sz, b.ltm, b.le3, hg.1, hg.2.1, hg.2.2, -plc_weak, hcall, a.w]
  ·exact .fin _ _ (by simp only [a.dr, b.dr, all2, hp]; exact ⟨rfl, rfl⟩)
  ·exact .next (i + 1) (by omega) rfl rfl hl (by omega) (by simp [a.dr, b.dr, all2, hp])
 ·obtain rfl : i = ts.length := Nat.le_antisymm hi hl
  simp [b55_0, hlen]
  exact .fin _ _ (by simp [all2, hlen]; exact .mk)
theorem equal_ok {g : FuncId} {p : Term → Term → Bool} (hg : plc.raw g = false ∧ plc.weak g = true ∧ g < 1000000000) {ts us : List Term} (hn : ts.length ≤ 9223372036854775807) (hrec : ∀ x ∈ ts, ∀ y ∈ us, pcl Cp g [.agg x.enc, .agg y.enc] = some (.bool (p x y))) :
  pcl Cp 55 [.sl (encL ts) ts.length false none, .sl (encL us) us.length false none, .fn g []] = some (.bool (decide (ts.length = us.length) && all2 p ts us)) := by
 refine pcl_body code55 ?_
 by_cases hl : ts.length = us.length
 ·obtain ⟨e, t, hrun, hR⟩ := equal_loop g p hg ts us hn hl.symm hrec
  try simp at hrun
  simp [hl, hrun]
  cases hs : all2 p ts us <;> simp only [hs, if_true, Bool.false_eq_true, if_false] at hR
  ·obtain ⟨rfl, hv⟩ := hR; simp [hv]
  ·obtain ⟨rfl, nx, rfl⟩ := hR; simp
 ·have : ¬ ((ts.length : Int) = (us.length : Int)) := by omega
  simp [hl, this]
theorem same_ok (t : Term) : t.ok → ∀ u : Term, u.ok → pcl Cp 24 [.agg t.enc, .agg u.enc] = some (.bool (t.sameB u)) := by
 refine Term.ind (p := fun t => t.ok → ∀ u : Term, u.ok → pcl Cp 24 [.agg t.enc, .agg u.enc] = some (.bool (t.sameB u))) (fun v fn args ih h => ?_) t
 intro u hu
 obtain ⟨v2, fn2, args2⟩ := u
 have he := equal_ok (g := 24) (p := Term.sameB) ⟨rfl, rfl, by decide⟩ (ts := args) (us := args2) h.1 (fun x hx y hy => ih x hx (okL_mem h.2 x hx) y (okL_mem hu.2 y hy))
 refine pcl_body code24 ?_
 simp [Term.enc, plc_raw, he]
 repeat' ((try simp only [condP_ite]); split <;> (try simp only [holdE]) <;> (try simp [*, plc_raw]))
 all_goals (simp_all [Term.sameB, sameBL_all2])
def termH2 (v : Int) (fn : ByteArray) (args : List Term) (v2 : Int) (fn2 : ByteArray) (args2 : List Term) : Hp :=
 upd (upd (fun _ => none) (0, 0) (.cells [.d (.int .i64 v), .d (.str fn), .d (.sl (encL args) args.length false none)])) (1, 0) (.cells [.d (.int .i64 v2), .d (.str fn2), .d (.sl (encL args2) args2.length false none)])
theorem rsame_loop (v0 : Int) (fn0 : ByteArray) (v00 : Int) (fn00 : ByteArray) (ts us : List Term) (hn : ts.length ≤ 9223372036854775807) (hlen : us.length = ts.length) (hrec : ∀ x ∈ ts, ∀ y ∈ us, pcl Cp 22 [.agg x.enc, .agg y.enc] = some (.bool (x.sameB y))) :
  ∃ e t, aloop Try.prog plc b22_0 ⟨[false, false, true, true, true, true, false, false, false, false, false, false, false, false, false, false, false, false, false, false, false, false, false, false, false, false, false, false, false, false, false, false, false, false, false, false, false, false, false, false, false, false, false, false, false, false], some 25⟩ ⟨[.junk, .junk, .ptr (0, 0) 0 3, .ptr (1, 0) 0 3, .d (.bool false), .d (.int .i64 0), .junk, .junk, .junk, .junk, .junk, .junk, .junk, .junk, .junk, .junk, .junk, .junk, .junk, .junk, .junk, .junk, .junk, .junk, .junk, .junk, .junk, .junk, .junk, .junk, .junk, .junk, .junk, .junk, .junk, .junk, .junk, .junk, .junk, .junk, .junk, .junk, .junk, .junk, .junk, .junk], termH2 v0 fn0 ts v00 fn00 us, 25⟩ = some (e, t) ∧
   (if sameBL ts us then AtExit 0 [.junk, .junk, .ptr (0, 0) 0 3, .ptr (1, 0) 0 3, .d (.bool false), .d (.int .i64 ts.length), .junk, .junk, .junk, .junk, .junk, .junk, .junk, .junk, .junk, .junk, .junk, .junk, .junk, .junk, .junk, .junk, .junk, .junk, .junk, .junk, .junk, .junk, .junk, .junk, .junk, .junk, .junk, .junk, .junk, .junk, .junk, .junk, .junk, .junk, .junk, .junk, .junk, .junk, .junk, .junk] (termH2 v0 fn0 ts v00 fn00 us) e t else AtRet 4 (.d (.bool false)) e t) := by
 refine loop_rule (b := 25) (tm := fun (i : Nat) => [.junk, .junk, .ptr (0, 0) 0 3, .ptr (1, 0) 0 3, .d (.bool false), .d (.int .i64 i), .junk, .junk, .junk, .junk, .junk, .junk, .junk, .junk, .junk, .junk, .junk, .junk, .junk, .junk, .junk, .junk, .junk, .junk, .junk, .junk, .junk, .junk, .junk, .junk, .junk, .junk, .junk, .junk, .junk, .junk, .junk, .junk, .junk, .junk, .junk, .junk, .junk, .junk, .junk, .junk]) (Hf := fun _ => termH2 v0 fn0 ts v00 fn00 us)
  (I := fun i => i ≤ ts.length) (μ := fun i => ts.length - i) (res := fun i => sameBL (ts.drop i) (us.drop i)) (R := fun b e t => if b then AtExit 0 [.junk, .junk, .ptr (0, 0) 0 3, .ptr (1, 0) 0 3, .d (.bool false), .d (.int .i64 ts.length), .junk, .junk, .junk, .junk, .junk, .junk, .junk, .junk, .junk, .junk, .junk, .junk, .junk, .junk, .junk, .junk, .junk, .junk, .junk, .junk, .junk, .junk, .junk, .junk, .junk, .junk, .junk, .junk, .junk, .junk, .junk, .junk, .junk, .junk, .junk, .junk, .junk, .junk, .junk, .junk] (termH2 v0 fn0 ts v00 fn00 us) e t else AtRet 4 (.d (.bool false)) e t)
  (fun i nx hi => ?_) 0 (Nat.zero_le _)
 rcases Nat.lt_or_ge i ts.length with hl | hl
 ·obtain ⟨v, fn, args, a⟩ := at_ok hn hl
  obtain ⟨v2, fn2, args2, b⟩ := at_ok (ts := us) (by omega) (i := i) (by omega)
  have hcall := hrec _ a.mem _ b.mem
  simp [Term.enc] at hcall
  have bsz := b.sz
  have bltm := b.ltm
  have ble3 := b.le3
  rw [hlen] at bsz bltm ble3
  conv => arg 9; arg 4; unfold b22_0
  cases hp : (Term.mk v fn args).sameB (.mk v2 fn2 args2) <;> rw [hp] at hcall <;> simp [a.lti, a.sz, a.ltm, a.cells, a.le3, b.cells, bsz, bltm, ble3, hlen, plc_raw, hcall, a.w, termH2]
  ·exact .fin _ _ (by simp only [a.dr, b.dr, sameBL, hp]; exact ⟨rfl, rfl⟩)
  ·exact .next (i + 1) (by simp) (by simp) (by simp [termH2, hlen]) hl (by omega) (by simp [a.dr, b.dr, sameBL, hp])
 ·obtain rfl : i = ts.length := Nat.le_antisymm hi hl
  simp [b22_0, termH2, hlen]
  exact .fin _ _ (by simp [sameBL, termH2, hlen]; exact .mk)
theorem rsame_ok (t : Term) : t.ok → ∀ u : Term, u.ok → pcl Cp 22 [.agg t.enc, .agg u.enc] = some (.bool (t.sameB u)) := by
 refine Term.ind (p := fun t => t.ok → ∀ u : Term, u.ok → pcl Cp 22 [.agg t.enc, .agg u.enc] = some (.bool (t.sameB u))) (fun v fn args ih h => ?_) t
 intro u hu
 obtain ⟨v2, fn2, args2⟩ := u
 refine pcl_body code22 ?_
 by_cases h3 : args.length = args2.length
 ·obtain ⟨e, t, hrun, hR⟩ := rsame_loop v fn v2 fn2 args args2 h.1 h3.symm (fun x hx y hy => ih x hx (okL_mem h.2 x hx) y (okL_mem hu.2 y hy))
  simp [Term.enc, termH2, h3] at hrun ⊢
  cases hs : sameBL args args2 <;> simp only [hs, if_true, Bool.false_eq_true, if_false] at hR
  ·obtain ⟨rfl, hv⟩ := hR
   repeat' ((try simp only [condP_ite]); split <;> (try simp only [holdE]) <;> (try simp [*, plc_raw]))
   all_goals (simp_all [Term.sameB])
  ·obtain ⟨rfl, nx, rfl⟩ := hR
   repeat' ((try simp only [condP_ite]); split <;> (try simp only [holdE]) <;> (try simp [*, plc_raw]))
   all_goals (simp_all [Term.sameB])
 ·have h3' : ¬ ((args.length : Int) = (args2.length : Int)) := by omega
  simp [Term.enc, h3, h3']
  repeat' ((try simp only [condP_ite]); split <;> (try simp only [holdE]) <;> (try simp [*, plc_raw]))
  all_goals (simp_all [Term.sameB])
theorem tright_ok (t : Term) (h : t.ok) : pcl Cp 47 [.agg t.enc] = some (.int .i64 t.rightE) := by
 have h1 := shaped_ok t h
 have h2 := depth_ok t h
 have h3 := size_ok t h
 refine pcl_body code47 ?_
 unfold Term.rightE
 generalize hs : t.shapeB = b at h1
 generalize hd : t.depthW = d at h2
 generalize hz : t.sizeW = z at h3
 obtain ⟨v, fn, args⟩ := t
 simp [Term.enc] at h1 h2 h3 ⊢
 simp [plc_raw, h1, h2, h3]
 repeat' ((try simp only [condP_ite]); split <;> (try simp only [holdE]) <;> (try simp [*, plc_raw]))
 all_goals (simp_all)
theorem rright_ok (t : Term) (h : t.ok) : pcl Cp 25 [.agg t.enc] = some (.int .i64 t.rightE) := by
 have h1 := rshape_ok t h
 have h2 := rdepth_ok t h
 have h3 := rsize_ok t h
 refine pcl_body code25 ?_
 unfold Term.rightE
 generalize hs : t.shapeB = b at h1
 generalize hd : t.depthW = d at h2
 generalize hz : t.sizeW = z at h3
 obtain ⟨v, fn, args⟩ := t
 simp [Term.enc] at h1 h2 h3 ⊢
 simp [plc_raw, h1, h2, h3]
 repeat' ((try simp only [condP_ite]); split <;> (try simp only [holdE]) <;> (try simp [*, plc_raw]))
 all_goals (simp_all)
end Go.Proofs.Ytiafeijkifpfaaa.Am

/-
 Loops by one rule, the next object's number being part of the state. No condition.
-/
namespace Go.Proofs.Ytiafeijkifpfaaa.Am
open Go Go.Proofs
inductive RoundN {P : Program} {pol : Pol} {c : ACode} {m : Mask} {σ ρ : Type} (N : σ → Nat) (tm : σ → List AV) (Hf : σ → Hp) (I : σ → Prop) (μ : σ → Nat) (res : σ → ρ) (R : ρ → Ex → St → Prop) (s : σ) : Option (Ex × St) → Prop where
 | next (s' : σ) {tm' : List AV} {H' : Hp} {n : Nat} (hn : n = N s') (htm : tm' = tm s') (hH : H' = Hf s') (hI : I s') (hμ : μ s' < μ s) (hres : res s' = res s) : RoundN N tm Hf I μ res R s (aloop P pol c m ⟨tm', H', n⟩)
 | fin (e : Ex) (t : St) (hR : R (res s) e t) : RoundN N tm Hf I μ res R s (some (e, t))
@[congr] theorem RoundN.congr {P : Program} {pol : Pol} {c : ACode} {m : Mask} {σ ρ : Type} {N : σ → Nat} {tm : σ → List AV} {Hf : σ → Hp} {I : σ → Prop} {μ : σ → Nat} {res : σ → ρ} {R : ρ → Ex → St → Prop} {s : σ} {x y : Option (Ex × St)} (h : x = y) :
  RoundN (P := P) (pol := pol) (c := c) (m := m) N tm Hf I μ res R s x = RoundN (P := P) (pol := pol) (c := c) (m := m) N tm Hf I μ res R s y := by rw [h]
theorem loop_ruleN {P : Program} {pol : Pol} {c : ACode} {m : Mask} {σ ρ : Type} {N : σ → Nat} {tm : σ → List AV} {Hf : σ → Hp} {I : σ → Prop} {μ : σ → Nat} {res : σ → ρ} {R : ρ → Ex → St → Prop}
  (h : ∀ s, I s → RoundN (P := P) (pol := pol) (c := c) (m := m) N tm Hf I μ res R s (loopK (aloop P pol) c m (exec P pol (acall P pol) (aloop P pol) c ⟨tm s, Hf s, N s⟩))) :
  ∀ s, I s → ∃ e t, aloop P pol c m ⟨tm s, Hf s, N s⟩ = some (e, t) ∧ R (res s) e t := by
 have key : ∀ n s, μ s < n → I s → ∃ e t, aloop P pol c m ⟨tm s, Hf s, N s⟩ = some (e, t) ∧ R (res s) e t := by
  intro n
  induction n with
  | zero => intro s h; omega
  | succ n ih =>
   intro s hn hI
   have hr := h s hI
   generalize hx : loopK (aloop P pol) c m (exec P pol (acall P pol) (aloop P pol) c ⟨tm s, Hf s, N s⟩) = x at hr
   cases hr with
   | @next s' tm' H' n' hb htm hH hI' hμ hres =>
    obtain ⟨e, t, h1, h2⟩ := ih s' (by omega) hI'
    exact ⟨e, t, aloop_body (by rw [hx, htm, hH, hb, h1]), hres ▸ h2⟩
   | fin e t hR => exact ⟨e, t, aloop_body hx, hR⟩
 exact fun s hI => key (μ s + 1) s (by omega) hI
end Go.Proofs.Ytiafeijkifpfaaa.Am

/-
 A bank's objects: how their cells are read and written. No condition.
-/
namespace Go.Proofs.Ytiafeijkifpfaaa.Am
open Go Go.Proofs
set_option maxHeartbeats 4000000
set_option linter.unusedSimpArgs false
set_option linter.unusedVariables false
theorem allD_mapJ : ∀ l : List D, allD (l.map .d) = some l
 | [] => rfl
 | x :: r => by simp [allD, allD_mapJ r]
theorem mkAgg_map (l : List D) : mkAgg (l.map .d) = .d (.agg l) := by simp [mkAgg, allD_mapJ]
theorem part_key {l : List D} {r : List AV} (h : l.length = 19) : part Try.prog 80 (l.map .d ++ r) 0 = some (.d (.agg l)) := by
 have e : (List.map AV.d l ++ r).take 19 = l.map .d := by rw [List.take_append_of_le_length (by simp [h]), List.take_of_length_le (by simp [h])]
 simp [part, h, e, mkAgg_map, -mkAgg]
theorem part_key0 {l : List D} (h : l.length = 19) : part Try.prog 80 (l.map .d) 0 = some (.d (.agg l)) := by
 have := part_key (r := []) h
 simpa using this
theorem part_kept {l : List D} {a b : AV} (h : l.length = 19) : part Try.prog 3 (l.map .d ++ [a, b]) 19 = some a := by
 simp [part, List.getElem?_append_right, h]
theorem part_up {l : List D} {a b : AV} (h : l.length = 19) : part Try.prog 3 (l.map .d ++ [a, b]) 20 = some b := by
 simp [part, List.getElem?_append_right, h]
theorem part_v {v : Int} {fn : ByteArray} {n : Nat} {ar : List Int} {r : List AV} : part Try.prog 3 ((keyN v fn n ar).map .d ++ r) 0 = some (.d (.int .i64 v)) := by simp [part, keyN]
theorem part_fn {v : Int} {fn : ByteArray} {n : Nat} {ar : List Int} {r : List AV} : part Try.prog 9 ((keyN v fn n ar).map .d ++ r) 1 = some (.d (.str fn)) := by simp [part, keyN]
theorem part_n {v : Int} {fn : ByteArray} {n : Nat} {ar : List Int} {r : List AV} : part Try.prog 3 ((keyN v fn n ar).map .d ++ r) 2 = some (.d (.int .i64 n)) := by simp [part, keyN]
theorem part_as {v : Int} {fn : ByteArray} {n : Nat} {ar : List Int} {r : List AV} {i : Nat} (hi : i < ar.length) : part Try.prog 3 ((keyN v fn n ar).map .d ++ r) (3 + i) = some (.d (.int .i64 ar[i])) := by
 have e : (keyN v fn n ar)[3 + i]? = some (.int .i64 ar[i]) := by
  rw [show 3 + i = i + 1 + 1 + 1 by omega, keyN, List.getElem?_cons_succ, List.getElem?_cons_succ, List.getElem?_cons_succ, pads_get hi]
 have hl : 3 + i < (keyN v fn n ar).length := by simp [keyN, pads]; omega
 have e2 : (List.map AV.d (keyN v fn n ar) ++ r)[3 + i]? = some (.d (.int .i64 ar[i])) := by
  rw [List.getElem?_append_left (by simpa using hl), List.getElem?_map, e]; rfl
 simp [part, e2]
theorem part_as0 {v : Int} {fn : ByteArray} {n : Nat} {ar : List Int} {i : Nat} (hi : i < ar.length) : part Try.prog 3 ((keyN v fn n ar).map .d) (3 + i) = some (.d (.int .i64 ar[i])) := by
 have := part_as (v := v) (fn := fn) (n := n) (r := []) hi
 simpa using this
theorem part_n0 {v : Int} {fn : ByteArray} {n : Nat} {ar : List Int} : part Try.prog 3 ((keyN v fn n ar).map .d) 2 = some (.d (.int .i64 n)) := by simp [part, keyN]
theorem splice_kept {l : List D} {a b x : AV} (h : l.length = 19) : splice (l.map .d ++ [a, b]) 19 [x] = l.map .d ++ [x, b] := by
 simp [splice, List.take_append, List.drop_append, h, List.take_of_length_le, List.drop_of_length_le]
theorem splice_up {l : List D} {a b x : AV} (h : l.length = 19) : splice (l.map .d ++ [a, b]) 20 [x] = l.map .d ++ [a, x] := by
 simp [splice, List.take_append, List.drop_append, h, List.take_of_length_le, List.drop_of_length_le]
theorem splice_as {v : Int} {fn : ByteArray} {n : Nat} {ar : List Int} (h : ar.length < 16) (x : Int) : splice ((keyN v fn n ar).map .d) (3 + ar.length) [.d (.int .i64 x)] = (keyN v fn n (ar ++ [x])).map .d := by
 have := pads_set h x
 have e : (keyN v fn n ar).take (3 + ar.length) ++ .int .i64 x :: (keyN v fn n ar).drop (3 + ar.length + 1) = keyN v fn n (ar ++ [x]) := by
  rw [show 3 + ar.length = ar.length + 1 + 1 + 1 by omega, show ar.length + 1 + 1 + 1 + 1 = (ar.length + 1) + 1 + 1 + 1 by omega]
  simp only [keyN, List.take_succ_cons, List.drop_succ_cons, List.cons_append, this]
 rw [← e]
 simp [splice]
theorem splice_all {l m : List AV} (h : l.length = m.length) : splice l 0 m = m := by
 simp [splice, h]
theorem set_last {α : Type} (l : List α) (x y : α) : (l ++ [x]).set l.length y = l ++ [y] := by simp
theorem allD_two (l : List D) (a b : D) : allD (l.map .d ++ [.d a, .d b]) = some (l ++ [a, b]) := by
 have := allD_mapJ (l ++ [a, b])
 simpa using this
theorem liftCells_no (id : Nat) : ∀ (l : List AV) (j : Nat), (∀ v ∈ l, isNil v = false) → liftCells id j l = l
 | [], _, _ => rfl
 | v :: r, j, h => by
  rw [liftCells, liftCells_no id r (j + 1) fun x hx => h x (by simp [hx]), lift1, h v (by simp)]; rfl
theorem liftH_no (id : Nat) : ∀ (l : List AV) (j : Nat) (H : Hp), (∀ v ∈ l, isNil v = false) → liftH id j l H = H
 | [], _, _, _ => rfl
 | v :: r, j, H, h => by
  rw [liftH, h v (by simp)]
  exact liftH_no id r (j + 1) H fun x hx => h x (by simp [hx])
theorem key_no {v : Int} {fn : ByteArray} {n : Nat} {ar : List Int} : ∀ x ∈ (keyN v fn n ar).map AV.d, isNil x = false := by
 intro x hx
 obtain ⟨y, hy, rfl⟩ := List.mem_map.1 hx
 simp only [keyN, List.mem_cons, pads_map, List.mem_map] at hy
 rcases hy with rfl | rfl | rfl | ⟨z, _, rfl⟩ <;> rfl
theorem node_no {v : Int} {fn : ByteArray} {n : Nat} {ar : List Int} {a b : Int} : ∀ x ∈ (keyN v fn n ar).map AV.d ++ [.d (.int .i64 a), .d (.int .i64 b)], isNil x = false := by
 intro x hx
 rcases List.mem_append.1 hx with hx | hx
 ·exact key_no x hx
 ·simp only [List.mem_cons, List.not_mem_nil, or_false] at hx
  rcases hx with rfl | rfl <;> rfl
theorem lift_key {v : Int} {fn : ByteArray} {n : Nat} {ar : List Int} (id j : Nat) : liftCells id j ((keyN v fn n ar).map AV.d) = (keyN v fn n ar).map AV.d := liftCells_no _ _ _ key_no
theorem liftH_key {v : Int} {fn : ByteArray} {n : Nat} {ar : List Int} (id j : Nat) (H : Hp) : liftH id j ((keyN v fn n ar).map AV.d) H = H := liftH_no _ _ _ _ key_no
theorem lift_node {v : Int} {fn : ByteArray} {n : Nat} {ar : List Int} {a b : Int} (id j : Nat) : liftCells id j ((keyN v fn n ar).map AV.d ++ [.d (.int .i64 a), .d (.int .i64 b)]) = (keyN v fn n ar).map AV.d ++ [.d (.int .i64 a), .d (.int .i64 b)] := liftCells_no _ _ _ node_no
theorem liftH_node {v : Int} {fn : ByteArray} {n : Nat} {ar : List Int} {a b : Int} (id j : Nat) (H : Hp) : liftH id j ((keyN v fn n ar).map AV.d ++ [.d (.int .i64 a), .d (.int .i64 b)]) H = H := liftH_no _ _ _ _ node_no
theorem splice_new {l : List D} (h : l.length = 19) {z : List AV} {a b : AV} (hz : z.length = 19) : splice (z ++ [a, b]) 0 (l.map .d) = l.map .d ++ [a, b] := by
 simp [splice, h, List.drop_append, hz, List.drop_of_length_le]
theorem splice_whole {l z : List AV} (h : z.length = l.length) : splice z 0 l = l := by simp [splice, h]
theorem key0 (v : Int) (fn : ByteArray) (n : Nat) : [AV.d (.int .i64 v), .d (.str fn), .d (.int .i64 n), .d (.int .i64 0), .d (.int .i64 0), .d (.int .i64 0), .d (.int .i64 0), .d (.int .i64 0), .d (.int .i64 0), .d (.int .i64 0), .d (.int .i64 0), .d (.int .i64 0), .d (.int .i64 0), .d (.int .i64 0), .d (.int .i64 0), .d (.int .i64 0), .d (.int .i64 0), .d (.int .i64 0), .d (.int .i64 0)] = (keyN v fn n []).map .d := by
 simp [keyN, pads, List.replicate]
theorem p3_0 {t : TypeId} {a b c : AV} (h : tagg Try.prog t = some false) : part Try.prog t [a, b, c] 0 = some a := by simp [part, h]
theorem p3_1 {t : TypeId} {a b c : AV} (h : tagg Try.prog t = some false) : part Try.prog t [a, b, c] 1 = some b := by simp [part, h]
theorem p3_2 {t : TypeId} {a b c : AV} (h : tagg Try.prog t = some false) : part Try.prog t [a, b, c] 2 = some c := by simp [part, h]
theorem p3_t {a b c : D} : part Try.prog 32 [.d a, .d b, .d c] 0 = some (.d (.agg [a, b, c])) := by simp [part]
end Go.Proofs.Ytiafeijkifpfaaa.Am

/-
 The least number that is free, and how often nodes stand elsewhere: two loops of lay. No condition.
-/
namespace Go.Proofs.Ytiafeijkifpfaaa.Am
open Go Go.Proofs
set_option maxHeartbeats 4000000
set_option maxRecDepth 20000
set_option linter.unusedSimpArgs false
set_option linter.unusedVariables false
abbrev upI (G : List Gn) : Int → Int := fun i => (upG G i : Int)
abbrev BH (H : Hp) (N : Nat) (o m1 m2 : Oid) (P : Int → Oid) (lim : Int) (L : List Nd) : Prop := BkH H N ⟨o, m1, m2, P⟩ lim (gr L) (kpL L) (upI (gr L))
abbrev Ft (o m1 m2 : Oid) (P : Int → Oid) (L : List Nd) (p : Oid) : Prop := Foot ⟨o, m1, m2, P⟩ (gr L) p
theorem BkH.old {H H' : Hp} {N M : Nat} {V : Vw} {lim : Int} {G : List Gn} {kp up : Int → Int} (h : BkH H N V lim G kp up) (k : ∀ p : Oid, p.1 < N → H' p = H p) (hM : N ≤ M) : BkH H' M V lim G kp up :=
 (h.keep fun p hp => k p (h.foot_lt hp)).mono hM
theorem BkH.look {H : Hp} {N : Nat} {V : Vw} {lim : Int} {G : List Gn} {kp up : Int → Int} (h : BkH H N V lim G kp up) (hn : (G.map (·.id)).Nodup) :
  ∃ es c, H V.m1 = some (.mp shI es c) ∧ es.length = G.length ∧ (∀ g ∈ G, ∃ k st, findK (.int .i64 g.id) es 0 = some (k, .ptr (V.P g.id) 0 21, st)) ∧ ∀ i, (∀ g ∈ G, g.id ≠ i) → findK (.int .i64 i) es 0 = none := by
 obtain ⟨s, c, e, hs⟩ := h.nodes
 refine ⟨_, c, e, by simp, fun g hg => ?_, fun i hi => ?_⟩
 ·obtain ⟨A, B, rfl, hA, hB, hd⟩ := GOk.split hn hg
  exact ⟨_, _, findK_at 0 (fun y hy => by simpa [eqD, eq1] using (hA y hy).symm) (by simp [eqD, eq1])⟩
 ·exact findK_none 0 fun g hg => by simpa [eqD, eq1] using (hi g hg).symm
theorem gr_has {L : List Nd} {i : Int} : (∃ g ∈ gr L, g.id = i) ↔ hasI L i = true := by
 rw [hasI_iff]
 constructor
 ·rintro ⟨g, hg, rfl⟩
  obtain ⟨n, hn, rfl⟩ := List.mem_map.1 hg
  exact ⟨n, hn, rfl⟩
 ·rintro ⟨n, hn, rfl⟩
  exact ⟨_, List.mem_map.2 ⟨n, hn, rfl⟩, rfl⟩
abbrev idT (o kq : Oid) (i : Int) : List AV := [.ptr o 0 3, .junk, .junk, .junk, .d (.int .i64 0), .ptr kq 0 19, .junk, .junk, .junk, .junk, .d (.int .i64 i), .junk, .junk, .junk, .junk, .junk, .junk, .junk, .junk, .junk, .junk, .junk, .junk, .junk, .junk, .junk, .junk, .junk, .junk, .junk, .junk, .junk, .junk, .junk, .junk, .junk, .junk, .junk, .junk, .junk, .junk, .junk, .junk, .junk, .junk, .junk, .junk, .junk, .junk, .junk, .junk, .junk, .junk, .junk, .junk, .junk, .junk, .junk, .junk, .junk, .junk, .junk, .junk, .junk, .junk, .junk, .junk, .junk, .junk, .junk, .junk, .junk, .junk, .junk, .junk, .junk, .junk, .junk, .junk, .junk, .junk, .junk, .junk, .junk, .junk, .junk, .junk, .junk, .junk, .junk, .junk, .junk, .junk, .junk, .junk, .junk, .junk]
theorem id_loop {H : Hp} {N : Nat} {o m1 m2 : Oid} {P : Int → Oid} {lim : Int} {L : List Nd} (h : BH H N o m1 m2 P lim L) (hb : Bk L) (hn : (L.length : Int) ≤ 1099511627776) (kq : Oid) (nx : Nat) :
  ∃ nx', aloop Try.prog plc b48_1 ⟨[true, false, false, false, true, true, false, false, false, false, true, false, true, false, false, false, false, false, false, false, false, false, false, false, false, false, false, false, false, false, false, false, false, false, false, false, false, false, false, false, false, false, false, false, false, false, false, false, false, false, false, false, false, false, false, false, true, true, true, true, true, true, true, true, true, true, true, true, true, true, true, true, true, true, true, true, true, true, true, true, true, true, true, true, true, true, true, true, true, true, true, true, true, true, true, true, true], none⟩ ⟨idT o kq 1, H, nx⟩ = some (.exit 2, ⟨idT o kq (freeI L), H, nx'⟩) ∧ nx ≤ nx' := by
 have hroot := h.root
 obtain ⟨es, c, e1, hl, hf, hno⟩ := h.look hb.g.ids
 simp only at hroot e1 hf
 have key := loop_ruleN (P := Try.prog) (pol := plc) (c := b48_1) (m := ⟨[true, false, false, false, true, true, false, false, false, false, true, false, true, false, false, false, false, false, false, false, false, false, false, false, false, false, false, false, false, false, false, false, false, false, false, false, false, false, false, false, false, false, false, false, false, false, false, false, false, false, false, false, false, false, false, false, true, true, true, true, true, true, true, true, true, true, true, true, true, true, true, true, true, true, true, true, true, true, true, true, true, true, true, true, true, true, true, true, true, true, true, true, true, true, true, true, true], none⟩)
  (N := fun s : Int × Nat => s.2) (tm := fun s => idT o kq s.1) (Hf := fun _ => H) (I := fun s => 1 ≤ s.1 ∧ (∀ j, 1 ≤ j → j < s.1 → hasI L j = true) ∧ nx ≤ s.2)
  (μ := fun s => (L.length + 2 - s.1).toNat) (res := fun _ => ()) (R := fun _ e st => e = .exit 2 ∧ ∃ nx', st = ⟨idT o kq (freeI L), H, nx'⟩ ∧ nx ≤ nx')
  (fun s hI => by
   obtain ⟨i, n⟩ := s
   obtain ⟨h0, hall, hle⟩ := hI
   simp only at h0 hall hle
   have hi := free_le h0 hall
   have hw : IntKind.i64.wrap (i + 1) = i + 1 := wrap_i64 (by omega) (by omega)
   by_cases hh : hasI L i = true
   ·obtain ⟨g, hg, rfl⟩ := gr_has.2 hh
    obtain ⟨k, st, hk⟩ := hf g hg
    simp [b48_1, hroot, e1, hk, hw, Nat.add_assoc]
    exact .next (g.id + 1, n + 10) rfl rfl rfl ⟨by omega, fun j h1 h2 => by
     by_cases e : j = g.id
     ·exact e ▸ hh
     ·exact hall j h1 (by simp only at h2; omega), by simp only; omega⟩ (by simp only; omega) rfl
   ·have hk := hno i (fun g hg e => hh (gr_has.1 ⟨g, hg, e⟩))
    have hfr : freeI L = i := isFree_uniq (freeI_ok L) ⟨h0, by simpa using hh, hall⟩
    simp [b48_1, hroot, e1, hk, hw, Nat.add_assoc]
    exact .fin _ _ ⟨rfl, _, by rw [hfr], by omega⟩) (1, nx) ⟨by simp, fun j h1 h2 => by simp only at h2; omega, Nat.le_refl _⟩
 obtain ⟨e, st, hrun, rfl, nx', rfl, hle⟩ := key
 exact ⟨nx', hrun, hle⟩
abbrev upT (o kq : Oid) (n : Nat) (id : Int) (j : Nat) : List AV := [.ptr o 0 3, .junk, .junk, .junk, .d (.int .i64 0), .junk, .junk, .junk, .junk, .junk, .d (.int .i64 id), .junk, .junk, .junk, .junk, .junk, .junk, .junk, .junk, .junk, .junk, .junk, .junk, .junk, .junk, .junk, .junk, .junk, .junk, .junk, .junk, .junk, .junk, .junk, .junk, .junk, .junk, .junk, .junk, .junk, .junk, .junk, .junk, .junk, .junk, .junk, .junk, .junk, .junk, .junk, .junk, .junk, .junk, .junk, .junk, .junk, .junk, .junk, .junk, .junk, .junk, .junk, .junk, .junk, .junk, .junk, .junk, .junk, .junk, .junk, .junk, .junk, .junk, .junk, .junk, .junk, .junk, .vsl kq 3 n 1 19, .d (.int .i64 n), .d (.int .i64 j), .junk, .junk, .junk, .junk, .junk, .junk, .junk, .junk, .junk, .junk, .junk, .junk, .junk, .junk, .junk, .junk, .junk]
theorem count_take {l : List Int} {j : Nat} (hj : j < l.length) (i : Int) : (l.take (j + 1)).count i = (l.take j).count i + if l[j] = i then 1 else 0 := by
 rw [List.take_succ_eq_append_getElem hj, List.count_append, List.count_cons, List.count_nil, Nat.zero_add]
 by_cases e : l[j] = i <;> simp [e]
structure UpS (H : Hp) (N : Nat) (V : Vw) (lim : Int) (G : List Gn) (kp up : Int → Int) (ids : List Int) (nx : Nat) (s : Nat × Hp × Nat) : Prop where
 le : s.1 ≤ ids.length
 nx : nx ≤ s.2.2
 bh : BkH s.2.1 N V lim G kp (fun i => up i + (ids.take s.1).count i)
 fr : ∀ p, (¬ ∃ g ∈ G, p = V.P g.id) → s.2.1 p = H p
def UpR (H : Hp) (N : Nat) (V : Vw) (lim : Int) (G : List Gn) (kp up : Int → Int) (ids : List Int) (nx : Nat) (tm : List AV) (x : Ex) (_ : Unit) (e : Ex) (st : St) : Prop := e = x ∧ ∃ H' nx', st = ⟨tm, H', nx'⟩ ∧ UpS H N V lim G kp up ids nx (ids.length, H', nx')
theorem up_loop {H : Hp} {N : Nat} {V : Vw} {lim : Int} {G : List Gn} {kp up : Int → Int} (h : BkH H N V lim G kp up) (hg : GOk G) {v : Int} {fn : ByteArray} {ids : List Int} (hids : ∀ a ∈ ids, ∃ g ∈ G, g.id = a) (h16 : ids.length ≤ 16)
  (hup : ∀ i, 0 ≤ up i ∧ up i ≤ 1125899906842624) {kq : Oid} (hkq : H kq = some (.cells ((keyN v fn ids.length ids).map .d))) (hno : ¬ Foot V G kq) (id : Int) (nx : Nat) :
  ∃ H' nx', aloop Try.prog plc b48_0 ⟨[true, false, false, false, true, false, false, false, false, false, true, false, false, false, false, false, false, false, false, false, false, false, false, false, false, false, false, false, false, false, false, false, false, false, false, false, false, false, false, false, false, false, false, false, false, false, false, false, false, false, false, false, false, false, false, false, false, false, false, false, false, false, false, false, false, false, false, false, false, false, false, false, false, false, false, false, false, true, true, true, false, false, false, false, false, false, false, false, false, false, false, false, false, false, false, false, true], none⟩ ⟨upT V.o kq ids.length id 0, H, nx⟩ = some (.exit 4, ⟨upT V.o kq ids.length id ids.length, H', nx'⟩) ∧ nx ≤ nx' ∧
   BkH H' N V lim G kp (fun i => up i + ids.count i) ∧ ∀ p, (¬ ∃ g ∈ G, p = V.P g.id) → H' p = H p := by
 have hkl : (keyN v fn ids.length ids).length = 19 := keyN_len h16
 have key := loop_ruleN (P := Try.prog) (pol := plc) (c := b48_0) (m := ⟨[true, false, false, false, true, false, false, false, false, false, true, false, false, false, false, false, false, false, false, false, false, false, false, false, false, false, false, false, false, false, false, false, false, false, false, false, false, false, false, false, false, false, false, false, false, false, false, false, false, false, false, false, false, false, false, false, false, false, false, false, false, false, false, false, false, false, false, false, false, false, false, false, false, false, false, false, false, true, true, true, false, false, false, false, false, false, false, false, false, false, false, false, false, false, false, false, true], none⟩)
  (N := fun s : Nat × Hp × Nat => s.2.2) (tm := fun s => upT V.o kq ids.length id s.1) (Hf := fun s => s.2.1)
  (I := UpS H N V lim G kp up ids nx) (μ := fun s => ids.length - s.1) (res := fun _ => ()) (R := UpR H N V lim G kp up ids nx (upT V.o kq ids.length id ids.length) (.exit 4))
  (fun s hI => by
   obtain ⟨j, H1, n⟩ := s
   obtain ⟨hj, hle, h1, hk⟩ := hI
   simp only at hj hle h1 hk
   rcases Nat.lt_or_ge j ids.length with hl | hl
   ·have hroot := h1.root
    obtain ⟨es, c, e1, hel, hf, _⟩ := h1.look hg.ids
    obtain ⟨g, hgm, hgi⟩ := hids ids[j] (List.getElem_mem hl)
    obtain ⟨k, st, hfk⟩ := hf g hgm
    rw [hgi] at hfk
    have hnode := h1.node g hgm
    have hkq1 : H1 kq = some (.cells ((keyN v fn ids.length ids).map .d)) := (hk kq fun ⟨y, hy, e⟩ => hno (.inr (.inr (.inr ⟨y, hy, e⟩)))).trans hkq
    have hgl : g.key.length = 19 := keyN_len (hg.small g hgm)
    have hu := hup g.id
    have hc : (ids.take j).count g.id ≤ 16 := Nat.le_trans List.count_le_length (by rw [List.length_take]; omega)
    have hw : IntKind.i64.wrap (up g.id + ((ids.take j).count g.id : Int) + 1) = up g.id + ((ids.take j).count g.id : Int) + 1 := wrap_i64 (by omega) (by omega)
    have hw2 : IntKind.i64.wrap ((j : Int) + 1) = (j : Int) + 1 := wrap_i64 (by omega) (by omega)
    rw [hgi] at hnode hw
    have hjl : (j : Int) < (ids.length : Int) := by omega
    obtain ⟨H2, hH2⟩ : ∃ H2, H2 = upd H1 (V.P ids[j]) (.cells (g.key.map .d ++ [.d (.int .i64 (kp ids[j])), .d (.int .i64 (up ids[j] + ((ids.take j).count ids[j] : Int) + 1))])) := ⟨_, rfl⟩
    simp [b48_0, -splice, -part, p3_1, hroot, e1, hkl, hkq1, part_as0 hl, hfk, hnode, hgl, part_up hgl, splice_up hgl, hw, hw2, hjl, hl, ← hH2, Nat.add_assoc]
    refine .next (j + 1, H2, n + 19) rfl rfl rfl ⟨hl, by simp only; omega, ?_, fun p hp => ?_⟩ (by simp only; omega) rfl
    ·refine BkH.turn (H' := H2) h1 hgm ?_ (fun p hp => ?_) (fun i _ => rfl) (fun i hi => ?_) hg.ids
     ·rw [hgi, hH2, upd_same]
      simp only [count_take hl, if_pos, Int.natCast_add, Int.natCast_one, Int.add_assoc]
     ·rw [hH2, upd_ne (by rw [← hgi]; exact hp)]
     ·have : ¬ ids[j] = i := fun e => hi (by rw [← e, hgi])
      simp only [count_take hl, if_neg this, Nat.add_zero]
    ·show H2 p = H p
     rw [hH2, upd_ne fun e => hp ⟨g, hgm, by rw [e, hgi]⟩, hk p hp]
   ·obtain rfl : j = ids.length := Nat.le_antisymm hj hl
    simp [b48_0]
    exact .fin _ _ ⟨rfl, H1, _, rfl, Nat.le_refl _, by simp only; omega, h1, hk⟩) (0, H, nx) ⟨Nat.zero_le _, Nat.le_refl _, by simpa using h, fun _ _ => rfl⟩
 obtain ⟨e, st, hrun, rfl, H', nx', rfl, h0, h1, h2, h3⟩ := key
 simp only [List.take_length] at h2
 exact ⟨H', nx', hrun, h1, h2, h3⟩
end Go.Proofs.Ytiafeijkifpfaaa.Am

/-
 A term is laid: its arguments. No condition.
-/
namespace Go.Proofs.Ytiafeijkifpfaaa.Am
open Go Go.Proofs
set_option maxHeartbeats 4000000
set_option maxRecDepth 20000
set_option linter.unusedSimpArgs false
set_option linter.unusedVariables false
structure Did (lim : Int) (o m1 m2 : Oid) (H : Hp) (nx : Nat) (P : Int → Oid) (L : List Nd) (H' : Hp) (nx' : Nat) (P' : Int → Oid) (L' : List Nd) : Prop where
 bh : BH H' nx' o m1 m2 P' lim L'
 le : nx ≤ nx'
 fr : ∀ p : Oid, p.1 < nx → ¬ Ft o m1 m2 P L p → H' p = H p
 ft : ∀ p : Oid, Ft o m1 m2 P' L' p → Ft o m1 m2 P L p ∨ nx ≤ p.1
theorem Did.trans {lim : Int} {o m1 m2 : Oid} {H H1 H1' H2 : Hp} {nx n1 n2 : Nat} {P P1 P2 : Int → Oid} {L L1 L2 : List Nd} (h : Did lim o m1 m2 H nx P L H1 n1 P1 L1) (k : Did lim o m1 m2 H1' n1 P1 L1 H2 n2 P2 L2) (hk : ∀ p : Oid, p.1 < nx → H1' p = H1 p) : Did lim o m1 m2 H nx P L H2 n2 P2 L2 := by
 refine ⟨k.bh, Nat.le_trans h.le k.le, fun p hp hF => ?_, fun p hp => ?_⟩
 ·have h1 : ¬ Ft o m1 m2 P1 L1 p := fun e => by
   rcases h.ft p e with e | e
   ·exact hF e
   ·omega
  rw [k.fr p (by have := h.le; omega) h1, hk p hp, h.fr p hp hF]
 ·rcases k.ft p hp with e | e
  ·exact h.ft p e
  ·right; have := h.le; omega
theorem Did.start {lim : Int} {o m1 m2 : Oid} {H H' : Hp} {nx n1 n : Nat} {P P1 : Int → Oid} {L L1 : List Nd} (h : Did lim o m1 m2 H n P L H' n1 P1 L1) (hle : nx ≤ n) : Did lim o m1 m2 H nx P L H' n1 P1 L1 :=
 ⟨h.bh, by have := h.le; omega, fun p hp => h.fr p (by omega), fun p hp => (h.ft p hp).imp id fun e => by omega⟩
theorem Did.refl {lim : Int} {o m1 m2 : Oid} {H H' : Hp} {N nx n1 : Nat} {P : Int → Oid} {L : List Nd} (h : BH H N o m1 m2 P lim L) (hN : N ≤ n1) (hn : nx ≤ n1) (hk : ∀ p : Oid, p.1 < N → H' p = H p) (hk2 : ∀ p : Oid, p.1 < nx → H' p = H p) : Did lim o m1 m2 H nx P L H' n1 P L :=
 ⟨h.old hk hN, hn, fun p hp _ => hk2 p hp, fun p hp => .inl hp⟩
def LaySpec (x : Term) : Prop := ∀ (H : Hp) (nx : Nat) (o m1 m2 : Oid) (P : Int → Oid) (lim : Int) (L : List Nd), BH H nx o m1 m2 P lim L → Bk L → (L.length : Int) + x.parts.length ≤ 1099511627776 →
 ∃ H' nx' P', acall Try.prog plc 48 [.ptr o 0 3, .d (.agg x.enc)] H nx = some (.d (.int .i64 (idOf (layB L x.parts) x)), H', nx') ∧ Did lim o m1 m2 H nx P L H' nx' P' (layB L x.parts)
structure ArS where
 i : Nat
 H : Hp
 N : Nat
 P : Int → Oid
 L : List Nd
abbrev argT (o kq : Oid) (ts : List Term) (i : Nat) : List AV := [.ptr o 0 3, .junk, .junk, .junk, .d (.int .i64 0), .ptr kq 0 19, .junk, .junk, .junk, .junk, .junk, .junk, .junk, .junk, .junk, .junk, .junk, .junk, .junk, .junk, .junk, .junk, .d (.sl (encL ts) ts.length false none), .d (.int .i64 ts.length), .d (.int .i64 i), .junk, .junk, .junk, .junk, .junk, .junk, .junk, .junk, .junk, .junk, .junk, .junk, .junk, .junk, .junk, .junk, .junk, .junk, .junk, .junk, .junk, .junk, .junk, .junk, .junk, .junk, .junk, .junk, .junk, .junk, .junk, .junk, .junk, .junk, .junk, .junk, .junk, .junk, .junk, .junk, .junk, .junk, .junk, .junk, .junk, .junk, .junk, .junk, .junk, .junk, .junk, .junk, .junk, .junk, .junk, .junk, .junk, .junk, .junk, .junk, .junk, .junk, .junk, .junk, .junk, .junk, .junk, .junk, .junk, .junk, .junk, .junk]
structure ArI (lim : Int) (o m1 m2 kq : Oid) (H : Hp) (nx : Nat) (P : Int → Oid) (L : List Nd) (v : Int) (fn : ByteArray) (ts : List Term) (s : ArS) : Prop where
 le : s.i ≤ ts.length
 did : Did lim o m1 m2 H nx P L s.H s.N s.P s.L
 bk : Bk s.L
 eq : s.L = layB L (partsL (ts.take s.i))
 key : s.H kq = some (.cells ((keyN v fn ts.length ((ts.take s.i).map (idOf s.L))).map .d))
 no : ¬ Ft o m1 m2 s.P s.L kq
 lt : kq.1 < s.N
def ArR (lim : Int) (o m1 m2 kq : Oid) (H : Hp) (nx : Nat) (P : Int → Oid) (L : List Nd) (v : Int) (fn : ByteArray) (ts : List Term) (_ : Unit) (e : Ex) (st : St) : Prop :=
 e = .exit 0 ∧ ∃ s, ArI lim o m1 m2 kq H nx P L v fn ts s ∧ s.i = ts.length ∧ st = ⟨argT o kq ts ts.length, s.H, s.N⟩
theorem partsL_take {ts : List Term} {i : Nat} (h : i < ts.length) : partsL (ts.take (i + 1)) = partsL (ts.take i) ++ ts[i].parts := by
 have ap : ∀ a b : List Term, partsL (a ++ b) = partsL a ++ partsL b := by
  intro a b
  induction a with
  | nil => simp [partsL]
  | cons x r ih => simp [partsL, ih]
 rw [List.take_succ_eq_append_getElem h, ap]
 simp [partsL]
theorem partsL_len {ts : List Term} {i : Nat} : (partsL (ts.take i)).length ≤ (partsL ts).length := by
 have ap : ∀ a b : List Term, partsL (a ++ b) = partsL a ++ partsL b := by
  intro a b
  induction a with
  | nil => simp [partsL]
  | cons x r ih => simp [partsL, ih]
 have := congrArg List.length (ap (ts.take i) (ts.drop i))
 rw [List.take_append_drop, List.length_append] at this
 omega
theorem args_loop {lim : Int} {o m1 m2 kq : Oid} {H : Hp} {nx : Nat} {P : Int → Oid} {L : List Nd} {v : Int} {fn : ByteArray} {ts : List Term} (hts : ts.length ≤ 16) (hrec : ∀ x ∈ ts, LaySpec x) (hfit : ∀ x ∈ ts, x.fits) (hkx : nx ≤ kq.1)
  (hsz : (L.length : Int) + (partsL ts).length ≤ 1099511627776) (s0 : ArS) (h0 : ArI lim o m1 m2 kq H nx P L v fn ts s0) (hi : s0.i = 0) :
  ∃ s, ArI lim o m1 m2 kq H nx P L v fn ts s ∧ s.i = ts.length ∧ aloop Try.prog plc b48_2 ⟨[true, false, false, false, true, true, false, false, true, true, true, false, true, false, false, false, false, false, false, false, false, false, true, true, true, false, false, false, false, false, false, false, false, false, false, false, true, true, true, true, true, true, true, true, true, true, true, true, true, true, true, true, true, true, true, true, true, true, true, true, true, true, true, true, true, true, true, true, true, true, true, true, true, true, true, true, true, true, true, true, true, true, true, true, true, true, true, true, true, true, true, true, true, true, true, true, true], none⟩ ⟨argT o kq ts 0, s0.H, s0.N⟩ = some (.exit 0, ⟨argT o kq ts ts.length, s.H, s.N⟩) := by
 have key := loop_ruleN (P := Try.prog) (pol := plc) (c := b48_2) (m := ⟨[true, false, false, false, true, true, false, false, true, true, true, false, true, false, false, false, false, false, false, false, false, false, true, true, true, false, false, false, false, false, false, false, false, false, false, false, true, true, true, true, true, true, true, true, true, true, true, true, true, true, true, true, true, true, true, true, true, true, true, true, true, true, true, true, true, true, true, true, true, true, true, true, true, true, true, true, true, true, true, true, true, true, true, true, true, true, true, true, true, true, true, true, true, true, true, true, true], none⟩)
  (N := fun s : ArS => s.N) (tm := fun s => argT o kq ts s.i) (Hf := fun s => s.H)
  (I := ArI lim o m1 m2 kq H nx P L v fn ts) (μ := fun s => ts.length - s.i) (res := fun _ => ()) (R := ArR lim o m1 m2 kq H nx P L v fn ts)
  (fun s hI => by
   rcases Nat.lt_or_ge s.i ts.length with hl | hl
   ·obtain ⟨v1, fn1, args, a⟩ := at_ok (by omega) hl
    have hget : ts[s.i] = .mk v1 fn1 args := a.get
    obtain ⟨H2, hH2⟩ : ∃ H2, H2 = upd (upd s.H (s.N + 4, 3) .vnil) (s.N + 4, 0) (.cells [.d (.int .i64 v1), .d (.str fn1), .d (.sl (encL args) args.length false none)]) := ⟨_, rfl⟩
    have hz0 : H2 (s.N + 4, 0) = some (.cells [.d (.int .i64 v1), .d (.str fn1), .d (.sl (encL args) args.length false none)]) := by rw [hH2, upd_same]
    have hk2 : ∀ p : Oid, p.1 < s.N → H2 p = s.H p := fun p hp => by rw [hH2, upd_old (by omega), upd_old (by omega)]
    have hpl : (s.L.length : Int) + (Term.mk v1 fn1 args).parts.length ≤ 1099511627776 := by
     obtain ⟨M, e, _, hM⟩ := lay_ext (partsL (ts.take s.i)) L
     have h1 := partsL_take hl
     have h2 := partsL_len (ts := ts) (i := s.i + 1)
     rw [h1, List.length_append, hget] at h2
     have h3 := congrArg List.length e
     rw [List.length_append, ← hI.eq] at h3
     omega
    obtain ⟨H3, n3, P3, c3, d3⟩ := hrec _ a.mem H2 (s.N + 14) o m1 m2 s.P lim s.L (hI.did.bh.old hk2 (by omega)) hI.bk hpl
    obtain ⟨y, hy⟩ : ∃ y, y = idOf (layB s.L (Term.mk v1 fn1 args).parts) (.mk v1 fn1 args) := ⟨_, rfl⟩
    rw [← hy] at c3
    have g3 := d3.le
    have hlt := hI.lt
    obtain ⟨ks, hks⟩ : ∃ ks, ks = (ts.take s.i).map (idOf s.L) := ⟨_, rfl⟩
    have hkq3 : H3 kq = some (.cells ((keyN v fn ts.length ks).map .d)) := by
     rw [d3.fr kq (by omega) hI.no, hk2 kq hlt, hks]; exact hI.key
    have hil : ks.length = s.i := by rw [hks, List.length_map, List.length_take]; omega
    have hkl : (keyN v fn ts.length ks).length = 19 := keyN_len (by rw [hil]; omega)
    have hsp := splice_as (v := v) (fn := fn) (n := ts.length) (ar := ks) (by rw [hil]; omega) y
    rw [hil] at hsp
    have hi16 : (s.i : Int) < 16 := by omega
    simp only [Term.enc] at c3
    obtain ⟨H4, hH4⟩ : ∃ H4, H4 = upd H3 kq (.cells ((keyN v fn ts.length (ks ++ [y])).map .d)) := ⟨_, rfl⟩
    have hi17 : 3 + (s.i + 1) ≤ 19 := by omega
    simp [b48_2, -splice, splice_whole, plc_raw, a.lti, a.sz, a.ltm, a.cells, a.le3, a.w, hz0, ← hH2, c3, hkq3, hkl, hsp, hi16, hi17, ← hH4, Nat.add_assoc]
    have hL : layB s.L (Term.mk v1 fn1 args).parts = layB L (partsL (ts.take (s.i + 1))) := by rw [partsL_take hl, layB_append, ← hI.eq, hget]
    have hks2 : ks ++ [y] = (ts.take (s.i + 1)).map (idOf (layB s.L (Term.mk v1 fn1 args).parts)) := by
     rw [List.take_succ_eq_append_getElem hl, List.map_append, hget, hks, hy]
     congr 1
     refine List.map_congr_left fun z hz => (lay_id ?_).symm
     rw [hI.eq]
     exact lay_mem _ _ (partsL_mem hz (parts_self z))
    have hno3 : ¬ Ft o m1 m2 P3 (layB s.L (Term.mk v1 fn1 args).parts) kq := fun e => by
     rcases d3.ft kq e with e | e
     ·exact hI.no e
     ·omega
    have hkF : ∀ p, Ft o m1 m2 P3 (layB s.L (Term.mk v1 fn1 args).parts) p → H4 p = H3 p := fun p hp => by
     rw [hH4]; exact upd_ne fun e => hno3 (by rw [← e]; exact hp)
    have d4 := hI.did.trans (d3.start (nx := s.N) (by omega)) fun p hp => hk2 p (by have := hI.did.le; omega)
    have hnext : ArI lim o m1 m2 kq H nx P L v fn ts (ArS.mk (s.i + 1) H4 (n3 + 2) P3 (layB s.L (Term.mk v1 fn1 args).parts)) := by
     refine ⟨hl, ⟨(d4.bh.keep hkF).mono (by simp only; omega), by have := d4.le; simp only; omega, fun p hp hF => ?_, d4.ft⟩, Bk.lay _ (hfit _ a.mem) _ hI.bk, hL, ?_, hno3, by simp only; omega⟩
     ·show H4 p = H p
      rw [hH4, upd_ne (fun e => by rw [e] at hp; omega)]; exact d4.fr p hp hF
     ·show H4 kq = _
      rw [hH4, upd_same, hks2]
    exact .next _ rfl rfl rfl hnext (by simp only; omega) rfl
   ·have hte : s.i = ts.length := Nat.le_antisymm hI.le hl
    simp [b48_2, hte, Nat.add_assoc]
    refine .fin _ _ ⟨rfl, ⟨s.i, s.H, s.N + 1, s.P, s.L⟩, ⟨hI.le, ⟨hI.did.bh.mono (Nat.le_succ _), by have := hI.did.le; simp only; omega, hI.did.fr, hI.did.ft⟩, hI.bk, hI.eq, hI.key, hI.no, by have := hI.lt; simp only; omega⟩, hte, by simp⟩) s0 h0
 obtain ⟨e, st, hrun, rfl, s, hs, hsi, rfl⟩ := key
 rw [hi] at hrun
 exact ⟨s, hs, hsi, hrun⟩
end Go.Proofs.Ytiafeijkifpfaaa.Am

/-
 A term is laid. No condition.
-/
namespace Go.Proofs.Ytiafeijkifpfaaa.Am
open Go Go.Proofs
set_option maxHeartbeats 4000000
set_option maxRecDepth 20000
set_option linter.unusedSimpArgs false
set_option linter.unusedVariables false
def KeyInj (G : List Gn) : Prop := ∀ g ∈ G, ∀ y ∈ G, eqL g.key y.key = true → g.id = y.id
theorem Bk.keyInj {L : List Nd} (h : Bk L) : KeyInj (gr L) := by
 intro g hg y hy e
 obtain ⟨h1, h2, h3⟩ := key_eq.1 e
 obtain ⟨n, hn, rfl⟩ := List.mem_map.1 hg
 obtain ⟨m, hm, rfl⟩ := List.mem_map.1 hy
 have := (h.key (t := m.t) (h.cl m hm) hn).1 ⟨h1, h2, h3⟩
 simp only
 rw [← h.idOf hn, ← h.idOf hm, this]
theorem BkH.look2 {H : Hp} {N : Nat} {V : Vw} {lim : Int} {G : List Gn} {kp up : Int → Int} (h : BkH H N V lim G kp up) (hn : (G.map (·.id)).Nodup) (hi : KeyInj G) :
  ∃ es c, H V.m2 = some (.mp shK es c) ∧ (∀ g ∈ G, ∃ k st, findK (.agg g.key) es 0 = some (k, .d (.int .i64 g.id), st)) ∧ ∀ q, (∀ g ∈ G, eqL q g.key = false) → findK (.agg q) es 0 = none := by
 obtain ⟨s, c, e, hs⟩ := h.idm
 refine ⟨_, c, e, fun g hg => ?_, fun q hq => ?_⟩
 ·obtain ⟨A, B, rfl, hA, hB, hd⟩ := GOk.split hn hg
  refine ⟨_, _, findK_at 0 (fun y hy => ?_) ?_⟩
  ·show eqL g.key y.key = false
   rw [← Bool.not_eq_true]
   exact fun e => hA y hy (hi g (by simp) y (by simp [hy]) e).symm
  ·show eqL g.key g.key = true
   exact key_eq.2 ⟨rfl, rfl, rfl⟩
 ·exact findK_none 0 fun g hg => hq g hg
theorem kp_none {L : List Nd} {i : Int} (h : hasI L i = false) : kpL L i = 0 := by
 unfold kpL
 cases e : L.find? (fun n => decide (n.id = i)) with
 | none => rfl
 | some n => exact absurd (by simpa using List.find?_some e) (hasI_ff.1 h n (List.mem_of_find?_eq_some e))
theorem up_none {L : List Nd} (hb : Bk L) {i : Int} (h : hasI L i = false) : upG (gr L) i = 0 := by
 rcases Nat.eq_zero_or_pos (upG (gr L) i) with h1 | h1
 ·exact h1
 ·obtain ⟨g, hg, hi⟩ := upG_pos.1 h1
  obtain ⟨m, hm, e⟩ := hb.g.cl g hg i hi
  rw [gr_has.1 ⟨m, hm, e⟩] at h; cases h
theorem lay_ok (x : Term) : x.ok → x.fits → LaySpec x := by
 refine Term.ind (p := fun t => t.ok → t.fits → LaySpec t) (fun v fn ts ih hok hfit => ?_) x
 intro H nx o m1 m2 P lim L h hb hsz
 have h16 : ts.length ≤ 16 := hfit.1
 obtain ⟨H1, hH1⟩ : ∃ H1, H1 = upd (upd H (nx, 0) (.cells [.d (.int .i64 v), .d (.str fn), .d (.sl (encL ts) ts.length false none)])) (nx + 10, 0) (.cells [AV.d (.int .i64 v), .d (.str fn), .d (.int .i64 ts.length), .d (.int .i64 0), .d (.int .i64 0), .d (.int .i64 0), .d (.int .i64 0), .d (.int .i64 0), .d (.int .i64 0), .d (.int .i64 0), .d (.int .i64 0), .d (.int .i64 0), .d (.int .i64 0), .d (.int .i64 0), .d (.int .i64 0), .d (.int .i64 0), .d (.int .i64 0), .d (.int .i64 0), .d (.int .i64 0)]) := ⟨_, rfl⟩
 have hk1 : ∀ p : Oid, p.1 < nx → H1 p = H p := fun p hp => by rw [hH1, upd_old (by omega), upd_old hp]
 have hkq0 : H1 (nx + 10, 0) = some (.cells ((keyN v fn ts.length []).map .d)) := by rw [hH1, upd_same, key0]
 have hz1 : H1 (nx, 0) = some (.cells [.d (.int .i64 v), .d (.str fn), .d (.sl (encL ts) ts.length false none)]) := by rw [hH1]; simp
 have hpl : (Term.mk v fn ts).parts.length = (partsL ts).length + 1 := by simp [Term.parts]
 obtain ⟨s, hs, hsi, hrun⟩ := args_loop (lim := lim) (o := o) (m1 := m1) (m2 := m2) (kq := (nx + 10, 0)) (H := H) (nx := nx) (P := P) (L := L) (v := v) (fn := fn) (ts := ts) h16 (fun x hx => ih x hx (okL_mem hok.2 x hx) (fitsL_mem hfit.2 x hx)) (fitsL_mem hfit.2) (by simp only; omega) (by omega)
  ⟨0, H1, nx + 16, P, L⟩ ⟨Nat.zero_le _, Did.refl h (by simp only; omega) (by simp only; omega) hk1 hk1, hb, by simp [layB, partsL], hkq0, fun e => by have := h.foot_lt e; simp only at this; omega, by simp only; omega⟩ rfl
 obtain ⟨i, Hs, n1, P1, L1⟩ := s
 obtain ⟨_, hdid, hbk, heq, hkq, hno, hlt⟩ := hs
 simp only at hsi hdid hbk heq hkq hno hlt hrun
 subst hsi
 simp [argT] at hrun
 rw [List.take_length] at heq hkq
 obtain ⟨ids, hids⟩ : ∃ ids, ids = ts.map (idOf L1) := ⟨_, rfl⟩
 rw [← hids] at hkq
 have hidl : ids.length = ts.length := by rw [hids, List.length_map]
 have hkl : (keyN v fn ts.length ids).length = 19 := keyN_len (by omega)
 have hroot := hdid.bh.root
 simp only at hroot
 obtain ⟨es1, c1, e1, hel1, hf1, hno1⟩ := hdid.bh.look hbk.g.ids
 obtain ⟨es2, c2, e2, hf2, hno2⟩ := hdid.bh.look2 hbk.g.ids hbk.keyInj
 simp only at e1 e2 hf1
 have hfit2 := fit_key (v := v) (fn := fn) (n := ts.length) (ar := ids) (by omega)
 simp only at hfit2
 have hargs : ∀ a ∈ ts, hasT L1 a = true := fun a ha => by rw [heq]; exact lay_mem _ _ (partsL_mem ha (parts_self a))
 have hLe : layB L (Term.mk v fn ts).parts = addB L1 (.mk v fn ts) := by rw [layB_mk, ← heq]
 rw [hLe]
 by_cases hh : hasT L1 (.mk v fn ts) = true
 ·have hadd : addB L1 (.mk v fn ts) = L1 := by unfold addB; rw [if_pos hh]
  rw [hadd]
  obtain ⟨n, hn, hnt, hni⟩ := idOf_mem hh
  obtain ⟨k, st, hfk⟩ := hf2 _ (List.mem_map.2 ⟨n, hn, rfl⟩)
  have hkk : (Gn.key ⟨n.id, n.t.v, n.t.fn, n.t.args.map (idOf L1)⟩) = keyN v fn ts.length ids := by
   rw [hnt]; simp only [Gn.key, Term.v, Term.fn, Term.args, ← hids, hidl]
  rw [hkk] at hfk
  simp only at hfk
  rw [hni]
  refine ⟨Hs, n1 + 14, P1, acall_body code48 ?_, ⟨hdid.bh.mono (by omega), by have := hdid.le; omega, hdid.fr, hdid.ft⟩⟩
  ·simp [Term.enc, plc_raw, Nat.add_assoc, ← hH1, hz1, hrun, -part, p3_0, p3_1, p3_2, p3_t, hroot, e2, hkq, hkl, part_key0 hkl, hfit2, hfk]
 ·have hh2 : hasT L1 (.mk v fn ts) = false := by simpa using hh
  have hfree := freeI_ok L1
  have hf0 := id_loop hdid.bh hbk (by
   obtain ⟨M, e, _, hM⟩ := lay_ext (partsL ts) L
   have h3 := congrArg List.length e
   rw [List.length_append, ← heq] at h3
   omega) (nx + 10, 0) (n1 + 13)
  obtain ⟨id, hid⟩ : ∃ id, id = freeI L1 := ⟨_, rfl⟩
  rw [← hid] at hfree hf0
  obtain ⟨n2, hidr, hn2⟩ := hf0
  simp [idT] at hidr
  have hadd : addB L1 (.mk v fn ts) = L1 ++ [⟨id, .mk v fn ts, 0⟩] := by unfold addB; rw [if_neg hh, hid]
  have hno3 : ∀ g ∈ gr L1, g.id ≠ id := fun g hg e => by
   have := gr_has.1 ⟨g, hg, e⟩
   rw [hfree.no] at this; cases this
  have hnk : ∀ g ∈ gr L1, eqL (keyN v fn ts.length ids) g.key = false := fun g hg => by
   obtain ⟨m, hm, rfl⟩ := List.mem_map.1 hg
   rw [← hidl]
   refine key_ne fun hk => ?_
   obtain ⟨h1, h2, h3⟩ := hk
   have := (hbk.key (t := .mk v fn ts) hargs hm).1 ⟨h1.symm, h2.symm, by simp only [Term.args]; rw [← hids]; exact h3.symm⟩
   exact hasT_ff.1 hh2 m hm this
  clear e1 e2 hf1 hno1 hf2 hno2 hel1
  obtain ⟨s1, d1, e1, hs1⟩ := hdid.bh.nodes
  obtain ⟨s2, d2, e2, hs2⟩ := hdid.bh.idm
  have hfn1 : findK (.int .i64 id) (ents (fun g => .int .i64 g.id) (fun g => .ptr (P1 g.id) 0 21) s1 (gr L1)) 0 = none := findK_none 0 fun g hg => by simpa [eqD, eq1] using (hno3 g hg).symm
  have hfn2 : findK (.agg (keyN v fn ts.length ids)) (ents (fun g => .agg g.key) (fun g => .d (.int .i64 g.id)) s2 (gr L1)) 0 = none := findK_none 0 fun g hg => hnk g hg
  have hst1 := fun x v => stamp_last (m := d1) (ents (fun g => .int .i64 g.id) (fun g => .ptr (P1 g.id) 0 21) s1 (gr L1)) 0 x v (fun e he => by obtain ⟨g, hg, rfl⟩ := List.mem_map.1 he; exact hs1 g hg)
  have hst2 := fun x v => stamp_last (m := d2) (ents (fun g => .agg g.key) (fun g => .d (.int .i64 g.id)) s2 (gr L1)) 0 x v (fun e he => by obtain ⟨g, hg, rfl⟩ := List.mem_map.1 he; exact hs2 g hg)
  simp only at e1 e2
  obtain ⟨es1, hes1⟩ : ∃ es, es = ents (fun g => .int .i64 g.id) (fun g => .ptr (P1 g.id) 0 21) s1 (gr L1) := ⟨_, rfl⟩
  obtain ⟨es2, hes2⟩ : ∃ es, es = ents (fun g => .agg g.key) (fun g => .d (.int .i64 g.id)) s2 (gr L1) := ⟨_, rfl⟩
  rw [← hes1] at e1 hfn1 hst1
  rw [← hes2] at e2 hfn2 hst2
  simp only [Nat.zero_add] at hst1 hst2
  have hQ : ∀ p : Oid, p.1 < n1 → (n2 + 12, 0) ≠ p := fun p hp e => by rw [← e] at hp; simp only at hp; omega
  have q1 := hQ m1 hdid.bh.lt1
  have q2 := hQ m2 hdid.bh.lt2
  have qo := hQ o hdid.bh.ltO
  have qk := hQ (nx + 10, 0) hlt
  have k1 : (nx + 10, 0) ≠ m1 := fun e => hno (.inr (.inl e))
  have k2 : (nx + 10, 0) ≠ m2 := fun e => hno (.inr (.inr (.inl e)))
  have n12 : m1 ≠ m2 := hdid.bh.ne12
  have no1 : o ≠ m1 := hdid.bh.ne1
  have no2 : o ≠ m2 := hdid.bh.ne2
  have u1 : ∀ (H : Hp) x, upd H (n2 + 12, 0) x m1 = H m1 := fun H x => upd_ne q1.symm
  have u2 : ∀ (H : Hp) x, upd H (n2 + 12, 0) x m2 = H m2 := fun H x => upd_ne q2.symm
  have u3 : ∀ (H : Hp) x, upd H m1 x m2 = H m2 := fun H x => upd_ne n12.symm
  have u4 : ∀ (H : Hp) x, upd H (n2 + 12, 0) x (nx + 10, 0) = H (nx + 10, 0) := fun H x => upd_ne qk.symm
  have u5 : ∀ (H : Hp) x, upd H m1 x (nx + 10, 0) = H (nx + 10, 0) := fun H x => upd_ne k1
  have u6 : ∀ (H : Hp) x, upd H m2 x (nx + 10, 0) = H (nx + 10, 0) := fun H x => upd_ne k2
  obtain ⟨H3, hH3⟩ : ∃ H3, H3 = upd (upd (upd Hs (n2 + 12, 0) (.cells ((keyN v fn ts.length ids).map .d ++ [.d (.int .i64 0), .d (.int .i64 0)]))) m1 (.mp shI (es1 ++ [(.int .i64 id, .ptr (n2 + 12, 0) 0 21, d1)]) (d1 + 1))) m2 (.mp shK (es2 ++ [(.agg (keyN v fn ts.length ids), .d (.int .i64 id), d2)]) (d2 + 1)) := ⟨_, rfl⟩
  have hk3 : ∀ p : Oid, p.1 < n1 → p ≠ m1 → p ≠ m2 → H3 p = Hs p := fun p hp e1 e2 => by rw [hH3, upd_ne e2, upd_ne e1, upd_ne (hQ p hp).symm]
  have hkq3 : H3 (nx + 10, 0) = some (.cells ((keyN v fn ts.length ids).map .d)) := by rw [hk3 _ hlt k1 k2]; exact hkq
  have hbk2 := hbk.add (t := .mk v fn ts) hargs h16
  have hgr : gr (addB L1 (.mk v fn ts)) = gr L1 ++ [⟨id, v, fn, ids⟩] := by
   rw [hbk.gr_add hh2, add_args (t := .mk v fn ts) hargs, ← hid]; simp only [Term.v, Term.fn, Term.args, hids]
  have hgok := hbk2.g
  rw [hgr] at hgok
  have hb3 : BkH H3 (n2 + 26) ⟨o, m1, m2, setP P1 id (n2 + 12, 0)⟩ lim (gr L1 ++ [⟨id, v, fn, ids⟩]) (kpL L1) (upI (gr L1)) := by
   refine BkH.add (g := ⟨id, v, fn, ids⟩) (q := (n2 + 12, 0)) hdid.bh hs1 hs2 hno3 (by omega) (by simp only; omega) (by simp only; omega) ?_ ?_ ?_ (fun p hp h1 h2 => hk3 p hp h1 h2) (fun _ _ => rfl) (fun _ _ => rfl)
   ·rw [← hes1, hH3, upd_ne n12]; exact upd_same _ _ _
   ·rw [← hes2, hH3]; simp only [Gn.key, hidl]; exact upd_same _ _ _
   ·rw [hH3, upd_ne q2, upd_ne q1, upd_same]
    simp only [Gn.key, hidl, upI]
    rw [kp_none hfree.no, up_none hbk hfree.no]; rfl
  have hL1 : (L1.length : Int) ≤ 1099511627776 := by
   obtain ⟨M, e, _, hM⟩ := lay_ext (partsL ts) L
   have h3 := congrArg List.length e
   rw [List.length_append, ← heq] at h3
   omega
  obtain ⟨H4, n4, hup, hn4, hb4, hk4⟩ := up_loop hb3 hgok (v := v) (fn := fn) (ids := ids) (fun a ha => by
    rw [hids] at ha
    obtain ⟨x, hx, rfl⟩ := List.mem_map.1 ha
    obtain ⟨m, hm, _, hmi⟩ := idOf_mem (hargs x hx)
    exact ⟨_, List.mem_append_left _ (List.mem_map.2 ⟨m, hm, rfl⟩), hmi.symm⟩) (by omega) (fun i => by
    have := upG_le (G := gr L1) hbk.g.small i
    rw [gr_len] at this
    simp only [upI]; omega) (kq := (nx + 10, 0)) (by rw [hidl]; exact hkq3) (fun e => by
    rcases e with e | e | e | ⟨g, hg, e⟩
    ·exact hno (.inl e)
    ·exact hno (.inr (.inl e))
    ·exact hno (.inr (.inr (.inl e)))
    ·rcases List.mem_append.1 hg with hg | hg
     ·simp only [setP_ne (hno3 g hg)] at e
      exact hno (.inr (.inr (.inr ⟨g, hg, e⟩)))
     ·rw [List.mem_singleton] at hg
      subst hg
      simp only [setP_same] at e
      exact qk e.symm) id (n2 + 26)
  rw [hidl] at hup
  simp [upT] at hup
  have hts0 : (0 : Int) ≤ (ts.length : Int) := by omega
  refine ⟨H4, n4 + 2, setP P1 id (n2 + 12, 0), acall_body code48 ?_, ?_⟩
  ·have hres : idOf (addB L1 (.mk v fn ts)) (.mk v fn ts) = id := by
    rw [hadd]
    have : Bk (L1 ++ [⟨id, .mk v fn ts, 0⟩]) := hadd ▸ hbk2
    exact this.idOf (n := ⟨id, .mk v fn ts, 0⟩) (by simp)
   rw [hres]
   simp [Term.enc, plc_raw, Nat.add_assoc, ← hH1, hz1, hrun, -part, p3_0, p3_1, p3_2, p3_t, hroot, e1, e2, hkq, hkl, part_key0 hkl, hfit2, hfn1, hfn2, hidr, hst1, hst2, set_last, u1, u2, u3, u4, u5, u6, q1, q2, k1, k2, q1.symm, q2.symm, k1.symm, k2.symm, allD_two, lift_node, liftH_node, ← hH3, hkq3, part_n0, h16, hup]
  ·refine ⟨?_, by have := hdid.le; omega, fun p hp hF => ?_, fun p hp => ?_⟩
   ·have hkp : kpL (addB L1 (.mk v fn ts)) = kpL L1 := funext fun i => by rw [hadd]; exact kp_append (by simp) i
    have hui : upI (gr (addB L1 (.mk v fn ts))) = fun i => upI (gr L1) i + ids.count i := funext fun i => by
     rw [hgr]; simp only [upI, upG_append, upG_one]; omega
    unfold BH
    rw [hkp, hui, hgr]
    exact hb4.mono (by omega)
   ·have hF1 : ¬ Ft o m1 m2 P1 L1 p := fun e => by
     rcases hdid.ft p e with e | e
     ·exact hF e
     ·omega
    have hpn : p.1 < n1 := by have := hdid.le; omega
    rw [hk4 p ?_, hk3 p hpn (fun e => hF1 (.inr (.inl e))) fun e => hF1 (.inr (.inr (.inl e)))]
    ·exact hdid.fr p hp hF
    ·rintro ⟨g, hg, e⟩
     rcases List.mem_append.1 hg with hg | hg
     ·simp only [setP_ne (hno3 g hg)] at e
      exact hF1 (.inr (.inr (.inr ⟨g, hg, e⟩)))
     ·rw [List.mem_singleton] at hg
      subst hg
      simp only [setP_same] at e
      exact hQ p hpn e.symm
   ·unfold Ft at hp
    rw [hgr] at hp
    have hn1x := hdid.le
    rcases hp with e | e | e | ⟨g, hg, e⟩
    ·exact hdid.ft p (.inl e)
    ·exact hdid.ft p (.inr (.inl e))
    ·exact hdid.ft p (.inr (.inr (.inl e)))
    ·rcases List.mem_append.1 hg with hg | hg
     ·simp only [setP_ne (hno3 g hg)] at e
      exact hdid.ft p (.inr (.inr (.inr ⟨g, hg, e⟩)))
     ·rw [List.mem_singleton] at hg
      subst hg
      simp only [setP_same] at e
      right; rw [e]; simp only; omega
end Go.Proofs.Ytiafeijkifpfaaa.Am

/-
 A node that nothing needs goes away: the loops. No condition.
-/
namespace Go.Proofs.Ytiafeijkifpfaaa.Am
open Go Go.Proofs
set_option maxHeartbeats 4000000
set_option maxRecDepth 20000
set_option linter.unusedSimpArgs false
set_option linter.unusedVariables false
abbrev dnT (o q : Oid) (n : Nat) (j : Nat) : List AV := [.ptr o 0 3, .junk, .junk, .junk, .ptr q 0 21, .junk, .junk, .junk, .junk, .junk, .junk, .junk, .junk, .junk, .junk, .junk, .junk, .junk, .junk, .junk, .junk, .junk, .junk, .junk, .junk, .junk, .junk, .junk, .junk, .junk, .junk, .junk, .junk, .junk, .junk, .junk, .junk, .junk, .junk, .junk, .junk, .junk, .junk, .junk, .junk, .junk, .junk, .junk, .junk, .junk, .junk, .junk, .junk, .vsl q 3 n 1 21, .d (.int .i64 n), .d (.int .i64 j), .junk, .junk, .junk, .junk, .junk, .junk, .junk, .junk, .junk, .junk, .junk, .junk, .junk, .junk, .junk, .junk, .junk, .junk, .junk, .junk, .junk, .junk, .junk, .junk, .junk, .junk, .junk, .junk, .junk, .junk, .junk, .junk, .junk, .junk, .junk]
structure DnS (H : Hp) (N b : Nat) (V : Vw) (lim : Int) (G : List Gn) (kp up : Int → Int) (ids : List Int) (s : Nat × Hp × Nat) : Prop where
 le : s.1 ≤ ids.length
 nx : b ≤ s.2.2
 bh : BkH s.2.1 N V lim G kp (fun i => up i - (ids.take s.1).count i)
 fr : ∀ p : Oid, p.1 < b → (¬ ∃ g ∈ G, p = V.P g.id) → s.2.1 p = H p
def DnR (H : Hp) (N b : Nat) (V : Vw) (lim : Int) (G : List Gn) (kp up : Int → Int) (ids : List Int) (tm : List AV) (x : Ex) (_ : Unit) (e : Ex) (st : St) : Prop := e = x ∧ ∃ H' nx', st = ⟨tm, H', nx'⟩ ∧ DnS H N b V lim G kp up ids (ids.length, H', nx')
theorem dn_loop {H : Hp} {N b : Nat} {V : Vw} {lim : Int} {G : List Gn} {kp up : Int → Int} (h : BkH H N V lim G kp up) (hN : N ≤ b) (hg : GOk G) {v : Int} {fn : ByteArray} {ids : List Int} (hids : ∀ a ∈ ids, ∃ g ∈ G, g.id = a) (h16 : ids.length ≤ 16)
  (hup : ∀ i, 0 ≤ up i ∧ up i ≤ 1125899906842624) {q : Oid} {x y : AV} (hq : H q = some (.cells ((keyN v fn ids.length ids).map .d ++ [x, y]))) (hqb : q.1 < b) (hno : ¬ Foot V G q) :
  ∃ H' nx', aloop Try.prog plc b49_1 ⟨[true, false, false, false, true, false, false, false, true, false, false, false, false, false, false, false, false, false, false, false, false, false, false, false, false, false, false, false, false, false, false, false, false, false, false, false, false, false, false, false, false, false, false, false, false, false, false, false, false, false, false, false, false, true, true, true, false, false, false, false, false, false, false, false, false, false, false, false, false, false, false, false, true, true, true, true, true, true, true, true, true, true, true, true, true, true, true, true, true, false, true], some b⟩ ⟨dnT V.o q ids.length 0, H, b⟩ = some (.exit 0, ⟨dnT V.o q ids.length ids.length, H', nx'⟩) ∧ DnS H N b V lim G kp up ids (ids.length, H', nx') := by
 have hkl : (keyN v fn ids.length ids).length = 19 := keyN_len h16
 have key := loop_ruleN (P := Try.prog) (pol := plc) (c := b49_1) (m := ⟨[true, false, false, false, true, false, false, false, true, false, false, false, false, false, false, false, false, false, false, false, false, false, false, false, false, false, false, false, false, false, false, false, false, false, false, false, false, false, false, false, false, false, false, false, false, false, false, false, false, false, false, false, false, true, true, true, false, false, false, false, false, false, false, false, false, false, false, false, false, false, false, false, true, true, true, true, true, true, true, true, true, true, true, true, true, true, true, true, true, false, true], some b⟩)
  (N := fun s : Nat × Hp × Nat => s.2.2) (tm := fun s => dnT V.o q ids.length s.1) (Hf := fun s => s.2.1)
  (I := DnS H N b V lim G kp up ids) (μ := fun s => ids.length - s.1) (res := fun _ => ()) (R := DnR H N b V lim G kp up ids (dnT V.o q ids.length ids.length) (.exit 0))
  (fun s hI => by
   obtain ⟨j, H1, n⟩ := s
   obtain ⟨hj, hle, h1, hk⟩ := hI
   simp only at hj hle h1 hk
   rcases Nat.lt_or_ge j ids.length with hl | hl
   ·have hroot := h1.root
    obtain ⟨es, c, e1, hel, hf, _⟩ := h1.look hg.ids
    obtain ⟨g, hgm, hgi⟩ := hids ids[j] (List.getElem_mem hl)
    obtain ⟨k, st, hfk⟩ := hf g hgm
    rw [hgi] at hfk
    have hnode := h1.node g hgm
    have hq1 : H1 q = some (.cells ((keyN v fn ids.length ids).map .d ++ [x, y])) := (hk q hqb fun ⟨y, hy, e⟩ => hno (.inr (.inr (.inr ⟨y, hy, e⟩)))).trans hq
    have hgl : g.key.length = 19 := keyN_len (hg.small g hgm)
    have hu := hup g.id
    have hc : (ids.take j).count g.id ≤ 16 := Nat.le_trans List.count_le_length (by rw [List.length_take]; omega)
    have hw : IntKind.i64.wrap (up g.id - ((ids.take j).count g.id : Int) - 1) = up g.id - ((ids.take j).count g.id : Int) - 1 := wrap_i64 (by omega) (by omega)
    have hw2 : IntKind.i64.wrap ((j : Int) + 1) = (j : Int) + 1 := wrap_i64 (by omega) (by omega)
    rw [hgi] at hnode hw
    have hjl : (j : Int) < (ids.length : Int) := by omega
    obtain ⟨H2, hH2⟩ : ∃ H2, H2 = below b (upd H1 (V.P ids[j]) (.cells (g.key.map .d ++ [.d (.int .i64 (kp ids[j])), .d (.int .i64 (up ids[j] - ((ids.take j).count ids[j] : Int) - 1))]))) := ⟨_, rfl⟩
    have hPb : (V.P ids[j]).1 < b := by have := h1.ltP g hgm; rw [hgi] at this; omega
    simp [b49_1, -splice, -part, p3_1, hroot, e1, hkl, hq1, part_as hl, hfk, hnode, hgl, part_up hgl, splice_up hgl, hw, hw2, hjl, hl, ← hH2, Nat.add_assoc]
    have hnext : DnS H N b V lim G kp up ids (j + 1, H2, n + 19) := by
     have hlt : ∀ p : Oid, p.1 < b → H2 p = upd H1 (V.P ids[j]) (.cells (g.key.map .d ++ [.d (.int .i64 (kp ids[j])), .d (.int .i64 (up ids[j] - ((ids.take j).count ids[j] : Int) - 1))])) p := fun p hp => by rw [hH2, below_lt hp]
     refine ⟨hl, by simp only; omega, ?_, fun p hp hn => ?_⟩
     ·refine BkH.keep (H := upd H1 (V.P ids[j]) (.cells (g.key.map .d ++ [.d (.int .i64 (kp ids[j])), .d (.int .i64 (up ids[j] - ((ids.take j).count ids[j] : Int) - 1))]))) ?_ (fun p hp => hlt p (by have := h1.foot_lt hp; omega))
      refine BkH.turn h1 hgm ?_ (fun p hp => ?_) (fun i _ => rfl) (fun i hi => ?_) hg.ids
      ·rw [hgi, upd_same]
       simp only [count_take hl, if_pos, Int.natCast_add, Int.natCast_one, Int.sub_sub]
      ·exact upd_ne (by rw [← hgi]; exact hp)
      ·have : ¬ ids[j] = i := fun e => hi (by rw [← e, hgi])
       simp only [count_take hl, if_neg this, Nat.add_zero]
     ·show H2 p = H p
      rw [hlt p hp, upd_ne fun e => hn ⟨g, hgm, by rw [e, hgi]⟩, hk p hp hn]
    exact .next _ rfl rfl rfl hnext (by simp only; omega) rfl
   ·obtain rfl : j = ids.length := Nat.le_antisymm hj hl
    simp [b49_1]
    refine .fin _ _ ⟨rfl, _, _, rfl, ⟨Nat.le_refl _, by simp only; omega, h1.keep fun p hp => below_lt (by have := h1.foot_lt hp; omega), fun p hp hn => (below_lt hp).trans (hk p hp hn)⟩⟩) (0, H, b) ⟨Nat.zero_le _, Nat.le_refl _, by simpa using h, fun _ _ _ => rfl⟩
 obtain ⟨e, st, hrun, rfl, H', nx', rfl, h0⟩ := key
 exact ⟨H', nx', hrun, h0⟩
end Go.Proofs.Ytiafeijkifpfaaa.Am


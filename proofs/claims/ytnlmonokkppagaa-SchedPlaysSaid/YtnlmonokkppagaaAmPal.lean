/-
  Joined texts: AmSr, AmSs, AmSt, AmSu, AmSv, AmSx, AmSy, AmTk, AmTl, AmTm, AmTn, AmTr, AmTs. No condition.
-/
import Derived.Test.YtnlmonokkppagaaAmPak
/-
  The scheduler on the objects: lines, the table of lines. No condition.
-/
namespace Go.Proofs.Ytnlmonokkppagaa.Am
open Go Go.Proofs
set_option maxHeartbeats 4000000
set_option linter.unusedSimpArgs false
set_option linter.unusedVariables false

theorem upd_old {o : Oid} {i : Nat} (h : o.1 < i) (j : Nat) (x : Am.Obj) (H : Hp) : upd H (i, j) x o = H o := by
  simp only [upd]; rw [if_neg]; intro e; rw [e] at h; simp at h
theorem upd_ne {H : Hp} {o p : Oid} {x : Am.Obj} (h : p ≠ o) : Am.upd H o x p = H p := by simp only [Am.upd]; rw [if_neg h]
theorem below_lt {k : Nat} {H : Hp} {p : Oid} (h : p.1 < k) : below k H p = H p := by simp only [below]; rw [if_pos h]
theorem fresh_ne {o : Oid} {n : Nat} (h : o.1 < n) (k j : Nat) : (n + k, j) ≠ o := fun e => by rw [← e] at h; simp only at h; omega
def encQ : List Qu → List D
  | [] => []
  | q :: r => .int .i64 q.id :: .int .i64 q.dl :: .int .i64 q.tn :: encQ r
theorem encQ_len : ∀ l : List Qu, (encQ l).length = l.length * 3
  | [] => rfl
  | q :: r => by simp [encQ, encQ_len r]; omega
theorem encQ_append : ∀ a b : List Qu, encQ (a ++ b) = encQ a ++ encQ b
  | [], _ => rfl
  | q :: r, b => by simp [encQ, encQ_append r b]
theorem encQ_take : ∀ (l : List Qu) (i : Nat), (encQ l).take (i * 3) = encQ (l.take i)
  | [], i => by simp [encQ]
  | q :: r, 0 => by simp [encQ]
  | q :: r, i + 1 => by rw [show (i + 1) * 3 = i * 3 + 1 + 1 + 1 by omega]; simp [encQ, encQ_take r i]
theorem encQ_drop : ∀ (l : List Qu) (i : Nat), (encQ l).drop (i * 3) = encQ (l.drop i)
  | [], i => by simp [encQ]
  | q :: r, 0 => by simp [encQ]
  | q :: r, i + 1 => by rw [show (i + 1) * 3 = i * 3 + 1 + 1 + 1 by omega]; simp [encQ, encQ_drop r i]
/-- A line: nil, or a row that begins with it. -/
inductive LineAt (H : Hp) : AV → List Qu → Option Oid → Prop
  | nil : LineAt H (.d (.sl [] 0 true (some true))) [] none
  | vn (o : Oid) (h : H o = some .vnil) : LineAt H (.osl o 0 0 1 0) [] (some o)
  | row (o : Oid) (l : List Qu) (cs : List D) (h : H o = some (.grow (cs.map .d))) (hv : l.length * 3 ≤ cs.length) (ht : cs.take (l.length * 3) = encQ l) (hb : cs.length ≤ 192) : LineAt H (.osl o 0 l.length 3 cs.length) l (some o)
theorem LineAt.keep {H H' : Hp} {v : AV} {l : List Qu} {o : Option Oid} (h : LineAt H v l o) (k : ∀ p, o = some p → H' p = H p) : LineAt H' v l o := by
  cases h with
  | nil => exact .nil
  | vn o h => exact .vn o ((k o rfl).trans h)
  | row o l cs h hv ht hb => exact .row o l cs ((k o rfl).trans h) hv ht hb
theorem LineAt.le {H : Hp} {v : AV} {l : List Qu} {o : Option Oid} (h : LineAt H v l o) : l.length ≤ 64 := by
  cases h with
  | nil => simp
  | vn => simp
  | row o l cs h hv ht hb => omega
structure SchH (H : Hp) (N : Nat) (oS oL : Oid) (vs : List AV) (os : List (Option Oid)) (S : Sc) : Prop where
  root : H oS = some (.cells [.d (.int .i64 S.ways), .d (.int .i64 S.now), .osl oL 0 S.lines.length 1 S.lines.length])
  tab : H oL = some (.cells vs)
  vlen : vs.length = S.lines.length
  olen : os.length = S.lines.length
  line : ∀ (t : Nat) v l o, vs[t]? = some v → S.lines[t]? = some l → os[t]? = some o → LineAt H v l o
  nd : ∀ (a b : Nat) o, os[a]? = some (some o) → os[b]? = some (some o) → a = b
  ltS : oS.1 < N
  ltL : oL.1 < N
  lt : ∀ (t : Nat) o, os[t]? = some (some o) → o.1 < N
  ne : oS ≠ oL
  neS : ∀ (t : Nat) o, os[t]? = some (some o) → o ≠ oS
  neL : ∀ (t : Nat) o, os[t]? = some (some o) → o ≠ oL
def Foot (oS oL : Oid) (os : List (Option Oid)) (p : Oid) : Prop := p = oS ∨ p = oL ∨ some p ∈ os
theorem SchH.mono {H : Hp} {N M : Nat} {oS oL : Oid} {vs : List AV} {os : List (Option Oid)} {S : Sc} (h : SchH H N oS oL vs os S) (k : N ≤ M) : SchH H M oS oL vs os S :=
  { h with ltS := by have := h.ltS; omega, ltL := by have := h.ltL; omega, lt := fun t o ho => by have := h.lt t o ho; omega }
theorem SchH.keep {H H' : Hp} {N : Nat} {oS oL : Oid} {vs : List AV} {os : List (Option Oid)} {S : Sc} (h : SchH H N oS oL vs os S) (k : ∀ p, Foot oS oL os p → H' p = H p) : SchH H' N oS oL vs os S :=
  { h with root := (k _ (.inl rfl)).trans h.root, tab := (k _ (.inr (.inl rfl))).trans h.tab, line := fun t v l o h1 h2 h3 => (h.line t v l o h1 h2 h3).keep fun p hp => k p (.inr (.inr (by rw [← hp]; exact List.mem_of_getElem? h3))) }
theorem SchH.foot_lt {H : Hp} {N : Nat} {oS oL : Oid} {vs : List AV} {os : List (Option Oid)} {S : Sc} (h : SchH H N oS oL vs os S) {p : Oid} (hp : Foot oS oL os p) : p.1 < N := by
  rcases hp with rfl | rfl | hp
  · exact h.ltS
  · exact h.ltL
  · obtain ⟨t, ht⟩ := List.mem_iff_getElem?.1 hp
    exact h.lt t p ht
theorem SchH.get {H : Hp} {N : Nat} {oS oL : Oid} {vs : List AV} {os : List (Option Oid)} {S : Sc} (h : SchH H N oS oL vs os S) {t : Nat} (ht : t < S.lines.length) : ∃ v l o, vs[t]? = some v ∧ S.lines[t]? = some l ∧ os[t]? = some o ∧ LineAt H v l o := by
  have h1 : vs[t]? = some (vs[t]'(by rw [h.vlen]; exact ht)) := List.getElem?_eq_getElem _
  have h2 : S.lines[t]? = some S.lines[t] := List.getElem?_eq_getElem _
  have h3 : os[t]? = some (os[t]'(by rw [h.olen]; exact ht)) := List.getElem?_eq_getElem _
  exact ⟨_, _, _, h1, h2, h3, h.line t _ _ _ h1 h2 h3⟩
/-- One line becomes another one. -/
theorem SchH.set' {H H' : Hp} {N M : Nat} {oS oL : Oid} {vs : List AV} {os : List (Option Oid)} {S : Sc} (h : SchH H N oS oL vs os S) {t : Nat} (ht : t < S.lines.length) {v' : AV} {l' : List Qu} {o o' : Option Oid} (ho : os[t]? = some o) (hNM : N ≤ M)
    (ho' : ∀ p, o' = some p → (o = some p ∨ N ≤ p.1) ∧ p.1 < M) (hL : H' oL = some (.cells (vs.set t v'))) (hl : LineAt H' v' l' o') (hk : ∀ p : Oid, Foot oS oL os p → p ≠ oL → o ≠ some p → H' p = H p) :
    SchH H' M oS oL (vs.set t v') (os.set t o') { S with lines := S.lines.set t l' } := by
  have hnew : ∀ p, o' = some p → ∀ a q, a ≠ t → os[a]? = some (some q) → q ≠ p := fun p hp a q ha hq e => by
    subst e
    rcases (ho' q hp).1 with h1 | h1
    · subst h1; exact ha (h.nd a t q hq ho)
    · have := h.lt a q hq; omega
  have htv : t < vs.length := by rw [h.vlen]; exact ht
  have hto : t < os.length := by rw [h.olen]; exact ht
  have hout : ∀ a q, (os.set t o')[a]? = some (some q) → (a = t ∧ o' = some q) ∨ (a ≠ t ∧ os[a]? = some (some q)) := fun a q hq => by
    by_cases ha : a = t
    · subst ha; rw [List.getElem?_set_self hto] at hq; exact .inl ⟨rfl, by simpa using hq⟩
    · rw [List.getElem?_set_ne (Ne.symm ha)] at hq; exact .inr ⟨ha, hq⟩
  have hoS : o ≠ some oS := fun e => by rw [e] at ho; exact h.neS t oS ho rfl
  refine ⟨?_, hL, by simpa using h.vlen, by simpa using h.olen, fun a v l q h1 h2 h3 => ?_, fun a b q h1 h2 => ?_, by have := h.ltS; omega, by have := h.ltL; omega, fun a q hq => ?_, h.ne, fun a q hq => ?_, fun a q hq => ?_⟩
  · rw [hk oS (.inl rfl) h.ne hoS, h.root]; simp
  · by_cases ha : a = t
    · subst ha
      rw [List.getElem?_set_self htv] at h1
      rw [List.getElem?_set_self ht] at h2
      rw [List.getElem?_set_self hto] at h3
      cases h1; cases h2; cases h3
      exact hl
    · rw [List.getElem?_set_ne (Ne.symm ha)] at h1 h2 h3
      refine (h.line a v l q h1 h2 h3).keep fun p hp => ?_
      subst hp
      exact hk p (.inr (.inr (List.mem_of_getElem? h3))) (h.neL a p h3) fun e => by subst e; exact ha (h.nd a t p h3 ho)
  · rcases hout a q h1 with ⟨rfl, e1⟩ | ⟨a1, e1⟩ <;> rcases hout b q h2 with ⟨rfl, e2⟩ | ⟨b1, e2⟩
    · rfl
    · exact absurd rfl (hnew q e1 b q b1 e2)
    · exact absurd rfl (hnew q e2 a q a1 e1)
    · exact h.nd a b q e1 e2
  · rcases hout a q hq with ⟨rfl, e1⟩ | ⟨a1, e1⟩
    · exact (ho' q e1).2
    · have := h.lt a q e1; omega
  · rcases hout a q hq with ⟨rfl, e1⟩ | ⟨a1, e1⟩
    · rcases (ho' q e1).1 with h1 | h1
      · subst h1; exact h.neS a q ho
      · exact fun e => by subst e; have := h.ltS; omega
    · exact h.neS a q e1
  · rcases hout a q hq with ⟨rfl, e1⟩ | ⟨a1, e1⟩
    · rcases (ho' q e1).1 with h1 | h1
      · subst h1; exact h.neL a q ho
      · exact fun e => by subst e; have := h.ltL; omega
    · exact h.neL a q e1
theorem SchH.set {H H' : Hp} {N M : Nat} {oS oL : Oid} {vs : List AV} {os : List (Option Oid)} {S : Sc} (h : SchH H N oS oL vs os S) {t : Nat} (ht : t < S.lines.length) {v' : AV} {l' : List Qu} {o o' : Option Oid} (ho : os[t]? = some o) (hNM : N ≤ M)
    (ho' : ∀ p, o' = some p → (o = some p ∨ N ≤ p.1) ∧ p.1 < M) (hL : H' oL = some (.cells (vs.set t v'))) (hl : LineAt H' v' l' o') (hk : ∀ p : Oid, p.1 < N → p ≠ oL → o ≠ some p → H' p = H p) :
    SchH H' M oS oL (vs.set t v') (os.set t o') { S with lines := S.lines.set t l' } :=
  h.set' ht ho hNM ho' hL hl fun p hp h1 h2 => hk p (h.foot_lt hp) h1 h2
end Go.Proofs.Ytnlmonokkppagaa.Am

/-
  The scheduler: what reads it. No condition.
-/
namespace Go.Proofs.Ytnlmonokkppagaa.Am
open Go Go.Proofs
set_option maxHeartbeats 4000000
set_option linter.unusedSimpArgs false
set_option linter.unusedVariables false

def encLn (l : List Qu) : D := .sl (encQ l) l.length false none
def encS (S : Sc) : D := .dptr [.int .i64 S.ways, .int .i64 S.now, .sl (S.lines.map encLn) S.lines.length false none]
theorem wkL_encQ : ∀ l, wkL (encQ l) = encQ l
  | [] => rfl
  | q :: r => by simp [encQ, wkL_encQ r]
theorem reify_d (H : Hp) (n : Nat) (x : D) : reify H n (.d x) = some (x, []) := by cases n <;> rfl
theorem mapD_d (f : AV → Option (D × List Oid)) (hf : ∀ x, f (.d x) = some (x, [])) : ∀ l : List D, mapD f (l.map .d) = some (l, [])
  | [] => rfl
  | x :: r => by simp [mapD, hf, mapD_d f hf r]
theorem line_reify {H : Hp} {v : AV} {l : List Qu} {o : Option Oid} (h : LineAt H v l o) (k : Nat) : ∃ x is, reify H (k + 1) v = some (x, is) ∧ wk x = encLn l := by
  cases h with
  | nil => exact ⟨_, _, rfl, by simp [encLn, encQ]⟩
  | vn o h => exact ⟨.sl [] 0 false (some true), [], by simp [reify, h, Obj.isRow, Obj.cs, nlOf], by simp [encLn, encQ]⟩
  | row o l cs h hv ht hb =>
    have h1 : (cs.map AV.d).take (l.length * 3) = (encQ l).map .d := by rw [← ht, List.map_take]
    have h2 := mapD_d (reify H k) (reify_d H k) (encQ l)
    refine ⟨.sl (encQ l) l.length false (some false), if encQ l = [] then [] else [o], ?_, by simp [encLn, wkL_encQ]⟩
    simp [reify, h, Obj.isRow, Obj.cs, nlOf, hv, h1, h2]
theorem tab_reify {H : Hp} (k : Nat) : ∀ (vs : List AV) (ls : List (List Qu)) (os : List (Option Oid)), vs.length = ls.length → os.length = ls.length → (∀ (t : Nat) v l o, vs[t]? = some v → ls[t]? = some l → os[t]? = some o → LineAt H v l o) → ∃ xs is, mapD (reify H (k + 1)) vs = some (xs, is) ∧ wkL xs = ls.map encLn
  | [], [], _, _, _, _ => ⟨[], [], rfl, rfl⟩
  | [], _ :: _, _, h, _, _ => by simp at h
  | _ :: _, [], _, h, _, _ => by simp at h
  | _ :: _, _ :: _, [], _, h, _ => by simp at h
  | v :: vs, l :: ls, o :: os, h1, h2, h3 => by
    obtain ⟨x, is, r1, r2⟩ := line_reify (h3 0 v l o rfl rfl rfl) k
    obtain ⟨xs, is2, r3, r4⟩ := tab_reify k vs ls os (by simpa using h1) (by simpa using h2) (fun t v l o a b c => h3 (t + 1) v l o (by simpa using a) (by simpa using b) (by simpa using c))
    exact ⟨x :: xs, is ++ is2, by simp only [mapD, r1, r3]; rfl, by simp [wkL, r2, r4]⟩
theorem SchH.reify {H : Hp} {N : Nat} {oS oL : Oid} {vs : List AV} {os : List (Option Oid)} {S : Sc} (h : SchH H N oS oL vs os S) (k : Nat) : ∃ x is, Am.reify H (k + 3) (.ptr oS 0 3) = some (x, is) ∧ wk x = encS S := by
  obtain ⟨xs, is, h1, h2⟩ := tab_reify k vs S.lines os h.vlen h.olen h.line
  have ht : List.take S.lines.length vs = vs := List.take_of_length_le (by have := h.vlen; omega)
  have h3 : Am.reify H (k + 2) (.osl oL 0 S.lines.length 1 S.lines.length) = some (.sl xs S.lines.length false (some false), if xs = [] then is else oL :: is) := by
    have hh : Am.reify H (k + 2) (.osl oL 0 S.lines.length 1 S.lines.length) = (mapD (Am.reify H (k + 1)) vs).bind fun q => some (.sl q.1 S.lines.length false (some false), if q.1 = [] then q.2 else oL :: q.2) := by
      simp only [Am.reify, h.tab]
      simp [Obj.isRow, Obj.cs, h.vlen, ht, nlOf]
    rw [hh, h1]; rfl
  have h4 : Am.reify H (k + 3) (.ptr oS 0 3) = (mapD (Am.reify H (k + 2)) [.d (.int .i64 S.ways), .d (.int .i64 S.now), .osl oL 0 S.lines.length 1 S.lines.length]).bind fun q => some (.dptr q.1, oS :: q.2) := by
    simp only [Am.reify, h.root]; rfl
  refine ⟨.dptr [.int .i64 S.ways, .int .i64 S.now, .sl xs S.lines.length false (some false)], oS :: ((if xs = [] then is else oL :: is) ++ []), ?_, by simp [encS, h2]⟩
  rw [h4]
  simp only [mapD, h3]
  rfl
/-! ### Which place -/
structure QAt (l : List Qu) (i : Nat) (q : Qu) : Prop where
  get : l[i]? = some q
  lt : i < l.length
  lti : (i : Int) < (l.length : Int)
  len : (encQ l).length = l.length * 3
  ltm : i * 3 < l.length * 3
  cells : ((encQ l).drop (i * 3)).take 3 = [.int .i64 q.id, .int .i64 q.dl, .int .i64 q.tn]
  le3 : 3 ≤ l.length * 3 - i * 3
  dr : l.drop i = q :: l.drop (i + 1)
  w : IntKind.i64.wrap ((i : Int) + 1) = (i : Int) + 1
theorem q_at {l : List Qu} (hn : l.length ≤ 9223372036854775807) {i : Nat} (hi : i < l.length) : ∃ q, QAt l i q := by
  have hd : l.drop i = l[i] :: l.drop (i + 1) := List.drop_eq_getElem_cons hi
  refine ⟨l[i], List.getElem?_eq_getElem hi, hi, by omega, encQ_len l, by omega, ?_, by omega, hd, wrap_i64 (by omega) (by omega)⟩
  rw [encQ_drop, hd]; simp [encQ]
theorem is_ok (S : Sc) (t : Int) : pcl Cp 21 [encS S, .int .i64 t] = some (.bool (S.isT t)) := by
  refine pcl_body code21 ?_
  unfold Sc.isT
  by_cases h : 0 ≤ t
  · simp [encS, h]
  · simp [encS, h]
theorem find1_ok (H : Hp) (nx : Nat) (o : Oid) (id : Int) (h : H o = some (.cells [.d (.int .i64 id)])) (hl : o.1 < nx) (q : Qu) :
    ∃ r : Hp × Nat, acall Try.prog plc 30 [.d (.agg [.int .i64 q.id, .int .i64 q.dl, .int .i64 q.tn]), .ptr o 0 1] H nx = some (.d (.bool (decide (q.id = id))), r.1, r.2) ∧ nx ≤ r.2 ∧ ∀ p : Oid, p.1 < nx → r.1 p = H p := by
  have f : ∀ j x, upd H (nx, j) x o = H o := fun j x => upd_old hl j x H
  refine ⟨(upd H (nx, 0) (.cells [.d (.int .i64 q.id), .d (.int .i64 q.dl), .d (.int .i64 q.tn)]), nx + 7), acall_body code30 ?_, by simp only; omega, fun p hp => upd_old hp 0 _ H⟩
  simp [f, h]
abbrev idxT (cs : D) (o : Oid) (n i : Nat) : List AV := [.d cs, .fn 30 [.ptr o 0 1], .junk, .junk, .d (.int .i64 0), .junk, .junk, .d (.int .i64 n), .d (.int .i64 i), .junk, .junk, .junk, .junk, .junk, .junk, .junk, .junk, .junk, .junk]
def FindEnd (cs : D) (o : Oid) (n : Nat) (r : Option Nat) (e : Ex) (t : St) : Prop :=
  match r with
  | some k => e = .ret ∧ t.tm[4]? = some (.d (.int .i64 k))
  | none => ∃ H' n', e = .exit 0 ∧ t = ⟨idxT cs o n n, H', n'⟩
theorem find_ok (S : Sc) (t : Nat) (l : List Qu) (id : Int) (ht : S.lines[t]? = some l) (hn : S.lines.length ≤ 9223372036854775807) (hl : l.length ≤ 9223372036854775807) : pcl Cp 22 [encS S, .int .i64 t, .int .i64 id] = some (.int .i64 (match findQ l id with | some i => i | none => -1)) := by
  have htl := (List.getElem?_eq_some_iff.1 ht).1
  have hloop := fun (b : Nat) (hb : 0 < b) => loop_rule (P := Try.prog) (pol := plc) (c := b29_0) (m := ⟨[true, true, false, false, true, false, false, true, true, false, false, false, false, false, false, false, false, false, false], some b⟩)
    (b := b) (tm := fun (i : Nat) => idxT (encLn l) (0, 0) l.length i) (Hf := fun _ => upd (fun _ => none) (0, 0) (.cells [.d (.int .i64 id)]))
    (I := fun i => i ≤ l.length) (μ := fun i => l.length - i) (res := fun i => fromI (fun q => decide (q.id = id)) l i) (R := FindEnd (encLn l) (0, 0) l.length)
    (fun i nx hi => by
      rcases Nat.lt_or_ge i l.length with hl2 | hl2
      · obtain ⟨q, a⟩ := q_at hl hl2
        have hq : l[i] = q := by have := a.get; rw [List.getElem?_eq_getElem hl2] at this; exact Option.some.inj this
        obtain ⟨⟨H1, N1⟩, hc, hN, hk⟩ := find1_ok (upd (fun _ => none) (0, 0) (.cells [.d (.int .i64 id)])) (nx + (b + 9)) (0, 0) id (by simp) (by simp; omega) q
        have hH1 : below b H1 = upd (fun _ => none) (0, 0) (.cells [.d (.int .i64 id)]) := by
          funext p
          simp only [below]
          split
          · exact hk p (by omega)
          · rename_i hp
            rw [upd_ne (fun e => hp (by rw [e]; exact hb))]
        have hfs := fromI_step (p := fun q : Qu => decide (q.id = id)) hl2
        rw [hq] at hfs
        conv => arg 9; arg 4; unfold b29_0
        by_cases he : q.id = id
        · have hd : decide (q.id = id) = true := by simp [he]
          rw [hd] at hc
          simp [encLn, plc_raw, a.lti, a.len, a.ltm, a.cells, a.le3, a.w, Nat.add_assoc, hc]
          refine .fin _ _ ?_
          rw [hfs, if_pos (by simp [he])]
          exact ⟨rfl, rfl⟩
        · have hd : decide (q.id = id) = false := by simp [he]
          rw [hd] at hc
          simp [encLn, plc_raw, a.lti, a.len, a.ltm, a.cells, a.le3, a.w, Nat.add_assoc, hc, hH1]
          refine .next (i + 1) (by omega) (by simp) rfl hl2 (by omega) ?_
          rw [hfs, if_neg (by simp [he])]
      · obtain rfl : i = l.length := Nat.le_antisymm hi hl2
        simp [b29_0]
        refine .fin _ _ ?_
        simp only [fromI_end]
        exact ⟨_, _, rfl, rfl⟩) 0 (Nat.zero_le _)
  have hcells : ∀ h : t < S.lines.length, (S.lines.map encLn)[t]'(by simpa using h) = encLn l := fun h => by simp [(List.getElem?_eq_some_iff.1 ht).2]
  have hti : (t : Int) < S.lines.length := by omega
  refine pcl_body code22 ?_
  have hf0 := fromI_zero (fun q : Qu => decide (q.id = id)) l
  have hidx : ∃ q : Hp × Nat, acall Try.prog plc 29 [.d (encLn l), .fn 30 [.ptr (0, 0) 0 1]] (upd (fun _ => none) (0, 0) (.cells [.d (.int .i64 id)])) 12 = some (.d (.int .i64 (match findQ l id with | some i => i | none => -1)), q.1, q.2) := by
    obtain ⟨e, t, hrun, hR⟩ := hloop 16 (by omega)
    rw [hf0] at hR
    simp [idxT] at hrun
    unfold findQ
    cases hq : l.findIdx? (fun q => decide (q.id = id)) with
    | none =>
      rw [hq] at hR
      obtain ⟨H', n', rfl, rfl⟩ := hR
      refine ⟨(H', n' + 1), acall_body code29 ?_⟩
      simp [encLn] at hrun
      simp [encLn, hrun]
    | some k =>
      rw [hq] at hR
      obtain ⟨rfl, hv⟩ := hR
      refine ⟨(t.hp, t.nx), acall_body code29 ?_⟩
      simp [encLn] at hrun
      simp [encLn, hrun, hv]
  obtain ⟨⟨H1, N1⟩, hidx⟩ := hidx
  simp [encLn] at hidx
  simp [encS, plc_raw, hti, htl, hcells, encLn, hidx]
theorem now_ok {H : Hp} {N : Nat} {oS oL : Oid} {vs : List AV} {os : List (Option Oid)} {S : Sc} (h : SchH H N oS oL vs os S) (nx : Nat) : acall Try.prog plc 16 [.ptr oS 0 3] H nx = some (.d (.int .i64 S.now), H, nx + 8) := by
  have hr := h.root
  refine acall_body code16 ?_
  simp [hr]
end Go.Proofs.Ytnlmonokkppagaa.Am

/-
  The scheduler: what makes it, and what adds to it. No condition.
-/
namespace Go.Proofs.Ytnlmonokkppagaa.Am
open Go Go.Proofs
set_option maxHeartbeats 4000000
set_option maxRecDepth 20000
set_option linter.unusedSimpArgs false
set_option linter.unusedVariables false
theorem append_src {H : Hp} {v : AV} {l : List Qu} {o : Option Oid} (h : LineAt H v l o) {src : AV} {x : Qu} (hs : srcCells Try.prog H 3 59 src = some ([.int .i64 x.id, .int .i64 x.dl, .int .i64 x.tn], 1, [])) (id : Nat) (hsz : l.length < 64) :
    ∃ ver o' H', appendO Try.prog H id 59 59 v src = some (.osl o' 0 (l.length + 1) 3 ver, H') ∧ LineAt H' (.osl o' 0 (l.length + 1) 3 ver) (l ++ [x]) (some o') ∧ (o = some o' ∨ o = none ∧ o' = (id, 0)) ∧ (∀ p, p ≠ o' → H' p = H p) := by
  cases h with
  | nil =>
    refine ⟨3, (id, 0), upd H (id, 0) (.grow ([D.int .i64 x.id, .int .i64 x.dl, .int .i64 x.tn].map .d)), ?_, ?_, .inr ⟨rfl, rfl⟩, fun p hp => upd_ne hp⟩
    · simp [appendO, hs, growO]
    · exact .row (id, 0) [x] [D.int .i64 x.id, .int .i64 x.dl, .int .i64 x.tn] (upd_same _ _ _) (by simp) (by simp [encQ]) (by simp)
  | vn o h =>
    refine ⟨3, o, upd H o (.grow ([D.int .i64 x.id, .int .i64 x.dl, .int .i64 x.tn].map .d)), ?_, ?_, .inl rfl, fun p hp => upd_ne hp⟩
    · simp [appendO, hs, h, growO]
    · exact .row o [x] [D.int .i64 x.id, .int .i64 x.dl, .int .i64 x.tn] (upd_same _ _ _) (by simp) (by simp [encQ]) (by simp)
  | row o l cs h hv ht hb =>
    have hle : cs.length ≤ 68719476736 := by omega
    by_cases hf : l.length * 3 + 3 ≤ cs.length
    · obtain ⟨cs', hcs'⟩ : ∃ cs', cs' = cs.take (l.length * 3) ++ ([D.int .i64 x.id, .int .i64 x.dl, .int .i64 x.tn] ++ cs.drop (l.length * 3 + 3)) := ⟨_, rfl⟩
      have hlen : cs'.length = cs.length := by rw [hcs']; simp; omega
      have htk : cs'.take ((l ++ [x]).length * 3) = encQ (l ++ [x]) := by
        rw [hcs', ht, encQ_append, List.length_append, List.length_singleton, show (l.length + 1) * 3 = (encQ l).length + 3 by rw [encQ_len]; omega, List.take_append]
        have htl : (encQ l).take ((encQ l).length + 3) = encQ l := List.take_of_length_le (by omega)
        simp [encQ, htl]
      have hrow := LineAt.row (H := upd H o (.grow (cs'.map .d))) o (l ++ [x]) cs' (upd_same _ _ _) (by simp; omega) htk (by omega)
      rw [hlen, List.length_append, List.length_singleton] at hrow
      refine ⟨_, o, _, ?_, hrow, .inl rfl, fun p hp => upd_ne hp⟩
      simp [appendO, hs, h, hv, hle, growO, hf, hcs']
    · have ht2 : List.take (l.length * 3) (cs.map AV.d) = (encQ l).map .d := by rw [← List.map_take, ht]
      have hrow := LineAt.row (H := upd H o (.grow ((encQ (l ++ [x])).map .d))) o (l ++ [x]) (encQ (l ++ [x])) (upd_same _ _ _) (by rw [encQ_len]; omega) (by rw [List.take_of_length_le (by rw [encQ_len]; omega)]) (by rw [encQ_len]; simp; omega)
      rw [encQ_len, List.length_append, List.length_singleton] at hrow
      refine ⟨_, o, _, ?_, hrow, .inl rfl, fun p hp => upd_ne hp⟩
      rw [encQ_append]
      have h3 : (l.length + 1) * 3 = l.length * 3 + 3 := by omega
      simp only [h3]
      simp [appendO, hs, h, hv, hle, growO, hf, ht2, encQ]
theorem append_line {H : Hp} {v : AV} {l : List Qu} {o : Option Oid} (h : LineAt H v l o) {q : Oid} {x : Qu} (hq : H q = some (.cells [.d (.int .i64 x.id), .d (.int .i64 x.dl), .d (.int .i64 x.tn)])) (id : Nat) (hsz : l.length < 64) :
    ∃ ver o' H', appendO Try.prog H id 59 59 v (.osl q 0 1 3 3) = some (.osl o' 0 (l.length + 1) 3 ver, H') ∧ LineAt H' (.osl o' 0 (l.length + 1) 3 ver) (l ++ [x]) (some o') ∧ (o = some o' ∨ o = none ∧ o' = (id, 0)) ∧ (∀ p, p ≠ o' → H' p = H p) :=
  append_src h (by simp [srcCells, srcRaw, hq]) id hsz
theorem append_lit {H : Hp} {v : AV} {l : List Qu} {o : Option Oid} (h : LineAt H v l o) {x : Qu} (id : Nat) (hsz : l.length < 64) :
    ∃ ver o' H', appendO Try.prog H id 59 59 v (.d (.sl [.int .i64 x.id, .int .i64 x.dl, .int .i64 x.tn] 1 false (some false))) = some (.osl o' 0 (l.length + 1) 3 ver, H') ∧ LineAt H' (.osl o' 0 (l.length + 1) 3 ver) (l ++ [x]) (some o') ∧ (o = some o' ∨ o = none ∧ o' = (id, 0)) ∧ (∀ p, p ≠ o' → H' p = H p) :=
  append_src h (by simp [srcCells, srcRaw]) id hsz
/-- What a call on a scheduler leaves. -/
structure Did (H : Hp) (nx : Nat) (oS oL : Oid) (os : List (Option Oid)) (S' : Sc) (H' : Hp) (nx' : Nat) (vs' : List AV) (os' : List (Option Oid)) : Prop where
  le : nx ≤ nx'
  sch : SchH H' nx' oS oL vs' os' S'
  fr : ∀ p : Oid, p.1 < nx → ¬ Foot oS oL os p → H' p = H p
  os : ∀ p, some p ∈ os' → some p ∈ os ∨ nx ≤ p.1
theorem nth_get {S : Sc} {t : Int} (h : S.isT t = true) : ∃ n : Nat, t = n ∧ n < S.lines.length ∧ (t.toNat = n) := by
  unfold Sc.isT at h
  simp only [Bool.and_eq_true, decide_eq_true_eq] at h
  exact ⟨t.toNat, by omega, by omega, rfl⟩
theorem add_ok {H : Hp} {N : Nat} {oS oL : Oid} {vs : List AV} {os : List (Option Oid)} {S : Sc} (h : SchH H N oS oL vs os S) (nx : Nat) (hN : N ≤ nx) (hn : S.lines.length ≤ 16) (t id d : Int) :
    ∃ H' nx' vs' os', acall Try.prog plc 8 [.ptr oS 0 3, .d (.int .i64 t), .d (.int .i64 id), .d (.int .i64 d)] H nx = some (.d (.int .i64 (S.add t id d).2), H', nx') ∧ Did H nx oS oL os (S.add t id d).1 H' nx' vs' os' := by
  have hroot := h.root
  have htab := h.tab
  obtain ⟨x, is, hre, hwk⟩ := h.reify 3
  simp only [Nat.reduceAdd] at hre
  have his := is_ok S t
  have same : ∀ nx', nx ≤ nx' → Did H nx oS oL os S H nx' vs os := fun nx' hn => ⟨hn, h.mono (by omega), fun _ _ _ => rfl, fun p hp => .inl hp⟩
  unfold Sc.add
  cases hT : S.isT t
  · rw [hT] at his
    simp only [true_or, if_true]
    refine ⟨H, _, vs, os, acall_body code8 ?_, same (nx + 14) (by omega)⟩
    simp [plc_raw, hre, reify_d, hwk, his, -reify]
  rw [hT] at his
  obtain ⟨n, rfl, hnl, htn⟩ := nth_get hT
  simp only [Bool.true_eq_false, false_or]
  by_cases hd : d < 0
  · rw [if_pos hd]
    refine ⟨H, _, vs, os, acall_body code8 ?_, same (nx + 14) (by omega)⟩
    simp [plc_raw, hre, reify_d, hwk, his, hd, -reify]
  rw [if_neg hd]
  obtain ⟨v, l, o, hv, hl, ho, hline⟩ := h.get hnl
  have hle := hline.le
  have hfd := find_ok S n l id hl (by omega) (by omega)
  have hline' : S.line n = l := by simp [Sc.line, hl]
  rw [hline']
  cases hq : findQ l id with
  | some i =>
    rw [hq] at hfd
    have hi0 : (0 : Int) ≤ (i : Int) := by omega
    simp only [Option.isSome_some, if_true]
    refine ⟨H, _, vs, os, acall_body code8 ?_, same (nx + 20) (by omega)⟩
    simp [plc_raw, hre, reify_d, hwk, his, hd, hfd, hi0, -reify]
  | none =>
    rw [hq] at hfd
    simp only [Option.isSome_none, Bool.false_eq_true, if_false]
    have hni : (n : Int) < (S.lines.length : Int) := by omega
    have hve : ∀ h : n < vs.length, vs[n]'h = v := fun h => (List.getElem?_eq_some_iff.1 hv).2
    have hvl := h.vlen
    by_cases hf : 64 ≤ l.length
    · rw [if_pos hf]
      have hfi : (64 : Int) ≤ l.length := by omega
      refine ⟨H, _, vs, os, acall_body code8 ?_, same (nx + 30) (by omega)⟩
      cases hline with
      | nil => simp at hf
      | vn o h => simp at hf
      | row o l cs hc h1 h2 h3 => simp [plc_raw, hre, reify_d, hwk, his, hd, hfd, hroot, htab, hvl, hv, hve, hni, hnl, hfi, -reify]
    · rw [if_neg hf]
      have hfi : ¬ (64 : Int) ≤ l.length := by omega
      have hoq : o ≠ some (nx + 44, 0) := fun e => by rw [e] at ho; have := h.lt n _ ho; simp at this; omega
      have hline2 : LineAt (upd H (nx + 44, 0) (.cells [.d (.int .i64 id), .d (.int .i64 d), .d (.int .i64 0)])) v l o := hline.keep fun p hp => by rw [hp] at ho; have := h.lt n _ ho; rw [upd_old (by omega)]
      obtain ⟨ver, o', H1, ha, hl1, hoo, hk⟩ := append_line hline2 (x := ⟨id, d, 0⟩) (upd_same _ _ _) (nx + 45) (by omega)
      have hlt' : o'.1 < nx + 48 := by
        rcases hoo with e | ⟨_, e⟩
        · rw [e] at ho; have := h.lt n _ ho; omega
        · rw [e]; simp
      have hne : ∀ p, Foot oS oL os p → o ≠ some p → p ≠ o' := fun p hp h1 e => by
        rcases hoo with e1 | ⟨_, e1⟩
        · exact h1 (by rw [e, e1])
        · have := h.foot_lt hp; rw [e, e1] at this; simp at this; omega
      have hS : H1 oS = H oS := (hk oS (hne oS (.inl rfl) fun e => by rw [e] at ho; exact h.neS n _ ho rfl)).trans (upd_old (by have := h.ltS; omega) _ _ _)
      have hL : H1 oL = H oL := (hk oL (hne oL (.inr (.inl rfl)) fun e => by rw [e] at ho; exact h.neL n _ ho rfl)).trans (upd_old (by have := h.ltL; omega) _ _ _)
      have f1 : ∀ k j x, upd H (nx + k, j) x oS = H oS := fun k j x => upd_old (by have := h.ltS; omega) _ _ _
      have f2 : ∀ k j x, upd H (nx + k, j) x oL = H oL := fun k j x => upd_old (by have := h.ltL; omega) _ _ _
      have hset : vs.set n (.osl o' 0 (l.length + 1) 3 ver) = vs.take n ++ .osl o' 0 (l.length + 1) 3 ver :: vs.drop (n + 1) := by rw [List.set_eq_take_append_cons_drop, if_pos (by omega)]
      have hn1 : n + 1 ≤ S.lines.length := hnl
      refine ⟨upd H1 oL (.cells (vs.set n (.osl o' 0 (l.length + 1) 3 ver))), nx + 49, vs.set n (.osl o' 0 (l.length + 1) 3 ver), os.set n (some o'), acall_body code8 ?_, by omega, ?_, ?_, ?_⟩
      · rw [hset]
        cases hline with
        | nil => simp [plc_raw, hre, reify_d, hwk, his, hd, hfd, hroot, htab, hvl, hv, hve, hni, hnl, hn1, hfi, f1, f2, ha, hS, hL, Nat.add_assoc, -reify]
        | vn o h => simp [plc_raw, hre, reify_d, hwk, his, hd, hfd, hroot, htab, hvl, hv, hve, hni, hnl, hn1, hfi, f1, f2, ha, hS, hL, Nat.add_assoc, -reify]
        | row o l cs hc h1 h2 h3 => simp [plc_raw, hre, reify_d, hwk, his, hd, hfd, hroot, htab, hvl, hv, hve, hni, hnl, hn1, hfi, f1, f2, ha, hS, hL, Nat.add_assoc, -reify]
      · refine h.set (H' := upd H1 oL (.cells (vs.set n (.osl o' 0 (l.length + 1) 3 ver)))) (M := nx + 49) hnl ho (by omega) (fun p hp => ?_) (upd_same _ _ _) (hl1.keep fun p hp => ?_) (fun p hp h1 h2 => ?_)
        · cases hp
          refine ⟨?_, by omega⟩
          rcases hoo with e | ⟨_, e⟩
          · exact .inl e
          · rw [e]; exact .inr (by simp only; omega)
        · cases hp
          refine upd_ne ?_
          rcases hoo with e | ⟨_, e⟩
          · rw [e] at ho; exact h.neL n _ ho
          · rw [e]; exact fun e2 => by have := h.ltL; rw [← e2] at this; simp at this; omega
        · rw [upd_ne h1, hk p (fun e => ?_), upd_old (by omega)]
          rcases hoo with e1 | ⟨_, e1⟩
          · exact h2 (by rw [e, e1])
          · rw [e, e1] at hp; simp at hp; omega
      · intro p hp hF
        rw [upd_ne (fun e => hF (.inr (.inl e))), hk p (fun e => ?_), upd_old (by omega)]
        rcases hoo with e1 | ⟨_, e1⟩
        · exact hF (.inr (.inr (by rw [e, ← e1]; exact List.mem_of_getElem? ho)))
        · rw [e, e1] at hp; simp at hp; omega
      · intro p hp
        rcases List.mem_or_eq_of_mem_set hp with hp | hp
        · exact .inl hp
        · cases hp
          rcases hoo with e1 | ⟨_, e1⟩
          · exact .inl (by rw [← e1]; exact List.mem_of_getElem? ho)
          · exact .inr (by rw [e1]; simp only; omega)
end Go.Proofs.Ytnlmonokkppagaa.Am

/-
  The scheduler: what makes it, and what takes away from it. No condition.
-/
namespace Go.Proofs.Ytnlmonokkppagaa.Am
open Go Go.Proofs
set_option maxHeartbeats 4000000
set_option maxRecDepth 20000
set_option linter.unusedSimpArgs false
set_option linter.unusedVariables false
theorem Did.of_line {H : Hp} {N : Nat} {oS oL : Oid} {vs : List AV} {os : List (Option Oid)} {S : Sc} (h : SchH H N oS oL vs os S) {nx nx1 : Nat} (hN : N ≤ nx) {n : Nat} (hnl : n < S.lines.length) {o : Option Oid} (ho : os[n]? = some o) {H1 : Hp} {v' : AV} {l' : List Qu} {o' : Option Oid}
    (hk : ∀ p : Oid, p.1 < nx → o ≠ some p → H1 p = H p) (hl1 : LineAt H1 v' l' o') (ho' : ∀ p, o' = some p → (o = some p ∨ nx ≤ p.1) ∧ p.1 < nx1) (hle : nx ≤ nx1) :
    Did H nx oS oL os { S with lines := S.lines.set n l' } (upd H1 oL (.cells (vs.set n v'))) nx1 (vs.set n v') (os.set n o') := by
  refine ⟨hle, h.set (H' := upd H1 oL (.cells (vs.set n v'))) (M := nx1) hnl ho (by omega) (fun p hp => ?_) (upd_same _ _ _) (hl1.keep fun p hp => ?_) (fun p hp h1 h2 => ?_), fun p hp hF => ?_, fun p hp => ?_⟩
  · obtain ⟨h1, h2⟩ := ho' p hp
    exact ⟨h1.imp (fun e => e) (fun e => by omega), h2⟩
  · obtain ⟨h1, h2⟩ := ho' p hp
    refine upd_ne ?_
    rcases h1 with e | e
    · rw [e] at ho; exact h.neL n _ ho
    · exact fun e2 => by have := h.ltL; rw [← e2] at this; omega
  · rw [upd_ne h1]; exact hk p (by omega) h2
  · rw [upd_ne (fun e => hF (.inr (.inl e)))]
    exact hk p hp fun e => hF (.inr (.inr (by rw [← e]; exact List.mem_of_getElem? ho)))
  · rcases List.mem_or_eq_of_mem_set hp with hp | hp
    · exact .inl hp
    · rcases (ho' p hp.symm).1 with e | e
      · exact .inl (by rw [← e]; exact List.mem_of_getElem? ho)
      · exact .inr e
theorem new_ok (H : Hp) (nx n w : Nat) (h1 : 1 ≤ n) (h2 : n ≤ 16) (h3 : 1 ≤ w) (h4 : w ≤ 16) :
    ∃ H' nx' oS oL vs os, acall Try.prog plc 7 [.d (.int .i64 n), .d (.int .i64 w)] H nx = some (.tup [.ptr oS 0 3, .d (.int .i64 0)], H', nx') ∧ nx ≤ nx' ∧ SchH H' nx' oS oL vs os ⟨w, 0, List.replicate n []⟩ ∧ (∀ p : Oid, p.1 < nx → H' p = H p) ∧ ∀ p, Foot oS oL os p → nx ≤ p.1 := by
  have a1 : ¬ (n : Int) < 1 := by omega
  have a2 : ¬ (16 : Int) < n := by omega
  have a3 : ¬ (w : Int) < 1 := by omega
  have a4 : ¬ (16 : Int) < w := by omega
  have a5 : (n : Int) ≤ 1099511627776 := by omega
  refine ⟨upd (upd H (nx + 18, 0) (.cells (List.replicate n (.d (.sl [] 0 true (some true)))))) (nx + 20, 0) (.cells [.d (.int .i64 w), .d (.int .i64 0), .osl (nx + 18, 0) 0 n 1 n]), nx + 23, (nx + 20, 0), (nx + 18, 0), List.replicate n (.d (.sl [] 0 true (some true))), List.replicate n none, acall_body code7 ?_, by omega, ?_, ?_, ?_⟩
  · simp [a1, a2, a3, a4, a5, Nat.add_assoc]
  · refine ⟨by simp, by simp, by simp, by simp, fun t v l o e1 e2 e3 => ?_, fun a b o e1 => ?_, by simp, by simp, fun t o e => ?_, by simp, fun t o e => ?_, fun t o e => ?_⟩
    · have e1 := List.mem_of_getElem? e1
      have e2 := List.mem_of_getElem? e2
      have e3 := List.mem_of_getElem? e3
      simp at e1 e2 e3
      obtain ⟨_, rfl⟩ := e1; obtain ⟨_, rfl⟩ := e2; obtain ⟨_, rfl⟩ := e3
      exact .nil
    all_goals (have e := List.mem_of_getElem? ‹_ = some (some _)›; simp at e)
  · intro p hp; rw [upd_old (by omega), upd_old (by omega)]
  · rintro p (rfl | rfl | hp)
    · simp
    · simp
    · simp at hp
theorem new_bad (H : Hp) (nx : Nat) (n w : Int) (h : n < 1 ∨ 16 < n ∨ w < 1 ∨ 16 < w) : ∃ nx', acall Try.prog plc 7 [.d (.int .i64 n), .d (.int .i64 w)] H nx = some (.d (.tup [.nilptr, .int .i64 1]), H, nx') := by
  refine ⟨nx + 18, acall_body code7 ?_⟩
  by_cases h1 : n < 1
  · simp [h1]
  by_cases h2 : 16 < n
  · simp [h1, h2]
  by_cases h3 : w < 1
  · simp [h1, h2, h3]
  by_cases h4 : 16 < w
  · simp [h1, h2, h3, h4]
  · omega
theorem allD_mapD : ∀ cs : List D, allD (cs.map .d) = some cs
  | [] => rfl
  | x :: r => by simp [allD, allD_mapD r]
theorem delete_ok {H : Hp} {o : Oid} {a b : List Qu} {q : Qu} {cs : List D} (hc : H o = some (.grow (cs.map .d))) (hv : (a ++ q :: b).length * 3 ≤ cs.length) (ht : cs.take ((a ++ q :: b).length * 3) = encQ (a ++ q :: b)) (hb : cs.length ≤ 192) (nx : Nat) (ho : o.1 < nx) (n : Nat) (hn : n = a.length + b.length) :
    ∃ (cs' : List D) (H' : Hp), acall Try.prog plc 28 [.osl o 0 (n + 1) 3 cs.length, .d (.int .i64 a.length), .d (.int .i64 (a.length + 1))] H nx = some (.osl o 0 n 3 cs.length, H', nx + 29) ∧ H' o = some (.grow (cs'.map .d)) ∧ (∀ p : Oid, p.1 < nx → p ≠ o → H' p = H p) ∧ cs'.length = cs.length ∧ cs'.take ((a ++ b).length * 3) = encQ (a ++ b) := by
  have hL : (a ++ q :: b).length = a.length + b.length + 1 := by simp; omega
  rw [hL] at hv ht
  obtain ⟨cs1, hcs1⟩ : ∃ cs1, cs1 = cs.take (a.length * 3) ++ (encQ b ++ cs.drop (a.length * 3 + b.length * 3)) := ⟨_, rfl⟩
  have hl1 : cs1.length = cs.length := by rw [hcs1]; simp [encQ_len]; omega
  obtain ⟨cs2, hcs2⟩ : ∃ cs2, cs2 = cs1.take (n * 3) ++ ([D.int .i64 0, .int .i64 0, .int .i64 0] ++ cs1.drop (n * 3 + 3)) := ⟨_, rfl⟩
  have hl2 : cs2.length = cs.length := by rw [hcs2]; simp [hl1]; omega
  have hta : cs.take (a.length * 3) = encQ a := by
    have := congrArg (List.take (a.length * 3)) ht
    rw [List.take_take, Nat.min_eq_left (by omega), encQ_take] at this
    simpa using this
  have htb : (cs.drop ((a.length + 1) * 3)).take (b.length * 3) = encQ b := by
    have := congrArg (List.drop ((a.length + 1) * 3)) ht
    rw [List.drop_take, encQ_drop] at this
    rw [show (a.length + b.length + 1) * 3 - (a.length + 1) * 3 = b.length * 3 by omega] at this
    rw [this]; simp
  have hsrc : ∀ H' : Hp, H' o = some (.grow (cs.map .d)) → srcCells Try.prog H' 3 59 (.osl o ((a.length + 1) * 3) b.length 3 cs.length) = some (encQ b, b.length, []) := fun H' hc => by
    have hall : allD (((cs.map AV.d).drop ((a.length + 1) * 3)).take (b.length * 3)) = some (encQ b) := by
      rw [← List.map_drop, ← List.map_take, htb]; exact allD_mapD _
    have h5 : (a.length + 1) * 3 + b.length * 3 ≤ cs.length := by omega
    simp [srcCells, srcRaw, hc, hall, h5, -allD]
  have happ : ∀ (H' : Hp) (id : Nat), H' o = some (.grow (cs.map .d)) → appendO Try.prog H' id 59 59 (.osl o 0 a.length 3 cs.length) (.osl o ((a.length + 1) * 3) b.length 3 cs.length) = some (.osl o 0 n 3 cs.length, upd H' o (.grow (cs1.map .d))) := fun H' id hc => by
    have hs := hsrc H' hc
    have i7 : a.length * 3 ≤ cs.length := by omega
    have i8 : a.length * 3 + b.length * 3 ≤ cs.length := by omega
    have i9 : cs.length ≤ 68719476736 := by omega
    have i10 : (encQ b).length = b.length * 3 := encQ_len b
    have i11 : ¬ 68719476736 < b.length * 3 := by omega
    by_cases hbn : b = []
    · have e1 : cs1 = cs := by rw [hcs1, hbn]; simp [encQ]
      have e2 : upd H' o (.grow (cs.map .d)) = H' := by
        funext p; simp only [upd]; split
        · rename_i h; rw [h, hc]
        · rfl
      have e3 : n = a.length := by rw [hn, hbn]; simp
      rw [e1, e2, e3]
      rw [hbn] at hs
      simp only [List.length_nil, encQ] at hs
      simp [appendO, hs, hc, i7, i9, hbn]
    · rw [hcs1, hn]
      simp [appendO, growO, hs, hc, i7, i8, i9, i10, i11, hbn]
  have f0 : ∀ j x, upd H (nx, j) x o = H o := fun j x => upd_old ho _ _ _
  have f1 : ∀ k j x H', upd H' (nx + k, j) x o = H' o := fun k j x H' => upd_old (by omega) _ _ _
  refine ⟨cs2, upd (upd H (nx, 1) .vnil) o (.grow (cs2.map .d)), acall_body code28 ?_, upd_same _ _ _, fun p hp hq => by rw [upd_ne hq, upd_old hp], hl2, ?_⟩
  · have i1 : ¬ ((a.length : Int) = (a.length : Int) + 1) := by omega
    have i2 : (0 : Int) ≤ (a.length : Int) + 1 := by omega
    have i3 : (0 : Int) ≤ (n : Int) + 1 := by omega
    have i5 : a.length ≤ n := by omega
    have i6 : ¬ a.length = n + 1 := by omega
    have i7 : a.length * 3 ≤ cs.length := by omega
    have i8 : n - a.length = b.length := by omega
    have i9 : (n + 1) * 3 ≤ cs.length := by omega
    have i10 : n * 3 + 3 ≤ cs.length := by omega
    rw [hcs2]
    simp [plc_raw, Nat.add_assoc, hc, f0, f1, i1, i2, i3, i5, i6, i7, i8, i9, i10, happ, hl1]
  · have e1 : (encQ (a ++ b)).length = n * 3 := by rw [encQ_len]; simp [hn]
    have e2 : (a ++ b).length * 3 = n * 3 := by simp [hn]
    rw [hcs2, e2, List.take_append_of_le_length (by simp [hl1]; omega), List.take_take, Nat.min_self, hcs1, hta, ← List.append_assoc, ← encQ_append, List.take_append_of_le_length (by omega), List.take_of_length_le (by omega)]
theorem findQ_split {l : List Qu} {id : Int} {i : Nat} (h : findQ l id = some i) : ∃ a q b, l = a ++ q :: b ∧ a.length = i ∧ l.eraseIdx i = a ++ b := by
  have hi : i < l.length := (List.findIdx?_eq_some_iff_findIdx_eq.1 h).1
  refine ⟨l.take i, l[i], l.drop (i + 1), ?_, by simp; omega, ?_⟩
  · rw [← List.drop_eq_getElem_cons hi, List.take_append_drop]
  · rw [List.eraseIdx_eq_take_drop_succ]
theorem rem_ok {H : Hp} {N : Nat} {oS oL : Oid} {vs : List AV} {os : List (Option Oid)} {S : Sc} (h : SchH H N oS oL vs os S) (nx : Nat) (hN : N ≤ nx) (hn : S.lines.length ≤ 16) (t id : Int) :
    ∃ H' nx' vs' os', acall Try.prog plc 12 [.ptr oS 0 3, .d (.int .i64 t), .d (.int .i64 id)] H nx = some (.d (.int .i64 (S.rem t id).2), H', nx') ∧ Did H nx oS oL os (S.rem t id).1 H' nx' vs' os' := by
  have hroot := h.root
  have htab := h.tab
  obtain ⟨x, is, hre, hwk⟩ := h.reify 3
  simp only [Nat.reduceAdd] at hre
  have his := is_ok S t
  have same : ∀ nx', nx ≤ nx' → Did H nx oS oL os S H nx' vs os := fun nx' hn => ⟨hn, h.mono (by omega), fun _ _ _ => rfl, fun p hp => .inl hp⟩
  unfold Sc.rem
  cases hT : S.isT t
  · rw [hT] at his
    simp only [if_true]
    refine ⟨H, _, vs, os, acall_body code12 ?_, same (nx + 10) (by omega)⟩
    simp [plc_raw, hre, reify_d, hwk, his, -reify]
  rw [hT] at his
  obtain ⟨n, rfl, hnl, htn⟩ := nth_get hT
  simp only [Bool.true_eq_false, if_false]
  obtain ⟨v, l, o, hv, hl, ho, hline⟩ := h.get hnl
  have hle := hline.le
  have hfd := find_ok S n l id hl (by omega) (by omega)
  have hline' : S.line n = l := by simp [Sc.line, hl]
  rw [hline']
  have hvl := h.vlen
  cases hq : findQ l id with
  | none =>
    rw [hq] at hfd
    simp only
    refine ⟨H, _, vs, os, acall_body code12 ?_, same (nx + 17) (by omega)⟩
    simp [plc_raw, hre, reify_d, hwk, his, hfd, -reify]
  | some i =>
    rw [hq] at hfd
    obtain ⟨a, q, b, hl2, ha, her⟩ := findQ_split hq
    simp only [her]
    subst hl2
    subst ha
    have hi0 : ¬ (a.length : Int) < 0 := by omega
    have hni : (n : Int) < (S.lines.length : Int) := by omega
    have hve : ∀ h : n < vs.length, vs[n]'h = v := fun h => (List.getElem?_eq_some_iff.1 hv).2
    have hL : (a ++ q :: b).length = a.length + b.length + 1 := by simp; omega
    have hn1 : n + 1 ≤ S.lines.length := hnl
    generalize hll : a ++ q :: b = l at *
    cases hline with
    | nil => simp at hL
    | vn o h => simp at hL
    | row o l cs hc h1 h2 h3 =>
      rw [← hll] at h1 h2
      have hon := h.lt n o ho
      obtain ⟨cs', H1, hd, e1, e2, e3, e4⟩ := delete_ok hc h1 h2 h3 (nx + 34) (by omega) (a.length + b.length) rfl
      have hS : H1 oS = H oS := e2 oS (by have := h.ltS; omega) (fun e => h.neS n o ho e.symm)
      have hLL : H1 oL = H oL := e2 oL (by have := h.ltL; omega) (fun e => h.neL n o ho e.symm)
      have hset : vs.set n (.osl o 0 (a.length + b.length) 3 cs.length) = vs.take n ++ .osl o 0 (a.length + b.length) 3 cs.length :: vs.drop (n + 1) := by rw [List.set_eq_take_append_cons_drop, if_pos (by omega)]
      have hw : IntKind.i64.wrap ((a.length : Int) + 1) = (a.length : Int) + 1 := wrap_i64 (by omega) (by rw [hL] at hle; omega)
      rw [Nat.add_assoc a.length, Nat.add_assoc nx] at hd
      have hrow := LineAt.row o (a ++ b) cs' e1 (by rw [e3]; simp at h1 ⊢; omega) e4 (by omega)
      rw [e3, List.length_append] at hrow
      refine ⟨upd H1 oL (.cells (vs.set n (.osl o 0 (a.length + b.length) 3 cs.length))), _, vs.set n (.osl o 0 (a.length + b.length) 3 cs.length), os.set n (some o), acall_body code12 ?_, Did.of_line h hN hnl ho (nx1 := nx + 64) (fun p hp hq => e2 p (by omega) (fun e => hq (by rw [e]))) hrow (fun p hp => ⟨.inl hp, by cases hp; omega⟩) (by omega)⟩
      rw [hset]
      simp [plc_raw, hre, reify_d, hwk, his, hfd, hroot, htab, hvl, hv, hve, hni, hnl, hn1, hi0, hL, hw, hd, hS, hLL, Nat.add_assoc, -reify]
end Go.Proofs.Ytnlmonokkppagaa.Am

/-
  The scheduler: a line turned, a query that is over. No condition.
-/
namespace Go.Proofs.Ytnlmonokkppagaa.Am
open Go Go.Proofs
set_option maxHeartbeats 4000000
set_option maxRecDepth 20000
set_option linter.unusedSimpArgs false
set_option linter.unusedVariables false
theorem clone_ok {H : Hp} {o : Oid} {q : Qu} {r : List Qu} {cs : List D} (hc : H o = some (.grow (cs.map .d))) (hv : (r.length + 1) * 3 ≤ cs.length) (ht : cs.take ((r.length + 1) * 3) = encQ (q :: r)) (hb : cs.length ≤ 192) (nx : Nat) (ho : o.1 < nx) :
    ∃ H' : Hp, acall Try.prog plc 31 [.osl o 3 r.length 3 cs.length] H nx = some (.osl (nx + 3, 0) 0 r.length 3 (r.length * 3), H', nx + 7) ∧ H' (nx + 3, 0) = some (.grow ((encQ r).map .d)) ∧ ∀ p : Oid, p.1 < nx → H' p = H p := by
  have htb : (cs.drop 3).take (r.length * 3) = encQ r := by
    have := congrArg (List.drop 3) ht
    rw [List.drop_take, show (r.length + 1) * 3 - 3 = r.length * 3 by omega] at this
    rw [this]; simp [encQ]
  have hall : allD (((cs.map AV.d).drop 3).take (r.length * 3)) = some (encQ r) := by rw [← List.map_drop, ← List.map_take, htb]; exact allD_mapD _
  have h5 : 3 + r.length * 3 ≤ cs.length := by omega
  have hsrc : ∀ H' : Hp, H' o = some (.grow (cs.map .d)) → srcCells Try.prog H' 3 59 (.osl o 3 r.length 3 cs.length) = some (encQ r, r.length, []) := fun H' hc => by
    simp [srcCells, srcRaw, hc, hall, h5, -allD]
  have f0 : ∀ j x, upd H (nx, j) x o = H o := fun j x => upd_old ho _ _ _
  have f1 : ∀ k j x H', upd H' (nx + k, j) x o = H' o := fun k j x H' => upd_old (by omega) _ _ _
  have i10 : (encQ r).length = r.length * 3 := encQ_len r
  have i11 : ¬ 68719476736 < r.length * 3 := by omega
  refine ⟨upd (upd H (nx, 1) .vnil) (nx + 3, 0) (.grow ((encQ r).map .d)), acall_body code31 ?_, upd_same _ _ _, fun p hp => by rw [upd_old (by omega), upd_old hp]⟩
  have hs := hsrc (upd (upd H (nx, 1) .vnil) (nx + 3, 0) (.grow [])) (by rw [f1, f0, hc])
  by_cases hr : r = []
  · subst hr
    simp only [List.length_nil, encQ] at hs
    simp [hc, f0, f1, Nat.add_assoc, appendO, growO, hs, encQ]
  · have i12 : ¬ r.length = 0 := fun e => hr (List.length_eq_zero_iff.1 e)
    have i13 : ¬ encQ r = [] := fun e => by rw [e] at i10; simp at i10; omega
    simp [hc, f0, f1, Nat.add_assoc, appendO, growO, hs, i10, i11, i12, i13, hr]
theorem turned_ok {H : Hp} {o : Oid} {q : Qu} {r : List Qu} {cs : List D} (hc : H o = some (.grow (cs.map .d))) (hv : (r.length + 1) * 3 ≤ cs.length) (ht : cs.take ((r.length + 1) * 3) = encQ (q :: r)) (hb : cs.length ≤ 192) (nx : Nat) (ho : o.1 < nx) :
    ∃ (H' : Hp) (nx' ver : Nat) (c : Oid), acall Try.prog plc 25 [.osl o 0 (r.length + 1) 3 cs.length] H nx = some (.osl c 0 (r.length + 1) 3 ver, H', nx') ∧ LineAt H' (.osl c 0 (r.length + 1) 3 ver) (r ++ [q]) (some c) ∧ nx ≤ c.1 ∧ c.1 < nx' ∧ nx ≤ nx' ∧ ∀ p : Oid, p.1 < nx → H' p = H p := by
  have f0 : ∀ j x, upd H (nx, j) x o = H o := fun j x => upd_old ho _ _ _
  obtain ⟨H1, h1, h2, h3⟩ := clone_ok (H := upd H (nx, 1) .vnil) (by rw [f0, hc]) hv ht hb (nx + 10) (by omega)
  have ho1 : H1 o = some (.grow (cs.map .d)) := (h3 o (by omega)).trans (by rw [f0, hc])
  have hcl : (encQ r).length = r.length * 3 := encQ_len r
  have hline := LineAt.row (H := H1) (nx + 13, 0) r (encQ r) h2 (by omega) (List.take_of_length_le (by omega)) (by omega)
  rw [hcl] at hline
  obtain ⟨ver, o', H2, ha, hl, hoo, hk⟩ := append_lit hline (x := q) (nx + 8) (by omega)
  have ho' : o' = (nx + 13, 0) := by
    rcases hoo with e | ⟨e, _⟩
    · exact (Option.some.inj e).symm
    · cases e
  subst ho'
  have ht3 : (cs.map AV.d).take 3 = [.d (.int .i64 q.id), .d (.int .i64 q.dl), .d (.int .i64 q.tn)] := by
    have := congrArg (List.take 3) ht
    rw [List.take_take, Nat.min_eq_left (by omega)] at this
    rw [← List.map_take, this]; simp [encQ]
  have i1 : (r.length + 1) * 3 ≤ cs.length := hv
  have i2 : 3 ≤ cs.length := by omega
  have i3 : (0 : Int) < (r.length : Int) + 1 := by omega
  have f1 : ∀ k j x H', upd H' (nx + k, j) x o = H' o := fun k j x H' => upd_old (by omega) _ _ _
  refine ⟨H2, nx + 17, ver, (nx + 13, 0), acall_body code25 ?_, hl, by simp only; omega, by simp, by omega, fun p hp => ?_⟩
  · simp [plc_raw, hc, f0, Nat.add_assoc, i1, i2, i3, h1, ho1, ht3, ha]
  · rw [hk p (fun e => by rw [e] at hp; simp at hp; omega), h3 p (by omega), upd_old hp]
/-! ### Rows of runs -/
def encR : List Rn → List D
  | [] => []
  | (t, i, k) :: r => .int .i64 t :: .int .i64 i :: .int .i64 k :: encR r
theorem encR_len : ∀ l : List Rn, (encR l).length = l.length * 3
  | [] => rfl
  | (t, i, k) :: r => by simp [encR, encR_len r]; omega
theorem encR_append : ∀ a b : List Rn, encR (a ++ b) = encR a ++ encR b
  | [], _ => rfl
  | (t, i, k) :: r, b => by simp [encR, encR_append r b]
def wdR (l : List Rn) : Nat := if l = [] then 1 else 3
def runA (o : Oid) (l : List Rn) : AV := .osl o 0 l.length (wdR l) (l.length * 3)
def runO (l : List Rn) : Am.Obj := if l = [] then .vnil else .grow ((encR l).map .d)
theorem append_run {H : Hp} {id : Nat} {o q : Oid} {l : List Rn} {t i k : Int} (h : H o = some (runO l)) (h2 : H q = some (.cells [.d (.int .i64 t), .d (.int .i64 i), .d (.int .i64 k)])) (hl : l.length ≤ 1048576) :
    appendO Try.prog H id 28 28 (runA o l) (.osl q 0 1 3 3) = some (runA o (l ++ [(t, i, k)]), upd H o (runO (l ++ [(t, i, k)]))) := by
  cases l with
  | nil =>
    simp [runO] at h
    simp [appendO, srcCells, srcRaw, h, h2, runA, wdR, runO, growO, encR]
  | cons x r =>
    have e1 : (encR (x :: r)).length = (r.length + 1) * 3 := by rw [encR_len]; simp
    have e2 : encR (x :: (r ++ [(t, i, k)])) = encR (x :: r) ++ [.int .i64 t, .int .i64 i, .int .i64 k] := by
      rw [show x :: (r ++ [(t, i, k)]) = (x :: r) ++ [(t, i, k)] from rfl, encR_append]; simp [encR]
    generalize hE : encR (x :: r) = E at *
    simp only [List.length_cons] at hl
    have i1 : (r.length + 1) * 3 ≤ 68719476736 := by omega
    have i2 : ¬ ((r.length + 1) * 3 + 3 ≤ (r.length + 1) * 3) := by omega
    have i3 : List.take ((r.length + 1) * 3) (E.map AV.d) = E.map AV.d := List.take_of_length_le (by simp [e1])
    have i5 : ¬ (r.length + 2) * 3 ≤ (r.length + 1) * 3 := by omega
    have i4 : (r.length + 1) * 3 + 3 = (r.length + 2) * 3 := by omega
    simp [runO, hE] at h
    simp [appendO, srcCells, srcRaw, h, h2, runA, wdR, runO, growO, e1, e2, hE, i1, i2, i3, i4, i5]
/-- What is late so far. -/
structure LateIs (H : Hp) (cL oR : Oid) (L : List Rn) : Prop where
  cell : H cL = some (.cells [runA oR L])
  row : H oR = some (runO L)
theorem over_call {H : Hp} {oS oL cS cL cT oR : Oid} {S : Sc} {L : List Rn} {t : Int} {N nx : Nat} (hS : H cS = some (.cells [.ptr oS 0 3])) (hroot : H oS = some (.cells [.d (.int .i64 S.ways), .d (.int .i64 S.now), .osl oL 0 S.lines.length 1 S.lines.length])) (hT : H cT = some (.cells [.d (.int .i64 t)])) (hL : LateIs H cL oR L) (hLl : L.length ≤ 1048576)
    (l1 : oS.1 < nx) (l2 : cS.1 < nx) (l3 : cL.1 < nx) (l4 : cT.1 < nx) (l5 : oR.1 < nx) (hne : cL ≠ oR) (q : Qu) :
    ∃ (H' : Hp) (nx' : Nat), acall Try.prog plc 24 [.d (.agg [.int .i64 q.id, .int .i64 q.dl, .int .i64 q.tn]), .ptr cS 0 1, .ptr cL 0 1, .ptr cT 0 1] H nx = some (.d (.bool (q.over S.now)), H', nx') ∧ nx ≤ nx' ∧ LateIs H' cL oR (if q.over S.now then L ++ [(t, q.id, 0)] else L) ∧ ∀ p : Oid, p.1 < nx → p ≠ cL → p ≠ oR → H' p = H p := by
  have g : ∀ (p : Oid), p.1 < nx → ∀ j x (H' : Hp), upd H' (nx, j) x p = H' p := fun p hp j x H' => upd_old hp j x H'
  have g' : ∀ (p : Oid), p.1 < nx → ∀ k j x (H' : Hp), upd H' (nx + k, j) x p = H' p := fun p hp k j x H' => upd_old (by omega) j x H'
  obtain ⟨hc, hr⟩ := hL
  unfold Qu.over
  by_cases h1 : 0 < q.dl
  · by_cases h2 : q.dl ≤ S.now
    · have ha := append_run (id := nx + 22) (q := (nx + 21, 0)) (t := t) (i := q.id) (k := 0) (l := L) (o := oR) (H := upd (upd H (nx, 0) (.cells [.d (.int .i64 q.id), .d (.int .i64 q.dl), .d (.int .i64 q.tn)])) (nx + 21, 0) (.cells [.d (.int .i64 t), .d (.int .i64 q.id), .d (.int .i64 0)]))
        (by rw [g' oR l5, g oR l5, hr]) (upd_same _ _ _) hLl
      have hd : (decide (0 < q.dl) && decide (q.dl ≤ S.now)) = true := by simp [h1, h2]
      rw [hd]
      refine ⟨upd (upd (upd (upd H (nx, 0) (.cells [.d (.int .i64 q.id), .d (.int .i64 q.dl), .d (.int .i64 q.tn)])) (nx + 21, 0) (.cells [.d (.int .i64 t), .d (.int .i64 q.id), .d (.int .i64 0)])) oR (runO (L ++ [(t, q.id, 0)]))) cL (.cells [runA oR (L ++ [(t, q.id, 0)])]), nx + 26, acall_body code24 ?_, by omega, ⟨upd_same _ _ _, ?_⟩, fun p hp e1 e2 => ?_⟩
      · have hu : ∀ (x : Am.Obj) (H' : Hp), upd H' oR x cL = H' cL := fun x H' => upd_ne hne
        simp only [runA] at ha hc ⊢
        simp [h1, h2, g cS l2, g cL l3, g cT l4, g oS l1, g' cS l2, g' cL l3, g' cT l4, g' oS l1, hS, hroot, hT, hc, ha, Nat.add_assoc, hu]
      · rw [upd_ne (Ne.symm hne)]; exact upd_same _ _ _
      · rw [upd_ne e1, upd_ne e2, g' p hp, g p hp]
    · have hd : (decide (0 < q.dl) && decide (q.dl ≤ S.now)) = false := by simp [h2]
      rw [hd]
      refine ⟨upd H (nx, 0) (.cells [.d (.int .i64 q.id), .d (.int .i64 q.dl), .d (.int .i64 q.tn)]), nx + 18, acall_body code24 ?_, by omega, ⟨(g _ l3 _ _ _).trans hc, (g _ l5 _ _ _).trans hr⟩, fun p hp _ _ => g p hp _ _ _⟩
      simp [h1, h2, g cS l2, g cL l3, g cT l4, g oS l1, hS, hroot, hT, hc]
  · have hd : (decide (0 < q.dl) && decide (q.dl ≤ S.now)) = false := by simp [h1]
    rw [hd]
    refine ⟨upd H (nx, 0) (.cells [.d (.int .i64 q.id), .d (.int .i64 q.dl), .d (.int .i64 q.tn)]), nx + 18, acall_body code24 ?_, by omega, ⟨(g _ l3 _ _ _).trans hc, (g _ l5 _ _ _).trans hr⟩, fun p hp _ _ => g p hp _ _ _⟩
    simp [h1, g cS l2, g cL l3, g cT l4, g oS l1, hS, hroot, hT, hc]
end Go.Proofs.Ytnlmonokkppagaa.Am

/-
  The scheduler: the queries that are over leave a line. No condition.
-/
namespace Go.Proofs.Ytnlmonokkppagaa.Am
open Go Go.Proofs
set_option maxHeartbeats 4000000
set_option maxRecDepth 20000
set_option linter.unusedSimpArgs false
set_option linter.unusedVariables false
/-- Where what asks a query whether it is over finds what it needs. -/
structure OvEnv (H : Hp) (nx : Nat) (oS oL cS cL cT oR : Oid) (S : Sc) (t : Int) : Prop where
  hS : H cS = some (.cells [.ptr oS 0 3])
  hroot : H oS = some (.cells [.d (.int .i64 S.ways), .d (.int .i64 S.now), .osl oL 0 S.lines.length 1 S.lines.length])
  hT : H cT = some (.cells [.d (.int .i64 t)])
  l1 : oS.1 < nx
  l2 : cS.1 < nx
  l3 : cL.1 < nx
  l4 : cT.1 < nx
  l5 : oR.1 < nx
  hne : cL ≠ oR
  d1 : oS ≠ cL ∧ oS ≠ oR
  d2 : cS ≠ cL ∧ cS ≠ oR
  d3 : cT ≠ cL ∧ cT ≠ oR
theorem OvEnv.keep {H H' : Hp} {nx nx' : Nat} {oS oL cS cL cT oR : Oid} {S : Sc} {t : Int} (h : OvEnv H nx oS oL cS cL cT oR S t) (hk : ∀ p : Oid, p = oS ∨ p = cS ∨ p = cT → H' p = H p) (hn : nx ≤ nx') : OvEnv H' nx' oS oL cS cL cT oR S t :=
  { h with hS := (hk _ (.inr (.inl rfl))).trans h.hS, hroot := (hk _ (.inl rfl)).trans h.hroot, hT := (hk _ (.inr (.inr rfl))).trans h.hT, l1 := by have := h.l1; omega, l2 := by have := h.l2; omega, l3 := by have := h.l3; omega, l4 := by have := h.l4; omega, l5 := by have := h.l5; omega }
theorem OvEnv.call {H : Hp} {nx : Nat} {oS oL cS cL cT oR : Oid} {S : Sc} {t : Int} (h : OvEnv H nx oS oL cS cL cT oR S t) {L : List Rn} (hL : LateIs H cL oR L) (hLl : L.length ≤ 1048576) (q : Qu) {m : Nat} (hm : nx ≤ m) :
    ∃ (H' : Hp) (nx' : Nat), acall Try.prog plc 24 [.d (.agg [.int .i64 q.id, .int .i64 q.dl, .int .i64 q.tn]), .ptr cS 0 1, .ptr cL 0 1, .ptr cT 0 1] H m = some (.d (.bool (q.over S.now)), H', nx') ∧ m ≤ nx' ∧ LateIs H' cL oR (if q.over S.now then L ++ [(t, q.id, 0)] else L) ∧ (∀ p : Oid, p.1 < m → p ≠ cL → p ≠ oR → H' p = H p) ∧ OvEnv H' nx' oS oL cS cL cT oR S t := by
  obtain ⟨H', nx', e1, e2, e3, e4⟩ := over_call (N := 0) (oL := oL) h.hS h.hroot h.hT hL hLl (nx := m) (by have := h.l1; omega) (by have := h.l2; omega) (by have := h.l3; omega) (by have := h.l4; omega) (by have := h.l5; omega) h.hne q
  refine ⟨H', nx', e1, e2, e3, e4, h.keep (fun p hp => ?_) (by omega)⟩
  rcases hp with rfl | rfl | rfl
  · exact e4 _ (by have := h.l1; omega) h.d1.1 h.d1.2
  · exact e4 _ (by have := h.l2; omega) h.d2.1 h.d2.2
  · exact e4 _ (by have := h.l4; omega) h.d3.1 h.d3.2
theorem LateIs.keep {H H' : Hp} {cL oR : Oid} {L : List Rn} (h : LateIs H cL oR L) (h1 : H' cL = H cL) (h2 : H' oR = H oR) : LateIs H' cL oR L := ⟨h1.trans h.cell, h2.trans h.row⟩
/-- Who is over in a line. -/
def overs (now : Int) (t : Int) (l : List Qu) : List Rn := (l.filter (Qu.over now)).map fun q => (t, q.id, (0 : Int))
theorem overs_len (now t : Int) (l : List Qu) : (overs now t l).length ≤ l.length := by unfold overs; rw [List.length_map]; exact List.length_filter_le _ _
theorem row_at {l : List Qu} {cs : List D} (hv : l.length * 3 ≤ cs.length) (ht : cs.take (l.length * 3) = encQ l) {i : Nat} {q : Qu} (h : QAt l i q) : ((cs.map AV.d).drop (i * 3)).take 3 = [.d (.int .i64 q.id), .d (.int .i64 q.dl), .d (.int .i64 q.tn)] := by
  have h1 : (cs.drop (i * 3)).take 3 = ((encQ l).drop (i * 3)).take 3 := by
    rw [← ht, List.drop_take, List.take_take, Nat.min_eq_left h.le3]
  rw [← List.map_drop, ← List.map_take, h1, h.cells]; rfl
def Same (m : Nat) (H' H : Hp) : Prop := ∀ p : Oid, p.1 < m → H' p = H p
structure IxS where
  i : Nat
  H : Hp
abbrev idxO (x cS cL cT : AV) (n i : Nat) : List AV := [x, .fn 24 [cS, cL, cT], .junk, .junk, .d (.int .i64 0), .junk, .junk, .d (.int .i64 n), .d (.int .i64 i), .junk, .junk, .junk, .junk, .junk, .junk, .junk, .junk, .junk, .junk]
def IxEnd (H0 : Hp) (m : Nat) (l : List Qu) (now t : Int) (cL oR : Oid) (L : List Rn) (r : Option Nat) (e : Ex) (st : St) : Prop :=
  m ≤ st.nx ∧ (∀ p : Oid, p.1 < m → p ≠ cL → p ≠ oR → st.hp p = H0 p) ∧
  match r with
  | some k => e = .ret ∧ st.tm[4]? = some (.d (.int .i64 k)) ∧ ∃ q, l[k]? = some q ∧ LateIs st.hp cL oR (L ++ [(t, q.id, 0)])
  | none => ∃ tm, e = .exit 0 ∧ st.tm = tm ∧ tm.length = 19 ∧ LateIs st.hp cL oR L
theorem idx_over {H : Hp} {nx : Nat} {oS oL cS cL cT oR o : Oid} {S : Sc} {t : Int} (h : OvEnv H nx oS oL cS cL cT oR S t) {L : List Rn} (hL : LateIs H cL oR L) (hLl : L.length ≤ 1048576) {l : List Qu} {cs : List D} (hc : H o = some (.grow (cs.map .d))) (hv : l.length * 3 ≤ cs.length) (ht : cs.take (l.length * 3) = encQ l) (hb : cs.length ≤ 192)
    (ho : o.1 < nx) (ho1 : o ≠ cL) (ho2 : o ≠ oR) {m : Nat} (hm : nx ≤ m) :
    ∃ (H' : Hp) (nx' : Nat), acall Try.prog plc 29 [.osl o 0 l.length 3 cs.length, .fn 24 [.ptr cS 0 1, .ptr cL 0 1, .ptr cT 0 1]] H m = some (.d (.int .i64 (match l.findIdx? (Qu.over S.now) with | some i => i | none => -1)), H', nx') ∧ m ≤ nx' ∧
      (match l.findIdx? (Qu.over S.now) with | some i => ∃ q, l[i]? = some q ∧ LateIs H' cL oR (L ++ [(t, q.id, 0)]) | none => LateIs H' cL oR L) ∧ ∀ p : Oid, p.1 < m → p ≠ cL → p ≠ oR → H' p = H p := by
  have hloop := loop_rule (P := Try.prog) (pol := plc) (c := b29_0) (m := ⟨[true, true, false, false, true, false, false, true, true, false, false, false, false, false, false, false, false, false, false], some (m + 4)⟩)
    (b := m + 4) (tm := fun (s : IxS) => idxO (.osl o 0 l.length 3 cs.length) (.ptr cS 0 1) (.ptr cL 0 1) (.ptr cT 0 1) l.length s.i) (Hf := fun s => s.H)
    (I := fun s => s.i ≤ l.length ∧ Same m s.H H) (μ := fun s => l.length - s.i) (res := fun s => fromI (Qu.over S.now) l s.i) (R := IxEnd H m l S.now t cL oR L)
    (fun s nx1 hi => by
      obtain ⟨hi, hk⟩ := hi
      have hE : OvEnv s.H nx oS oL cS cL cT oR S t := h.keep (fun p hp => hk p (by have := h.l1; have := h.l2; have := h.l4; rcases hp with rfl | rfl | rfl <;> omega)) (Nat.le_refl _)
      have hLs : LateIs s.H cL oR L := hL.keep (hk _ (Nat.lt_of_lt_of_le h.l3 hm)) (hk _ (Nat.lt_of_lt_of_le h.l5 hm))
      have hcs : s.H o = some (.grow (cs.map .d)) := (hk o (by omega)).trans hc
      rcases Nat.lt_or_ge s.i l.length with hl2 | hl2
      · obtain ⟨q, a⟩ := q_at (by omega) hl2
        have hq : l[s.i] = q := by have := a.get; rw [List.getElem?_eq_getElem hl2] at this; exact Option.some.inj this
        obtain ⟨H1, N1, hcall, hN, hL1, hk1, _⟩ := hE.call hLs hLl q (m := nx1 + (m + 13)) (by omega)
        have hfs := fromI_step (p := Qu.over S.now) hl2
        rw [hq] at hfs
        have hrow := row_at hv ht a
        have ha1 : s.i * 3 + 3 ≤ cs.length := by have := a.ltm; omega
        have ha2 : s.i * 3 ≤ cs.length := by omega
        conv => arg 9; arg 4; unfold b29_0
        cases he : q.over S.now with
        | true =>
          rw [he] at hcall hL1
          simp [hcs, plc_raw, a.lti, a.ltm, hrow, ha1, ha2, a.w, Nat.add_assoc, hcall]
          refine .fin _ _ ⟨by simp only; omega, fun p hp e1 e2 => ?_, ?_⟩
          · show below (m + 4) H1 p = H p
            rw [below_lt (by omega), hk1 p (by omega) e1 e2]; exact hk p hp
          · rw [hfs, if_pos he]
            exact ⟨rfl, rfl, q, a.get, hL1.keep (below_lt (by have := h.l3; omega)) (below_lt (by have := h.l5; omega))⟩
        | false =>
          rw [he] at hcall hL1
          simp [hcs, plc_raw, a.lti, a.ltm, hrow, ha1, ha2, a.w, Nat.add_assoc, hcall]
          refine .next (IxS.mk (s.i + 1) (below (m + 4) H1)) (by omega) (by simp) rfl ⟨hl2, fun p hp => ?_⟩ (by simp only; omega) ?_
          · simp only
            rw [below_lt (by omega)]
            by_cases e1 : p = cL
            · subst e1; exact hL1.cell.trans hL.cell.symm
            by_cases e2 : p = oR
            · subst e2; exact hL1.row.trans hL.row.symm
            · rw [hk1 p (by omega) e1 e2]; exact hk p hp
          · simp only; rw [hfs, if_neg (by simp [he])]
      · have hie : s.i = l.length := Nat.le_antisymm hi hl2
        rw [hie]
        simp [b29_0]
        refine .fin _ _ ⟨by simp only; omega, fun p hp e1 e2 => ?_, ?_⟩
        · show below (m + 4) s.H p = H p
          rw [below_lt (by omega)]; exact hk p hp
        · have hf0 : fromI (Qu.over S.now) l s.i = none := by rw [hie, fromI_end]
          rw [hf0]
          exact ⟨_, rfl, rfl, rfl, hLs.keep (below_lt (by have := h.l3; omega)) (below_lt (by have := h.l5; omega))⟩) ⟨0, H⟩ ⟨Nat.zero_le _, fun _ _ => rfl⟩
  obtain ⟨e, st, hrun, hn, hk, hR⟩ := hloop
  rw [fromI_zero] at hR
  simp [idxO] at hrun
  cases hq : l.findIdx? (Qu.over S.now) with
  | none =>
    rw [hq] at hR
    obtain ⟨tm, rfl, rfl, hl19, hL1⟩ := hR
    refine ⟨st.hp, st.nx + 1, acall_body code29 ?_, by omega, hL1, hk⟩
    simp [hrun, hl19]
  | some k =>
    rw [hq] at hR
    obtain ⟨rfl, hv4, q, hq1, hL1⟩ := hR
    refine ⟨st.hp, st.nx, acall_body code29 ?_, hn, ⟨q, hq1, hL1⟩, hk⟩
    simp [hrun, hv4]
end Go.Proofs.Ytnlmonokkppagaa.Am

/-
  The scheduler: what is over is taken out of a line. No condition.
-/
namespace Go.Proofs.Ytnlmonokkppagaa.Am
open Go Go.Proofs
set_option maxHeartbeats 4000000
set_option maxRecDepth 20000
set_option linter.unusedSimpArgs false
set_option linter.unusedVariables false
def cell3 (q : Qu) : List D := [.int .i64 q.id, .int .i64 q.dl, .int .i64 q.tn]
abbrev stays (now : Int) (q : Qu) : Bool := !q.over now
structure DlS where
  j : Nat
  k : Nat
  H : Hp
  cs : List D
abbrev delT (o : Oid) (n cap : Nat) (cS cL cT : AV) (r : AV) (k j : Nat) : List AV := [.osl o 0 n 3 cap, .fn 24 [cS, cL, cT], .junk, .junk, r, .d (.int .i64 k), .d (.int .i64 j), .junk, .junk, .junk, .junk, .junk, .junk, .junk, .junk, .junk, .junk, .junk, .junk, .junk, .junk, .junk, .junk, .junk, .junk, .junk, .junk, .junk, .junk, .junk, .junk, .junk, .junk, .junk, .junk, .junk, .junk, .junk, .junk, .junk, .junk, .junk]
structure DlI (H0 : Hp) (m : Nat) (l : List Qu) (now t : Int) (cL oR o : Oid) (L : List Rn) (cap : Nat) (s : DlS) : Prop where
  jn : s.j ≤ l.length
  kj : s.k < s.j
  kk : s.k = ((l.take s.j).filter (stays now)).length
  obj : s.H o = some (.grow (s.cs.map .d))
  len : s.cs.length = cap
  tk : s.cs.take (s.k * 3) = encQ ((l.take s.j).filter (stays now))
  rest : ∀ (i : Nat) q, s.j ≤ i → l[i]? = some q → (s.cs.drop (i * 3)).take 3 = cell3 q
  late : LateIs s.H cL oR (L ++ overs now t (l.take s.j))
  fr : ∀ p : Oid, p.1 < m → p ≠ cL → p ≠ oR → p ≠ o → s.H p = H0 p
def DlEnd (H0 : Hp) (m : Nat) (l : List Qu) (now t : Int) (cL oR o : Oid) (L : List Rn) (cap : Nat) (tm : Nat → List AV) (e : Ex) (st : St) : Prop :=
  m ≤ st.nx ∧ e = .exit 0 ∧ ∃ s : DlS, s.j = l.length ∧ DlI H0 m l now t cL oR o L cap s ∧ st.tm = tm s.k ∧ ∀ p : Oid, p.1 < m → st.hp p = s.H p
theorem take_succ {l : List Qu} {j : Nat} {q : Qu} (h : l[j]? = some q) : l.take (j + 1) = l.take j ++ [q] := by
  obtain ⟨hj, rfl⟩ := List.getElem?_eq_some_iff.1 h
  exact (List.take_append_getElem hj).symm
theorem splice_take {cs : List D} {k : Nat} {xs : List D} (hx : xs.length = 3) (hk : k * 3 + 3 ≤ cs.length) : (cs.take (k * 3) ++ (xs ++ cs.drop (k * 3 + 3))).take ((k + 1) * 3) = cs.take (k * 3) ++ xs := by
  have h1 : (cs.take (k * 3)).length = k * 3 := by simp; omega
  rw [List.take_append, h1, List.take_of_length_le (by rw [h1]; omega), show (k + 1) * 3 - k * 3 = xs.length by omega, List.take_left']
  rfl
theorem splice_drop {cs : List D} {k i : Nat} {xs : List D} (hx : xs.length = 3) (hk : k * 3 + 3 ≤ cs.length) (hi : k < i) : (cs.take (k * 3) ++ (xs ++ cs.drop (k * 3 + 3))).drop (i * 3) = cs.drop (i * 3) := by
  have h1 : (cs.take (k * 3)).length = k * 3 := by simp; omega
  rw [List.drop_append, h1, List.drop_eq_nil_of_le (by rw [h1]; omega), List.nil_append, List.drop_append, hx, List.drop_eq_nil_of_le (by rw [hx]; omega), List.nil_append, List.drop_drop]
  congr 1; omega
theorem del_loop {H : Hp} {nx : Nat} {oS oL cS cL cT oR o : Oid} {S : Sc} {t : Int} (h : OvEnv H nx oS oL cS cL cT oR S t) {L : List Rn} {l : List Qu} {cap : Nat} (hLl : L.length + l.length ≤ 1048576) (hv : l.length * 3 ≤ cap) (hb : cap ≤ 192)
    (ho : o.1 < nx) (ho1 : o ≠ cL) (ho2 : o ≠ oR) (ho3 : o ≠ oS) (ho4 : o ≠ cS) (ho5 : o ≠ cT) {m N : Nat} (hm : nx ≤ m) (hN : m ≤ N) (r : AV) (s0 : DlS) (hI0 : DlI H m l S.now t cL oR o L cap s0) :
    ∃ e st, aloop Try.prog plc b23_0 ⟨[true, true, false, false, true, true, true, false, false, false, false, false, false, false, false, false, false, false, false, false, false, false, false, false, false, false, false, false, false, false, false, false, false, false, false, false, true, true, true, true, true, true], some N⟩ ⟨delT o l.length cap (.ptr cS 0 1) (.ptr cL 0 1) (.ptr cT 0 1) r s0.k s0.j, s0.H, N⟩ = some (e, st) ∧ DlEnd H m l S.now t cL oR o L cap (fun k => delT o l.length cap (.ptr cS 0 1) (.ptr cL 0 1) (.ptr cT 0 1) r k l.length) e st :=
  loop_rule (P := Try.prog) (pol := plc) (c := b23_0) (m := ⟨[true, true, false, false, true, true, true, false, false, false, false, false, false, false, false, false, false, false, false, false, false, false, false, false, false, false, false, false, false, false, false, false, false, false, false, false, true, true, true, true, true, true], some N⟩)
    (b := N) (tm := fun (s : DlS) => delT o l.length cap (.ptr cS 0 1) (.ptr cL 0 1) (.ptr cT 0 1) r s.k s.j) (Hf := fun s => s.H)
    (I := DlI H m l S.now t cL oR o L cap) (μ := fun s => l.length - s.j) (res := fun _ => ()) (R := fun _ => DlEnd H m l S.now t cL oR o L cap (fun k => delT o l.length cap (.ptr cS 0 1) (.ptr cL 0 1) (.ptr cT 0 1) r k l.length))
    (fun s nx1 hI => by
      have h1 := h.l1; have h2 := h.l2; have h3 := h.l3; have h4 := h.l4; have h5 := h.l5
      have hE : OvEnv s.H nx oS oL cS cL cT oR S t := h.keep (fun p hp => hI.fr p (by rcases hp with rfl | rfl | rfl <;> omega) (by rcases hp with rfl | rfl | rfl; exact h.d1.1; exact h.d2.1; exact h.d3.1) (by rcases hp with rfl | rfl | rfl; exact h.d1.2; exact h.d2.2; exact h.d3.2) (by rcases hp with rfl | rfl | rfl <;> exact Ne.symm (by assumption))) (Nat.le_refl _)
      have hobj := hI.obj
      have hlen := hI.len
      have hkj := hI.kj
      rcases Nat.lt_or_ge s.j l.length with hl2 | hl2
      · obtain ⟨q, a⟩ := q_at (by omega) hl2
        have hrow : ((s.cs.map AV.d).drop (s.j * 3)).take 3 = [.d (.int .i64 q.id), .d (.int .i64 q.dl), .d (.int .i64 q.tn)] := by
          rw [← List.map_drop, ← List.map_take, hI.rest s.j q (Nat.le_refl _) a.get]; rfl
        have ha1 : s.j * 3 + 3 ≤ cap := by have := a.ltm; omega
        have ha2 : s.j * 3 ≤ cap := by omega
        obtain ⟨Hb, hHb⟩ : ∃ Hb : Hp, Hb = upd s.H (nx1 + (N + 8), 0) (.cells [.d (.int .i64 q.id), .d (.int .i64 q.dl), .d (.int .i64 q.tn)]) := ⟨_, rfl⟩
        have hbk : ∀ p : Oid, p.1 < N → Hb p = s.H p := fun p hp => by rw [hHb]; exact upd_old (by omega) _ _ _
        have hEb : OvEnv Hb nx oS oL cS cL cT oR S t := hE.keep (fun p hp => hbk p (by rcases hp with rfl | rfl | rfl <;> omega)) (Nat.le_refl _)
        have hLb := hI.late.keep (hbk cL (by omega)) (hbk oR (by omega))
        obtain ⟨H1, N1, hcall, hN1, hL1, hk1, _⟩ := hEb.call hLb (by have := overs_len S.now t (l.take s.j); simp at this ⊢; omega) q (m := nx1 + (N + 14)) (by omega)
        have hbs : Hb (nx1 + (N + 8), 0) = some (.cells [.d (.int .i64 q.id), .d (.int .i64 q.dl), .d (.int .i64 q.tn)]) := by rw [hHb]; exact upd_same _ _ _
        have hfr : ∀ p : Oid, p.1 < m → p ≠ cL → p ≠ oR → p ≠ o → H1 p = H p := fun p hp e1 e2 e3 => by rw [hk1 p (by omega) e1 e2, hbk p (by omega)]; exact hI.fr p hp e1 e2 e3
        have htk := take_succ a.get
        have hov : overs S.now t (l.take (s.j + 1)) = overs S.now t (l.take s.j) ++ (if q.over S.now then [(t, q.id, 0)] else []) := by
          unfold overs; rw [htk, List.filter_append, List.map_append]
          cases he : q.over S.now <;> simp [List.filter_cons, he]
        have hst : (l.take (s.j + 1)).filter (stays S.now) = (l.take s.j).filter (stays S.now) ++ (if q.over S.now then [] else [q]) := by
          rw [htk, List.filter_append]
          cases he : q.over S.now <;> simp [stays, he]
        have hoH : H1 o = some (.grow (s.cs.map .d)) := by rw [hk1 o (by omega) ho1 ho2, hbk o (by omega)]; exact hobj
        conv => arg 9; arg 4; unfold b23_0
        cases he : q.over S.now with
        | true =>
          rw [he] at hcall hL1 hov hst
          simp [hobj, hlen, plc_raw, a.lti, a.ltm, hrow, ha1, ha2, a.w, Nat.add_assoc, ← hHb, hbs, hcall]
          refine .next (DlS.mk (s.j + 1) s.k (below N H1) s.cs) (by omega) (by simp) rfl ⟨hl2, by simp only; omega, ?_, ?_, hlen, ?_, fun i q' hi hq' => hI.rest i q' (by simp only at hi; omega) hq', ?_, fun p hp e1 e2 e3 => ?_⟩ (by simp only; omega) rfl
          · simp only; rw [hst]; simp; exact hI.kk
          · simp only; rw [below_lt (by omega)]; exact hoH
          · simp only; rw [hst]; simp; exact hI.tk
          · simp only; rw [hov, ← List.append_assoc]; exact hL1.keep (below_lt (by omega)) (below_lt (by omega))
          · simp only; rw [below_lt (by omega)]; exact hfr p hp e1 e2 e3
        | false =>
          rw [he] at hcall hL1 hov hst
          have hc1 : H1 (nx1 + (N + 8), 0) = some (.cells [.d (.int .i64 q.id), .d (.int .i64 q.dl), .d (.int .i64 q.tn)]) := by
            rw [hk1 _ (by simp only; omega) (fun e => by rw [← e] at h3; simp only at h3; omega) (fun e => by rw [← e] at h5; simp only at h5; omega)]; exact hbs
          have hkl : (s.k : Int) < l.length := by omega
          have hk3 : s.k * 3 + 3 ≤ cap := by omega
          have hk4 : s.k * 3 ≤ cap := by omega
          have hkw : IntKind.i64.wrap ((s.k : Int) + 1) = (s.k : Int) + 1 := wrap_i64 (by omega) (by omega)
          simp [hobj, hlen, plc_raw, a.lti, a.ltm, hrow, ha1, ha2, a.w, Nat.add_assoc, ← hHb, hbs, hcall, hc1, hoH, hkl, hk3, hk4, hkw]
          have hcl : s.k * 3 + 3 ≤ s.cs.length := by omega
          have h3q : (cell3 q).length = 3 := rfl
          refine .next (DlS.mk (s.j + 1) (s.k + 1) (below N (upd H1 o (.grow ((s.cs.take (s.k * 3) ++ (cell3 q ++ s.cs.drop (s.k * 3 + 3))).map .d)))) (s.cs.take (s.k * 3) ++ (cell3 q ++ s.cs.drop (s.k * 3 + 3)))) (by omega) (by simp) (by simp [cell3]) ⟨hl2, by simp only; omega, ?_, ?_, ?_, ?_, fun i q' hi hq' => ?_, ?_, fun p hp e1 e2 e3 => ?_⟩ (by simp only; omega) rfl
          · simp only; rw [hst]; simp; exact hI.kk
          · simp only; rw [below_lt (by omega), upd_same]
          · simp [cell3]; omega
          · simp only; rw [hst, splice_take h3q hcl, hI.tk, encQ_append]; simp [encQ, cell3]
          · simp only at hi ⊢
            rw [splice_drop h3q hcl (by omega)]; exact hI.rest i q' (by omega) hq'
          · simp only; rw [hov]; simp only [Bool.false_eq_true, if_false, List.append_nil] at hL1 ⊢
            exact hL1.keep ((below_lt (by omega)).trans (upd_ne (Ne.symm ho1))) ((below_lt (by omega)).trans (upd_ne (Ne.symm ho2)))
          · simp only; rw [below_lt (by omega), upd_ne e3]; exact hfr p hp e1 e2 e3
      · have hje : s.j = l.length := Nat.le_antisymm hI.jn hl2
        simp [b23_0, hje]
        refine .fin _ _ ⟨by simp only; omega, rfl, s, hje, hI, by simp only [hje], fun p hp => below_lt (by omega)⟩) s0 hI0
theorem idx_nil (H : Hp) (m : Nat) (v : AV) (hv : v = .d (.sl [] 0 true (some true)) ∨ ∃ o, v = .osl o 0 0 1 0) (cS cL cT : AV) :
    acall Try.prog plc 29 [v, .fn 24 [cS, cL, cT]] H m = some (.d (.int .i64 (-1)), below (m + 4) H, m + 6) := by
  have hl : aloop Try.prog plc b29_0 ⟨[true, true, false, false, true, false, false, true, true, false, false, false, false, false, false, false, false, false, false], some (m + 4)⟩ ⟨[v, .fn 24 [cS, cL, cT], .junk, .junk, .d (.int .i64 0), .junk, .junk, .d (.int .i64 0), .d (.int .i64 0), .junk, .junk, .junk, .junk, .junk, .junk, .junk, .junk, .junk, .junk], H, m + 4⟩ = some (.exit 0, ⟨[v, .fn 24 [cS, cL, cT], .junk, .junk, .d (.int .i64 0), .junk, .junk, .d (.int .i64 0), .d (.int .i64 0), .junk, .junk, .junk, .junk, .junk, .junk, .junk, .junk, .junk, .junk], below (m + 4) H, m + 5⟩) := by
    refine aloop_body ?_
    simp [b29_0]
  refine acall_body code29 ?_
  rcases hv with rfl | ⟨o, rfl⟩
  · simp [hl]
  · simp [hl]
theorem filter_none {now : Int} {l : List Qu} (h : l.findIdx? (Qu.over now) = none) : l.filter (stays now) = l ∧ ∀ t, overs now t l = [] := by
  rw [List.findIdx?_eq_none_iff] at h
  refine ⟨List.filter_eq_self.2 fun q hq => by simp [stays, h q hq], fun t => ?_⟩
  unfold overs
  rw [List.filter_eq_nil_iff.2 fun q hq => by simp [h q hq]]; rfl
theorem filter_first {now t : Int} {l : List Qu} {i : Nat} (h : l.findIdx? (Qu.over now) = some i) {q : Qu} (hq : l[i]? = some q) : i < l.length ∧ (l.take (i + 1)).filter (stays now) = l.take i ∧ overs now t (l.take (i + 1)) = [(t, q.id, 0)] := by
  obtain ⟨hi, h1, h2⟩ := List.findIdx?_eq_some_iff_getElem.1 h
  have hqe : l[i] = q := by rw [List.getElem?_eq_getElem hi] at hq; exact Option.some.inj hq
  rw [hqe] at h1
  have hall : ∀ x ∈ l.take i, x.over now = false := fun x hx => by
    obtain ⟨k, hk, rfl⟩ := List.mem_iff_getElem.1 hx
    rw [List.getElem_take]
    have hk' : k < i := by simp at hk; omega
    simpa using h2 k hk'
  refine ⟨hi, ?_, ?_⟩
  · rw [take_succ hq, List.filter_append, List.filter_eq_self.2 fun x hx => by simp [stays, hall x hx]]
    simp [stays, h1]
  · unfold overs
    rw [take_succ hq, List.filter_append, List.filter_eq_nil_iff.2 fun x hx => by simp [hall x hx]]
    simp [h1]
theorem zeros_flat : ∀ n : Nat, (List.replicate n [AV.d (.int .i64 0), .d (.int .i64 0), .d (.int .i64 0)]).flatten = (List.replicate (n * 3) (D.int .i64 0)).map .d
  | 0 => rfl
  | n + 1 => by rw [List.replicate_succ, List.flatten_cons, zeros_flat n, show (n + 1) * 3 = n * 3 + 1 + 1 + 1 by omega]; simp [List.replicate_succ]
theorem del_over {H : Hp} {nx : Nat} {oS oL cS cL cT oR : Oid} {S : Sc} {t : Int} (h : OvEnv H nx oS oL cS cL cT oR S t) {L : List Rn} (hL : LateIs H cL oR L) {v : AV} {l : List Qu} {oo : Option Oid} (hline : LineAt H v l oo) (hLl : L.length + l.length ≤ 1048576)
    (hoo : ∀ p, oo = some p → p.1 < nx ∧ p ≠ cL ∧ p ≠ oR ∧ p ≠ oS ∧ p ≠ cS ∧ p ≠ cT) {m : Nat} (hm : nx ≤ m) :
    ∃ (H' : Hp) (nx' : Nat) (v' : AV) (oo' : Option Oid), acall Try.prog plc 23 [v, .fn 24 [.ptr cS 0 1, .ptr cL 0 1, .ptr cT 0 1]] H m = some (v', H', nx') ∧ m ≤ nx' ∧ LineAt H' v' (l.filter (stays S.now)) oo' ∧ (∀ p, oo' = some p → (oo = some p ∨ m ≤ p.1) ∧ p.1 < nx') ∧ LateIs H' cL oR (L ++ overs S.now t l) ∧ (∀ p : Oid, p.1 < m → p ≠ cL → p ≠ oR → oo ≠ some p → H' p = H p) ∧ ∃ o n z k, v' = .osl o 0 n z k := by
  have h1 := h.l1; have h2 := h.l2; have h3 := h.l3; have h4 := h.l4; have h5 := h.l5
  have hkv : ∀ p : Oid, p.1 < m → upd H (m, 1) .vnil p = H p := fun p hp => upd_old hp _ _ _
  cases hline with
  | nil =>
    have hi := idx_nil (upd H (m, 1) .vnil) (m + 5) (.d (.sl [] 0 true (some true))) (.inl rfl) (.ptr cS 0 1) (.ptr cL 0 1) (.ptr cT 0 1)
    refine ⟨upd (below (m + 9) (upd H (m, 1) .vnil)) (m + 14, 1) .vnil, m + 15, .osl (m + 14, 1) 0 0 1 0, some (m + 14, 1), acall_body code23 ?_, by omega, .vn _ (upd_same _ _ _), fun p hp => by cases hp; exact ⟨.inr (by simp only; omega), by simp only; omega⟩, ?_, fun p hp e1 e2 e3 => ?_, _, _, _, _, rfl⟩
    · simp [plc_raw, hi, Nat.add_assoc]
    · rw [show L ++ overs S.now t [] = L by simp [overs]]
      exact hL.keep (by rw [upd_old (by omega), below_lt (by omega), hkv _ (by omega)]) (by rw [upd_old (by omega), below_lt (by omega), hkv _ (by omega)])
    · rw [upd_old (by omega), below_lt (by omega), hkv p hp]
  | vn o hvn =>
    obtain ⟨q1, q2, q3, q4, q5, q6⟩ := hoo o rfl
    have hi := idx_nil (upd H (m, 1) .vnil) (m + 5) (.osl o 0 0 1 0) (.inr ⟨o, rfl⟩) (.ptr cS 0 1) (.ptr cL 0 1) (.ptr cT 0 1)
    refine ⟨below (m + 9) (upd H (m, 1) .vnil), m + 15, .osl o 0 0 1 0, some o, acall_body code23 ?_, by omega, .vn _ ?_, fun p hp => by cases hp; exact ⟨.inl rfl, by omega⟩, ?_, fun p hp e1 e2 e3 => ?_, _, _, _, _, rfl⟩
    · simp [plc_raw, hi, Nat.add_assoc]
    · rw [below_lt (by omega), hkv o (by omega)]; exact hvn
    · rw [show L ++ overs S.now t [] = L by simp [overs]]
      exact hL.keep (by rw [below_lt (by omega), hkv _ (by omega)]) (by rw [below_lt (by omega), hkv _ (by omega)])
    · rw [below_lt (by omega), hkv p hp]
  | row o l cs hc hv ht hb =>
    obtain ⟨q1, q2, q3, q4, q5, q6⟩ := hoo o rfl
    have hE : OvEnv (upd H (m, 1) .vnil) nx oS oL cS cL cT oR S t := h.keep (fun p hp => hkv p (by rcases hp with rfl | rfl | rfl <;> omega)) (Nat.le_refl _)
    have hL0 : LateIs (upd H (m, 1) .vnil) cL oR L := hL.keep (hkv _ (by omega)) (hkv _ (by omega))
    obtain ⟨H1, N1, hi, hN1, hres, hk1⟩ := idx_over hE hL0 (by omega) (l := l) (by rw [hkv o (by omega)]; exact hc) hv ht hb q1 q2 q3 (m := m + 5) (by omega)
    have ho1 : H1 o = some (.grow (cs.map .d)) := by rw [hk1 o (by omega) q2 q3, hkv o (by omega)]; exact hc
    cases hf : l.findIdx? (Qu.over S.now) with
    | none =>
      rw [hf] at hi hres
      obtain ⟨f1, f2⟩ := filter_none hf
      rw [f1, f2 t]
      refine ⟨H1, N1 + 4, .osl o 0 l.length 3 cs.length, some o, acall_body code23 ?_, by omega, .row o l cs ho1 hv ht hb, fun p hp => by cases hp; exact ⟨.inl rfl, by omega⟩, by simpa using hres, fun p hp e1 e2 e3 => by rw [hk1 p (by omega) e1 e2, hkv p hp], _, _, _, _, rfl⟩
      simp [plc_raw, hi, Nat.add_assoc]
    | some i =>
      rw [hf] at hi hres
      obtain ⟨q, hq, hL1⟩ := hres
      obtain ⟨f0, f1, f2⟩ := filter_first (t := t) hf hq
      have hI0 : DlI H m l S.now t cL oR o L cs.length ⟨i + 1, i, H1, cs⟩ := by
        refine ⟨f0, by simp only; omega, ?_, ho1, rfl, ?_, fun a b ha hb => ?_, ?_, fun p hp e1 e2 e3 => ?_⟩
        · simp only; rw [f1, List.length_take]; omega
        · simp only; rw [f1, ← encQ_take, ← ht, List.take_take, Nat.min_eq_left (by omega)]
        · obtain ⟨hal, _⟩ := List.getElem?_eq_some_iff.1 hb
          obtain ⟨b', qa⟩ := q_at (by omega) hal
          have hbb : b' = b := by have := qa.get; rw [hb] at this; exact (Option.some.inj this).symm
          subst hbb
          have := qa.cells
          rw [← ht, List.drop_take, List.take_take, Nat.min_eq_left qa.le3] at this
          exact this
        · simp only; rw [f2]; exact hL1
        · simp only; rw [hk1 p (by omega) e1 e2, hkv p hp]
      obtain ⟨e, st, hrun, hn, rfl, s, hsj, hI, htm, hsk⟩ := del_loop h hLl hv hb q1 q2 q3 q4 q5 q6 hm (N := N1 + 5) (by omega) (.osl (m, 1) 0 0 1 0) ⟨i + 1, i, H1, cs⟩ hI0
      obtain ⟨tm, Hs, ns⟩ := st
      simp only at htm hn hsk
      subst htm
      have hIl := hI.late; have hIt := hI.tk; have hIk := hI.kk; have hIc := hI.len; have hIo := hI.obj; have hIkj := hI.kj
      rw [hsj, List.take_length] at hIl hIt hIk
      have hso : Hs o = some (.grow (s.cs.map .d)) := (hsk o (by omega)).trans hIo
      have hwi : IntKind.i64.wrap ((i : Int) + 1) = ((i + 1 : Nat) : Int) := by rw [wrap_i64 (by omega) (by omega)]; omega
      have c1 : ¬ ((i : Int) = -1) := by omega
      have c2 : s.k ≤ l.length := by omega
      have c3 : s.k * 3 + (l.length - s.k) * 3 ≤ cs.length := by omega
      have c4 : ¬ l.length - s.k = 0 := by omega
      have c5 : s.k * 3 ≤ cs.length := by omega
      have c6 : s.k * 3 + ((l.length - s.k) * 3 + (cs.length - (s.k * 3 + (l.length - s.k) * 3))) = cs.length := by omega
      obtain ⟨cs', hcs'⟩ : ∃ cs', cs' = s.cs.take (s.k * 3) ++ (List.replicate ((l.length - s.k) * 3) (D.int .i64 0) ++ s.cs.drop (s.k * 3 + (l.length - s.k) * 3)) := ⟨_, rfl⟩
      have hlen' : cs'.length = cs.length := by rw [hcs']; simp; omega
      have hl1 : (s.cs.take (s.k * 3)).length = s.k * 3 := by simp; omega
      have htk' : cs'.take (s.k * 3) = encQ (l.filter (stays S.now)) := by
        rw [hcs', List.take_append_of_le_length (by omega), List.take_of_length_le (by omega), hIt]
      have hrow := LineAt.row (H := upd Hs o (.grow (cs'.map .d))) o (l.filter (stays S.now)) cs' (upd_same _ _ _) (by rw [← hIk]; omega) (by rw [← hIk]; exact htk') (by omega)
      rw [← hIk, hlen'] at hrow
      refine ⟨upd Hs o (.grow (cs'.map .d)), ns + 8, _, some o, acall_body code23 ?_, by omega, hrow, fun p hp => by cases hp; exact ⟨.inl rfl, by omega⟩, ?_, fun p hp e1 e2 e3 => ?_, _, _, _, _, rfl⟩
      · simp [delT] at hrun
        simp [plc_raw, hi, Nat.add_assoc, c1, hwi, hrun, hso, hIc, hv, c2, c3, c4, c5, c6, zeros_flat, hcs']
      · exact hIl.keep (by rw [upd_ne (Ne.symm q2), hsk _ (by omega)]) (by rw [upd_ne (Ne.symm q3), hsk _ (by omega)])
      · rw [upd_ne (fun e => e3 (by rw [e])), hsk p hp]; exact hI.fr p hp e1 e2 (fun e => e3 (by rw [e]))
end Go.Proofs.Ytnlmonokkppagaa.Am

/-
  The scheduler: a tick's first part: what is over leaves every line. No condition.
-/
namespace Go.Proofs.Ytnlmonokkppagaa.Am
open Go Go.Proofs
set_option maxHeartbeats 4000000
set_option maxRecDepth 20000
set_option linter.unusedSimpArgs false
set_option linter.unusedVariables false
def mixed (now : Int) (ls : List (List Qu)) (t : Nat) : List (List Qu) := leftOf' now (ls.take t) ++ ls.drop t
theorem mixed_len (now : Int) (ls : List (List Qu)) (t : Nat) : (mixed now ls t).length = ls.length := by simp [mixed, leftOf']; omega
theorem mixed_at {now : Int} {ls : List (List Qu)} {t : Nat} {l : List Qu} (h : ls[t]? = some l) : (mixed now ls t)[t]? = some l := by
  have ht := (List.getElem?_eq_some_iff.1 h).1
  unfold mixed leftOf'
  rw [List.getElem?_append_right (by simp; omega)]
  simp [h, Nat.min_eq_left (Nat.le_of_lt ht)]
theorem mixed_set {now : Int} {ls : List (List Qu)} {t : Nat} {l : List Qu} (h : ls[t]? = some l) : (mixed now ls t).set t (l.filter (stays now)) = mixed now ls (t + 1) := by
  obtain ⟨ht, rfl⟩ := List.getElem?_eq_some_iff.1 h
  have h1 : (leftOf' now (ls.take t)).length = t := by simp [leftOf']; omega
  have h2 : leftOf' now (ls.take (t + 1)) = leftOf' now (ls.take t) ++ [ls[t].filter (stays now)] := by
    rw [← List.take_append_getElem ht]; simp only [leftOf', List.map_append, List.map_cons, List.map_nil]
  unfold mixed
  rw [List.set_append_right _ _ (by omega), h1, Nat.sub_self, List.drop_eq_getElem_cons ht, List.set_cons_zero, h2, List.append_assoc]
  rfl
theorem mixed_zero (now : Int) (ls : List (List Qu)) : mixed now ls 0 = ls := by simp [mixed, leftOf']
theorem mixed_end (now : Int) (ls : List (List Qu)) : mixed now ls ls.length = leftOf' now ls := by simp [mixed]
theorem late_app (now : Int) : ∀ (a b : List (List Qu)) (k : Nat), lateOf now k (a ++ b) = lateOf now k a ++ lateOf now (k + a.length) b
  | [], b, k => by simp [lateOf]
  | x :: a, b, k => by
    simp only [List.cons_append, lateOf, late_app now a b (k + 1), List.append_assoc, List.length_cons]
    rw [show k + 1 + a.length = k + (a.length + 1) by omega]
theorem late_succ {now : Int} {ls : List (List Qu)} {t : Nat} {l : List Qu} (h : ls[t]? = some l) : lateOf now 0 (ls.take (t + 1)) = lateOf now 0 (ls.take t) ++ overs now t l := by
  obtain ⟨ht, rfl⟩ := List.getElem?_eq_some_iff.1 h
  rw [← List.take_append_getElem ht, late_app]
  simp [lateOf, overs, Nat.min_eq_left (Nat.le_of_lt ht)]
theorem late_len (now : Int) : ∀ (ls : List (List Qu)), (∀ l ∈ ls, l.length ≤ 64) → ∀ k, (lateOf now k ls).length ≤ 64 * ls.length
  | [], _, _ => by simp [lateOf]
  | x :: r, h, k => by
    have h1 := late_len now r (fun l hl => h l (by simp [hl])) (k + 1)
    have h2 := h x (by simp)
    have h3 : ((x.filter (Qu.over now)).map (fun q => ((k : Int), q.id, (0 : Int)))).length ≤ x.length := by rw [List.length_map]; exact List.length_filter_le _ _
    simp only [lateOf, List.length_append, List.length_cons]
    omega
structure TkS where
  t : Nat
  H : Hp
  N : Nat
  vs : List AV
  os : List (Option Oid)
/-- What holds ahead of each round of a tick's loops. -/
structure TkI (H0 : Hp) (nx : Nat) (oS oL : Oid) (os0 : List (Option Oid)) (rr : Am.Obj) (L : List Rn) (S : Sc) (H : Hp) (N : Nat) (vs : List AV) (os : List (Option Oid)) : Prop where
  sch : SchH H N oS oL vs os S
  cS : H (nx, 0) = some (.cells [.ptr oS 0 3])
  rr : H (nx + 1, 1) = some rr
  late : LateIs H (nx + 2, 0) (nx + 2, 1) L
  le : nx + 4 ≤ N
  os : ∀ p, some p ∈ os → some p ∈ os0 ∨ nx + 4 ≤ p.1
  fr : ∀ p : Oid, p.1 < nx → ¬ Foot oS oL os0 p → H p = H0 p
theorem TkI.away {H0 : Hp} {nx : Nat} {oS oL : Oid} {os0 : List (Option Oid)} {rr : Am.Obj} {L : List Rn} {S : Sc} {H : Hp} {N : Nat} {vs : List AV} {os : List (Option Oid)} (h : TkI H0 nx oS oL os0 rr L S H N vs os) (hb : ∀ p, Foot oS oL os0 p → p.1 < nx) {p : Oid} (hp : Foot oS oL os p) : p.1 < nx ∨ nx + 4 ≤ p.1 := by
  rcases hp with rfl | rfl | hp
  · exact .inl (hb _ (.inl rfl))
  · exact .inl (hb _ (.inr (.inl rfl)))
  · rcases h.os p hp with q | q
    · exact .inl (hb _ (.inr (.inr q)))
    · exact .inr q
abbrev tk1T (nx n t : Nat) : List AV := [.junk, .ptr (nx, 0) 0 1, .osl (nx + 1, 1) 0 0 1 0, .ptr (nx + 2, 0) 0 1, .junk, .junk, .junk, .junk, .junk, .junk, .junk, .junk, .junk, .junk, .junk, .junk, .junk, .junk, .junk, .junk, .junk, .junk, .d (.int .i64 n), .d (.int .i64 t), .junk, .junk, .junk, .junk, .junk, .junk, .junk, .junk, .junk, .junk, .junk, .junk, .junk, .junk, .junk, .junk, .junk, .junk, .junk, .junk, .junk, .junk, .junk, .junk, .junk, .junk, .junk, .junk, .junk, .junk, .junk, .junk, .junk, .junk, .junk, .junk, .junk, .junk, .junk, .junk, .junk, .junk, .junk, .junk, .junk, .junk, .junk, .junk, .junk, .junk, .junk, .junk, .junk, .junk, .junk, .junk, .junk, .junk, .junk, .junk, .junk, .junk, .junk, .junk, .junk, .junk, .junk]
def Tk1End (H0 : Hp) (nx : Nat) (oS oL : Oid) (os0 : List (Option Oid)) (S : Sc) (e : Ex) (st : St) : Prop :=
  ∃ vs os, e = .exit 0 ∧ st.tm = tk1T nx S.lines.length S.lines.length ∧ TkI H0 nx oS oL os0 .vnil (lateOf S.now 0 S.lines) ⟨S.ways, S.now, leftOf' S.now S.lines⟩ st.hp st.nx vs os
theorem tick1 {H0 : Hp} {nx : Nat} {oS oL : Oid} {os0 : List (Option Oid)} {S : Sc} (hb : ∀ p, Foot oS oL os0 p → p.1 < nx) (hn : S.lines.length ≤ 16) (h64 : ∀ l ∈ S.lines, l.length ≤ 64) {H : Hp} {vs : List AV} {os : List (Option Oid)} {N : Nat} (h0 : TkI H0 nx oS oL os0 .vnil [] S H N vs os) :
    ∃ e st, aloop Try.prog plc b9_1 ⟨[false, true, true, true, false, true, true, false, false, false, false, false, false, false, false, false, false, false, false, false, false, false, true, true, false, false, false, false, false, false, false, false, false, false, false, false, false, false, false, false, false, false, true, true, true, true, true, true, true, true, true, true, true, true, true, true, true, true, true, true, true, true, true, true, true, true, true, true, true, true, true, true, true, true, true, true, true, true, true, true, true, true, true, true, true, true, true, true, true, true, true], none⟩ ⟨tk1T nx S.lines.length 0, H, N⟩ = some (e, st) ∧ Tk1End H0 nx oS oL os0 S e st := by
  have key := loop_ruleN (P := Try.prog) (pol := plc) (c := b9_1) (m := ⟨[false, true, true, true, false, true, true, false, false, false, false, false, false, false, false, false, false, false, false, false, false, false, true, true, false, false, false, false, false, false, false, false, false, false, false, false, false, false, false, false, false, false, true, true, true, true, true, true, true, true, true, true, true, true, true, true, true, true, true, true, true, true, true, true, true, true, true, true, true, true, true, true, true, true, true, true, true, true, true, true, true, true, true, true, true, true, true, true, true, true, true], none⟩)
    (N := fun s : TkS => s.N) (tm := fun s => tk1T nx S.lines.length s.t) (Hf := fun s => s.H)
    (I := fun s => s.t ≤ S.lines.length ∧ TkI H0 nx oS oL os0 .vnil (lateOf S.now 0 (S.lines.take s.t)) ⟨S.ways, S.now, mixed S.now S.lines s.t⟩ s.H s.N s.vs s.os)
    (μ := fun s => S.lines.length - s.t) (res := fun _ => ()) (R := fun _ => Tk1End H0 nx oS oL os0 S)
    (fun s hI => by
      obtain ⟨hi, hI⟩ := hI
      have hsch := hI.sch
      have hle := hI.le
      have hroot := hsch.root
      have htab := hsch.tab
      have hvl := hsch.vlen
      have hcS := hI.cS
      simp only [mixed_len] at hroot hvl
      rcases Nat.lt_or_ge s.t S.lines.length with hl | hl
      · obtain ⟨v, l, o, hv, hlm, ho, hline⟩ := hsch.get (t := s.t) (by simp only [mixed_len]; exact hl)
        have hl0 : S.lines[s.t]? = some l := by
          have e := List.getElem?_eq_getElem hl
          have := mixed_at (now := S.now) e
          rw [this] at hlm; rw [e]; exact hlm
        have haw : ∀ p, Foot oS oL s.os p → p.1 < nx ∨ nx + 4 ≤ p.1 := fun p hp => hI.away hb hp
        have fS := hsch.ltS; have fL := hsch.ltL
        have aS := haw oS (.inl rfl)
        have aL := haw oL (.inr (.inl rfl))
        obtain ⟨Hc, hHc⟩ : ∃ Hc : Hp, Hc = upd s.H (s.N + 2, 0) (.cells [.d (.int .i64 s.t)]) := ⟨_, rfl⟩
        have hck : ∀ p : Oid, p.1 < s.N → Hc p = s.H p := fun p hp => by rw [hHc]; exact upd_old (by omega) _ _ _
        have hcT : Hc (s.N + 2, 0) = some (.cells [.d (.int .i64 s.t)]) := by rw [hHc]; exact upd_same _ _ _
        have nes : ∀ (p : Oid) (a b : Nat), p.1 < nx ∨ nx + 4 ≤ p.1 → a < 4 → p ≠ (nx + a, b) := fun p a b hp ha e => by rw [e] at hp; simp only at hp; omega
        have hE : OvEnv Hc (s.N + 20) oS oL (nx, 0) (nx + 2, 0) (s.N + 2, 0) (nx + 2, 1) ⟨S.ways, S.now, mixed S.now S.lines s.t⟩ s.t := by
          refine ⟨(hck _ (by simp only; omega)).trans hcS, (hck _ fS).trans hsch.root, hcT, by omega, by simp only; omega, by simp only; omega, by simp only; omega, by simp only; omega, by simp, ⟨nes _ 2 0 aS (by omega), nes _ 2 1 aS (by omega)⟩, ⟨by simp, by simp⟩, ⟨by simp; omega, by simp⟩⟩
        have hLc : LateIs Hc (nx + 2, 0) (nx + 2, 1) (lateOf S.now 0 (S.lines.take s.t)) := hI.late.keep (hck _ (by simp only; omega)) (hck _ (by simp only; omega))
        have hof : ∀ p, o = some p → Foot oS oL s.os p := fun p hp => .inr (.inr (by rw [← hp]; exact List.mem_of_getElem? ho))
        have hlc : LineAt Hc v l o := hline.keep fun p hp => hck p (hsch.foot_lt (hof p hp))
        have hlen := hline.le
        have hLl : (lateOf S.now 0 (S.lines.take s.t)).length + l.length ≤ 1048576 := by
          have q1 := late_len S.now (S.lines.take s.t) (fun l hl => h64 l (List.mem_of_mem_take hl)) 0
          have q2 : (S.lines.take s.t).length ≤ 16 := by simp; omega
          omega
        obtain ⟨H', nx', v', oo', hcall, hn', hl1, ho1, hL1, hk1, ov, nv, zv, kv, rfl⟩ := del_over hE hLc hlc hLl (fun p hp => by
          have h1 := hof p hp
          have h2 := hsch.foot_lt h1
          have h3 := haw p h1
          rw [hp] at ho
          exact ⟨by omega, nes _ 2 0 h3 (by omega), nes _ 2 1 h3 (by omega), hsch.neS _ p ho, nes _ 0 0 h3 (by omega), fun e => by rw [e] at h2; simp only at h2; omega⟩) (m := s.N + 20) (Nat.le_refl _)
        have hti : (s.t : Int) < S.lines.length := by omega
        have hve : ∀ h : s.t < s.vs.length, s.vs[s.t]'h = v := fun h => (List.getElem?_eq_some_iff.1 hv).2
        have hoS : o ≠ some oS := fun e => by rw [e] at ho; exact hsch.neS _ oS ho rfl
        have hoL : o ≠ some oL := fun e => by rw [e] at ho; exact hsch.neL _ oL ho rfl
        have hon : ∀ a b : Nat, a < 4 → o ≠ some (nx + a, b) := fun a b ha e => by have := haw _ (hof _ e); simp only at this; omega
        have kS : H' oS = s.H oS := (hk1 oS (by omega) (nes _ 2 0 aS (by omega)) (nes _ 2 1 aS (by omega)) hoS).trans (hck _ fS)
        have kL : H' oL = s.H oL := (hk1 oL (by omega) (nes _ 2 0 aL (by omega)) (nes _ 2 1 aL (by omega)) hoL).trans (hck _ fL)
        have kc : H' (nx, 0) = s.H (nx, 0) := (hk1 _ (by simp only; omega) (by simp) (by simp) (hon 0 0 (by omega))).trans (hck _ (by simp only; omega))
        have kT : H' (s.N + 2, 0) = Hc (s.N + 2, 0) := hk1 _ (by simp only; omega) (by simp; omega) (by simp) (fun e => by have := hsch.foot_lt (hof _ e); simp only at this; omega)
        have c1 := (hck (nx, 0) (by simp only; omega)).trans hcS
        have c2 := (hck oS fS).trans hroot
        have c3 := (hck oL fL).trans htab
        have d1 := kc.trans hcS
        have d2 := kS.trans hroot
        have d3 := kL.trans htab
        have d4 := kT.trans hcT
        have hn1 : s.t + 1 ≤ S.lines.length := hl
        have hw : IntKind.i64.wrap ((s.t : Int) + 1) = (s.t : Int) + 1 := wrap_i64 (by omega) (by omega)
        have hset : s.vs.set s.t (.osl ov 0 nv zv kv) = s.vs.take s.t ++ .osl ov 0 nv zv kv :: s.vs.drop (s.t + 1) := by rw [List.set_eq_take_append_cons_drop, if_pos (by omega)]
        conv => arg 9; arg 4; unfold b9_1
        simp [plc_raw, hti, hl, hcS, hroot, htab, hvl, hv, hve, hw, Nat.add_assoc, ← hHc, hcall, hcT, c1, c2, c3, d1, d2, d3, d4, hn1]
        refine .next (TkS.mk (s.t + 1) (upd H' oL (.cells (s.vs.set s.t (.osl ov 0 nv zv kv)))) (nx' + 2) (s.vs.set s.t (.osl ov 0 nv zv kv)) (s.os.set s.t oo')) (by simp) (by simp) (by simp [hset]) ⟨hl, ?_⟩ (by simp only; omega) rfl
        have hFl : ∀ p, Foot oS oL s.os p → p ≠ oL → o ≠ some p → upd H' oL (.cells (s.vs.set s.t (.osl ov 0 nv zv kv))) p = s.H p := fun p hp e1 e2 => by
          have := hsch.foot_lt hp
          have h3 := haw p hp
          rw [upd_ne e1, hk1 p (by omega) (nes _ 2 0 h3 (by omega)) (nes _ 2 1 h3 (by omega)) e2, hck p this]
        have hooL : ∀ p, oo' = some p → p ≠ oL := fun p hp e => by
          rcases (ho1 p hp).1 with q | q
          · exact hoL (by rw [q, e])
          · rw [e] at q; omega
        have hs2 := hsch.set' (H' := upd H' oL (.cells (s.vs.set s.t (.osl ov 0 nv zv kv)))) (M := nx' + 2) (t := s.t) (by simp only [mixed_len]; exact hl) (v' := .osl ov 0 nv zv kv) (l' := l.filter (stays S.now)) (o' := oo') ho (by omega)
          (fun p hp => by have := ho1 p hp; exact ⟨this.1.imp (fun e => e) (fun e => by omega), by omega⟩) (upd_same _ _ _) (hl1.keep fun p hp => upd_ne (hooL p hp)) hFl
        simp only [mixed_set hl0] at hs2
        have aa : ∀ a b : Nat, a < 4 → (nx + a, b) ≠ oL := fun a b ha => (nes oL a b aL ha).symm
        refine ⟨hs2, ?_, ?_, ?_, by simp only; omega, fun p hp => ?_, fun p hp hF => ?_⟩
        · simp only; rw [upd_ne (show ((nx, 0) : Oid) ≠ oL from aa 0 0 (by omega))]; exact d1
        · simp only; rw [upd_ne (aa 1 1 (by omega)), hk1 _ (by simp only; omega) (by simp) (by simp) (hon 1 1 (by omega)), hck _ (by simp only; omega)]; exact hI.rr
        · simp only; rw [late_succ hl0]; exact hL1.keep (upd_ne (aa 2 0 (by omega))) (upd_ne (aa 2 1 (by omega)))
        · rcases List.mem_or_eq_of_mem_set hp with q | q
          · exact hI.os p q
          · rcases (ho1 p q.symm).1 with e | e
            · exact hI.os p (by rw [← e]; exact List.mem_of_getElem? ho)
            · exact .inr (by omega)
        · simp only
          have hpF : o ≠ some p := fun e => by
            rcases hI.os p (by rw [← e]; exact List.mem_of_getElem? ho) with q | q
            · exact hF (.inr (.inr q))
            · omega
          rw [upd_ne (fun e => hF (.inr (.inl e))), hk1 p (by omega) (fun e => by rw [e] at hp; simp only at hp; omega) (fun e => by rw [e] at hp; simp only at hp; omega) hpF, hck p (by omega)]
          exact hI.fr p hp hF
      · have hte : s.t = S.lines.length := Nat.le_antisymm hi hl
        simp [b9_1, hte]
        refine .fin _ _ ⟨s.vs, s.os, rfl, by simp, ?_⟩
        have := hI
        rw [hte, List.take_length, mixed_end] at this
        exact { this with sch := this.sch.mono (by simp only; omega), le := by have := this.le; simp only; omega }) ⟨0, H, N, vs, os⟩ ⟨Nat.zero_le _, by simpa [lateOf, mixed_zero] using h0⟩
  simpa using key
end Go.Proofs.Ytnlmonokkppagaa.Am

/-
  The scheduler: a tick's second part: who runs, and how each line is turned. No condition.
-/
namespace Go.Proofs.Ytnlmonokkppagaa.Am
open Go Go.Proofs
set_option maxHeartbeats 4000000
set_option maxRecDepth 20000
set_option linter.unusedSimpArgs false
set_option linter.unusedVariables false
def spun (ls : List (List Qu)) (t : Nat) : List (List Qu) := (ls.take t).map turnQ ++ ls.drop t
theorem spun_len (ls : List (List Qu)) (t : Nat) : (spun ls t).length = ls.length := by simp [spun]; omega
theorem spun_at {ls : List (List Qu)} {t : Nat} {l : List Qu} (h : ls[t]? = some l) : (spun ls t)[t]? = some l := by
  have ht := (List.getElem?_eq_some_iff.1 h).1
  unfold spun
  rw [List.getElem?_append_right (by simp; omega)]
  simp [h, Nat.min_eq_left (Nat.le_of_lt ht)]
theorem spun_set {ls : List (List Qu)} {t : Nat} {l : List Qu} (h : ls[t]? = some l) : (spun ls t).set t (turnQ l) = spun ls (t + 1) := by
  obtain ⟨ht, rfl⟩ := List.getElem?_eq_some_iff.1 h
  have h1 : ((ls.take t).map turnQ).length = t := by simp; omega
  unfold spun
  rw [List.set_append_right _ _ (by omega), h1, Nat.sub_self, List.drop_eq_getElem_cons ht, List.set_cons_zero, ← List.take_append_getElem ht, List.map_append, List.append_assoc]
  rfl
theorem spun_none {ls : List (List Qu)} {t : Nat} (h : ls[t]? = some []) : spun ls (t + 1) = spun ls t := by
  rw [← spun_set h]
  obtain ⟨hh, e⟩ := List.getElem?_eq_some_iff.1 (spun_at h)
  have : (spun ls t).set t (spun ls t)[t] = spun ls t := List.set_getElem_self hh
  rw [e] at this
  exact this
theorem spun_end (ls : List (List Qu)) : spun ls ls.length = ls.map turnQ := by simp [spun]
theorem runs_app (w : Int) : ∀ (a b : List (List Qu)) (k : Nat), runsOf w k (a ++ b) = runsOf w k a ++ runsOf w (k + a.length) b
  | [], b, k => by simp [runsOf]
  | [] :: a, b, k => by
    simp only [List.cons_append, runsOf, runs_app w a b (k + 1), List.length_cons]
    rw [show k + 1 + a.length = k + (a.length + 1) by omega]
  | (q :: r) :: a, b, k => by
    simp only [List.cons_append, runsOf, runs_app w a b (k + 1), List.length_cons]
    rw [show k + 1 + a.length = k + (a.length + 1) by omega]
theorem runs_succ {w : Int} {ls : List (List Qu)} {t : Nat} {l : List Qu} (h : ls[t]? = some l) : runsOf w 0 (ls.take (t + 1)) = runsOf w 0 (ls.take t) ++ runsOf w t [l] := by
  obtain ⟨ht, rfl⟩ := List.getElem?_eq_some_iff.1 h
  rw [← List.take_append_getElem ht, runs_app]
  simp [Nat.min_eq_left (Nat.le_of_lt ht)]
theorem runs_len (w : Int) : ∀ (ls : List (List Qu)) (k : Nat), (runsOf w k ls).length ≤ ls.length
  | [], _ => by simp [runsOf]
  | [] :: a, k => by have := runs_len w a (k + 1); simp only [runsOf, List.length_cons]; omega
  | (q :: r) :: a, k => by have := runs_len w a (k + 1); simp only [runsOf, List.length_cons]; omega
abbrev tk2T (nx : Nat) (oL : Oid) (R : List Rn) (n t : Nat) : List AV := [.junk, .ptr (nx, 0) 0 1, runA (nx + 1, 1) R, .ptr (nx + 2, 0) 0 1, .junk, .junk, .junk, .junk, .junk, .junk, .junk, .junk, .junk, .junk, .junk, .junk, .junk, .junk, .junk, .junk, .junk, .junk, .junk, .junk, .junk, .junk, .junk, .junk, .junk, .junk, .junk, .junk, .junk, .junk, .junk, .junk, .junk, .junk, .junk, .junk, .junk, .junk, .junk, .junk, .junk, .osl oL 0 n 1 n, .d (.int .i64 n), .d (.int .i64 t), .junk, .junk, .junk, .junk, .junk, .junk, .junk, .junk, .junk, .junk, .junk, .junk, .junk, .junk, .junk, .junk, .junk, .junk, .junk, .junk, .junk, .junk, .junk, .junk, .junk, .junk, .junk, .junk, .junk, .junk, .junk, .junk, .junk, .junk, .junk, .junk, .junk, .junk, .junk, .junk, .junk, .junk, .junk]
def Tk2End (H0 : Hp) (nx : Nat) (oS oL : Oid) (os0 : List (Option Oid)) (L : List Rn) (S : Sc) (e : Ex) (st : St) : Prop :=
  ∃ vs os, e = .exit 2 ∧ st.tm = tk2T nx oL (runsOf S.ways 0 S.lines) S.lines.length S.lines.length ∧ TkI H0 nx oS oL os0 (runO (runsOf S.ways 0 S.lines)) L ⟨S.ways, S.now, S.lines.map turnQ⟩ st.hp st.nx vs os
theorem tick2 {H0 : Hp} {nx : Nat} {oS oL : Oid} {os0 : List (Option Oid)} {L : List Rn} {S : Sc} (hb : ∀ p, Foot oS oL os0 p → p.1 < nx) (hn : S.lines.length ≤ 16) (hw0 : S.ways ≠ 0) {H : Hp} {vs : List AV} {os : List (Option Oid)} {N : Nat} (h0 : TkI H0 nx oS oL os0 .vnil L S H N vs os) :
    ∃ e st, aloop Try.prog plc b9_0 ⟨[false, true, true, true, false, false, false, false, false, false, false, false, false, false, false, false, false, false, false, false, false, false, false, false, false, false, false, false, false, false, false, false, false, false, false, false, false, false, false, false, false, false, false, false, false, true, true, true, false, false, false, false, false, false, false, false, false, false, false, false, false, false, false, false, false, false, false, false, false, false, false, false, false, false, false, false, false, false, false, false, false, false, false, false, false, false, false, false, false, true, true], none⟩ ⟨tk2T nx oL [] S.lines.length 0, H, N⟩ = some (e, st) ∧ Tk2End H0 nx oS oL os0 L S e st := by
  have key := loop_ruleN (P := Try.prog) (pol := plc) (c := b9_0) (m := ⟨[false, true, true, true, false, false, false, false, false, false, false, false, false, false, false, false, false, false, false, false, false, false, false, false, false, false, false, false, false, false, false, false, false, false, false, false, false, false, false, false, false, false, false, false, false, true, true, true, false, false, false, false, false, false, false, false, false, false, false, false, false, false, false, false, false, false, false, false, false, false, false, false, false, false, false, false, false, false, false, false, false, false, false, false, false, false, false, false, false, true, true], none⟩)
    (N := fun s : TkS => s.N) (tm := fun s => tk2T nx oL (runsOf S.ways 0 (S.lines.take s.t)) S.lines.length s.t) (Hf := fun s => s.H)
    (I := fun s => s.t ≤ S.lines.length ∧ TkI H0 nx oS oL os0 (runO (runsOf S.ways 0 (S.lines.take s.t))) L ⟨S.ways, S.now, spun S.lines s.t⟩ s.H s.N s.vs s.os)
    (μ := fun s => S.lines.length - s.t) (res := fun _ => ()) (R := fun _ => Tk2End H0 nx oS oL os0 L S)
    (fun s hI => by
      obtain ⟨hi, hI⟩ := hI
      have hsch := hI.sch
      have hle := hI.le
      have hroot := hsch.root
      have htab := hsch.tab
      have hvl := hsch.vlen
      have hcS := hI.cS
      simp only [spun_len] at hroot hvl
      rcases Nat.lt_or_ge s.t S.lines.length with hl | hl
      · obtain ⟨v, l, o, hv, hlm, ho, hline⟩ := hsch.get (t := s.t) (by simp only [spun_len]; exact hl)
        have hl0 : S.lines[s.t]? = some l := by
          have e := List.getElem?_eq_getElem hl
          have := spun_at e
          rw [this] at hlm; rw [e]; exact hlm
        have haw : ∀ p, Foot oS oL s.os p → p.1 < nx ∨ nx + 4 ≤ p.1 := fun p hp => hI.away hb hp
        have fS := hsch.ltS; have fL := hsch.ltL
        have aS := haw oS (.inl rfl)
        have aL := haw oL (.inr (.inl rfl))
        have nes : ∀ (p : Oid) (a b : Nat), p.1 < nx ∨ nx + 4 ≤ p.1 → a < 4 → p ≠ (nx + a, b) := fun p a b hp ha e => by rw [e] at hp; simp only at hp; omega
        have hof : ∀ p, o = some p → Foot oS oL s.os p := fun p hp => .inr (.inr (by rw [← hp]; exact List.mem_of_getElem? ho))
        have hti : (s.t : Int) < S.lines.length := by omega
        have hve : ∀ h : s.t < s.vs.length, s.vs[s.t]'h = v := fun h => (List.getElem?_eq_some_iff.1 hv).2
        have hw : IntKind.i64.wrap ((s.t : Int) + 1) = (s.t : Int) + 1 := wrap_i64 (by omega) (by omega)
        -- nothing in it
        have skip : ∀ (H' : Hp), l = [] → (∀ p : Oid, p.1 < s.N → H' p = s.H p) → s.t + 1 ≤ S.lines.length ∧ TkI H0 nx oS oL os0 (runO (runsOf S.ways 0 (S.lines.take (s.t + 1)))) L ⟨S.ways, S.now, spun S.lines (s.t + 1)⟩ H' (s.N + 11) s.vs s.os := fun H' hle0 hk => by
          rw [hle0] at hl0
          refine ⟨hl, ?_⟩
          rw [runs_succ hl0, spun_none hl0]
          simp only [runsOf, List.append_nil]
          exact ⟨(hsch.keep fun p hp => hk p (hsch.foot_lt hp)).mono (by omega), (hk _ (by simp only; omega)).trans hcS, (hk _ (by simp only; omega)).trans hI.rr, hI.late.keep (hk _ (by simp only; omega)) (hk _ (by simp only; omega)), by omega, hI.os, fun p hp hF => by rw [hk p (by omega)]; exact hI.fr p hp hF⟩
        have hrs : l = [] → runsOf S.ways 0 (S.lines.take (s.t + 1)) = runsOf S.ways 0 (S.lines.take s.t) := fun e => by rw [e] at hl0; rw [runs_succ hl0]; simp [runsOf]
        conv => arg 9; arg 4; unfold b9_0
        cases hline with
        | nil =>
          simp [plc_raw, hti, hl, hcS, hroot, htab, hvl, hv, hve, hw, Nat.add_assoc, runA]
          refine .next (TkS.mk (s.t + 1) (upd s.H (s.N + 5, 1) .vnil) (s.N + 11) s.vs s.os) (by simp) (by simp only [hrs rfl]; rfl) (by simp) (skip _ rfl fun p hp => upd_old (by omega) _ _ _) (by simp only; omega) rfl
        | vn o hvn =>
          simp [plc_raw, hti, hl, hcS, hroot, htab, hvl, hv, hve, hw, Nat.add_assoc, runA]
          refine .next (TkS.mk (s.t + 1) s.H (s.N + 11) s.vs s.os) (by simp) (by simp only [hrs rfl]; rfl) (by simp) (skip _ rfl fun p hp => rfl) (by simp only; omega) rfl
        | row o l cs hc hvv ht hbb =>
          cases l with
          | nil =>
            simp [plc_raw, hti, hl, hcS, hroot, htab, hvl, hv, hve, hw, Nat.add_assoc, runA]
            refine .next (TkS.mk (s.t + 1) s.H (s.N + 11) s.vs s.os) (by simp) (by simp only [hrs rfl]; rfl) (by simp) (skip _ rfl fun p hp => rfl) (by simp only; omega) rfl
          | cons q r =>
            have hfo := hof o rfl
            have ho9 := hsch.foot_lt hfo
            have hoa := haw o hfo
            have hoS : o ≠ oS := fun e => hsch.neS _ o ho e
            have hoL : o ≠ oL := fun e => hsch.neL _ o ho e
            have hl3 : (r.length + 1) * 3 ≤ cs.length := hvv
            have hlr : r.length < 64 := by omega
            have ht3 : cs.take 3 = [.int .i64 q.id, .int .i64 q.dl, .int .i64 q.tn] := by
              have := congrArg (List.take 3) ht
              rw [List.take_take, Nat.min_eq_left (by simp only [List.length_cons]; omega)] at this
              rw [this]; simp [encQ]
            have g0 : cs[0]? = some (.int .i64 q.id) := by have := congrArg (fun x => x[0]?) ht3; simpa [List.getElem?_take] using this
            have g1 : cs[1]? = some (.int .i64 q.dl) := by have := congrArg (fun x => x[1]?) ht3; simpa [List.getElem?_take] using this
            have g2 : cs[2]? = some (.int .i64 q.tn) := by have := congrArg (fun x => x[2]?) ht3; simpa [List.getElem?_take] using this
            have e0 : ∀ h : 0 < cs.length, cs[0]'h = .int .i64 q.id := fun h => by rw [List.getElem?_eq_getElem h] at g0; exact Option.some.inj g0
            have e2 : ∀ h : 2 < cs.length, cs[2]'h = .int .i64 q.tn := fun h => by rw [List.getElem?_eq_getElem h] at g2; exact Option.some.inj g2
            obtain ⟨R, hR⟩ : ∃ R, R = runsOf S.ways 0 (S.lines.take s.t) := ⟨_, rfl⟩
            have hR16 : R.length ≤ 1048576 := by have := runs_len S.ways (S.lines.take s.t) 0; rw [← hR] at this; simp at this; omega
            have hRs : runsOf S.ways 0 (S.lines.take (s.t + 1)) = R ++ [((s.t : Int), q.id, q.tn.tmod S.ways)] := by rw [runs_succ hl0, hR]; simp [runsOf]
            obtain ⟨Ha, hHa⟩ : ∃ Ha : Hp, Ha = upd s.H (s.N + 25, 0) (.cells [.d (.int .i64 s.t), .d (.int .i64 q.id), .d (.int .i64 (q.tn.tmod S.ways))]) := ⟨_, rfl⟩
            have kA : ∀ p : Oid, p.1 < s.N → Ha p = s.H p := fun p hp => by rw [hHa]; exact upd_old (by omega) _ _ _
            have happ := append_run (id := s.N + 26) (o := (nx + 1, 1)) (q := (s.N + 25, 0)) (t := s.t) (i := q.id) (k := q.tn.tmod S.ways) (l := R) (H := Ha) (by rw [kA _ (by simp only; omega), hR]; exact hI.rr) (by rw [hHa]; exact upd_same _ _ _) hR16
            obtain ⟨Hb, hHb⟩ : ∃ Hb : Hp, Hb = upd Ha (nx + 1, 1) (runO (R ++ [((s.t : Int), q.id, q.tn.tmod S.ways)])) := ⟨_, rfl⟩
            rw [← hHb] at happ
            have kB : ∀ p : Oid, p.1 < s.N → p ≠ (nx + 1, 1) → Hb p = s.H p := fun p hp e => by rw [hHb, upd_ne e]; exact kA p hp
            obtain ⟨Hc, hHc⟩ : ∃ Hc : Hp, Hc = upd Hb o (.grow (List.take 2 (cs.map AV.d) ++ .d (.int .i64 (IntKind.i64.wrap (q.tn + 1))) :: List.drop 3 (cs.map AV.d))) := ⟨_, rfl⟩
            have kC : ∀ p : Oid, p.1 < s.N → p ≠ (nx + 1, 1) → p ≠ o → Hc p = s.H p := fun p hp e e2 => by rw [hHc, upd_ne e2]; exact kB p hp e
            have bo : Hb o = some (.grow (cs.map .d)) := (kB o ho9 (nes o 1 1 hoa (by omega))).trans hc
            obtain ⟨cs', hcs'⟩ : ∃ cs', cs' = cs.take 2 ++ .int .i64 (IntKind.i64.wrap (q.tn + 1)) :: cs.drop 3 := ⟨_, rfl⟩
            have hcl' : cs'.length = cs.length := by rw [hcs']; simp; omega
            have co : Hc o = some (.grow (cs'.map .d)) := by rw [hHc, upd_same, hcs']; simp
            have htk' : cs'.take ((r.length + 1) * 3) = encQ ({ q with tn := IntKind.i64.wrap (q.tn + 1) } :: r) := by
              have h2 : cs.take 2 = [.int .i64 q.id, .int .i64 q.dl] := by
                have := congrArg (List.take 2) ht3
                rw [List.take_take] at this
                simpa using this
              have hd : (cs.drop 3).take (r.length * 3) = encQ r := by
                have := congrArg (List.drop 3) ht
                rw [List.drop_take] at this
                simp only [List.length_cons] at this
                rw [show (r.length + 1) * 3 - 3 = r.length * 3 by omega] at this
                rw [this]; simp [encQ]
              rw [hcs', h2, show (r.length + 1) * 3 = r.length * 3 + 1 + 1 + 1 by omega]
              simp [encQ, hd]
            obtain ⟨H', nx', ver, c, hcall, hl1, hc1, hc2, hn', hk1⟩ := turned_ok (H := Hc) (o := o) (q := { q with tn := IntKind.i64.wrap (q.tn + 1) }) (r := r) (cs := cs') co (by omega) htk' (by omega) (s.N + 45) (by omega)
            rw [hcl'] at hcall
            have c1 : Hc (nx, 0) = _ := (kC (nx, 0) (by simp only; omega) (by simp) (nes o 0 0 hoa (by omega)).symm).trans hcS
            have c2 := (kC oS fS (nes oS 1 1 aS (by omega)) hoS.symm).trans hroot
            have c3 := (kC oL fL (nes oL 1 1 aL (by omega)) hoL.symm).trans htab
            have d1 := (hk1 (nx, 0) (by simp only; omega)).trans c1
            have d2 := (hk1 oS (by omega)).trans c2
            have d3 := (hk1 oL (by omega)).trans c3
            have hset : s.vs.set s.t (.osl c 0 (r.length + 1) 3 ver) = s.vs.take s.t ++ .osl c 0 (r.length + 1) 3 ver :: s.vs.drop (s.t + 1) := by rw [List.set_eq_take_append_cons_drop, if_pos (by omega)]
            have hn1 : s.t + 1 ≤ S.lines.length := hl
            have i0 : (0 : Int) < (r.length : Int) + 1 := by omega
            have i1 : ¬ ((r.length : Int) + 1 = 0) := by omega
            have i2 : 3 ≤ cs.length := by omega
            have i3 : 0 < cs.length := by omega
            have i4 : 2 < cs.length := by omega
            rw [← hR]
            simp only [runA] at happ
            simp [plc_raw, hti, hl, hcS, hroot, htab, hvl, hv, hve, hw, hw0, Nat.add_assoc, runA, hc, e0, e2, i0, i1, i2, i3, i4, ← hHa, happ, bo, ← hHc, hcall, c1, c2, c3, d1, d2, d3, hn1]
            have hfr : ∀ p : Oid, p.1 < s.N → p ≠ (nx + 1, 1) → p ≠ o → H' p = s.H p := fun p hp e1 e2 => (hk1 p (by omega)).trans (kC p hp e1 e2)
            have hs2 := hsch.set' (H' := upd H' oL (.cells (s.vs.set s.t (.osl c 0 (r.length + 1) 3 ver)))) (M := nx' + 2) (t := s.t) (by simp only [spun_len]; exact hl) (v' := .osl c 0 (r.length + 1) 3 ver) (l' := turnQ (q :: r)) (o' := some c) ho (by omega)
              (fun p hp => by cases hp; exact ⟨.inr (by omega), by omega⟩) (upd_same _ _ _) (hl1.keep fun p hp => upd_ne (fun e => by cases hp; rw [e] at hc1; omega))
              (fun p hp e1 e2 => by rw [upd_ne e1, hfr p (hsch.foot_lt hp) (nes p 1 1 (haw p hp) (by omega)) (fun e => e2 (by rw [e]))])
            simp only [spun_set hl0] at hs2
            have aa : ∀ a b : Nat, a < 4 → (nx + a, b) ≠ oL := fun a b ha => (nes oL a b aL ha).symm
            have ao : ∀ a b : Nat, a < 4 → (nx + a, b) ≠ o := fun a b ha => (nes o a b hoa ha).symm
            refine .next (TkS.mk (s.t + 1) (upd H' oL (.cells (s.vs.set s.t (.osl c 0 (r.length + 1) 3 ver)))) (nx' + 2) (s.vs.set s.t (.osl c 0 (r.length + 1) 3 ver)) (s.os.set s.t (some c))) (by simp) (by simp [hRs, runA]) (by simp [hset]) ⟨hl, ?_⟩ (by simp only; omega) rfl
            refine ⟨hs2, ?_, ?_, ?_, by simp only; omega, fun p hp => ?_, fun p hp hF => ?_⟩
            · simp only; rw [upd_ne (show ((nx, 0) : Oid) ≠ oL from aa 0 0 (by omega))]; exact d1
            · simp only; rw [upd_ne (aa 1 1 (by omega)), hk1 _ (by simp only; omega), hHc, upd_ne (ao 1 1 (by omega)), hHb, upd_same, hRs]
            · exact hI.late.keep ((upd_ne (aa 2 0 (by omega))).trans (hfr _ (by simp only; omega) (by simp) (ao 2 0 (by omega)))) ((upd_ne (aa 2 1 (by omega))).trans (hfr _ (by simp only; omega) (by simp) (ao 2 1 (by omega))))
            · rcases List.mem_or_eq_of_mem_set hp with z | z
              · exact hI.os p z
              · cases z; exact .inr (by omega)
            · simp only
              have hpo : p ≠ o := fun e => by
                subst e
                rcases hI.os p (List.mem_of_getElem? ho) with z | z
                · exact hF (.inr (.inr z))
                · omega
              rw [upd_ne (fun e => hF (.inr (.inl e))), hfr p (by omega) (fun e => by rw [e] at hp; simp only at hp; omega) hpo]
              exact hI.fr p hp hF
      · have hte : s.t = S.lines.length := Nat.le_antisymm hi hl
        simp [b9_0, hte]
        refine .fin _ _ ⟨s.vs, s.os, rfl, by simp, ?_⟩
        have := hI
        rw [hte, List.take_length, spun_end] at this
        exact { this with sch := this.sch.mono (by simp only; omega), le := by have := this.le; simp only; omega }) ⟨0, H, N, vs, os⟩ ⟨Nat.zero_le _, by simpa [runsOf, spun, runO] using h0⟩
  simpa [runsOf] using key
end Go.Proofs.Ytnlmonokkppagaa.Am

/-
  The scheduler: a tick. No condition.
-/
namespace Go.Proofs.Ytnlmonokkppagaa.Am
open Go Go.Proofs
set_option maxHeartbeats 4000000
set_option maxRecDepth 20000
set_option linter.unusedSimpArgs false
set_option linter.unusedVariables false
theorem left_len (now : Int) (ls : List (List Qu)) : (leftOf' now ls).length = ls.length := by simp [leftOf']
/-- What a tick leaves: who runs, who is late. -/
structure Ticked (H : Hp) (nx : Nat) (oS oL : Oid) (os : List (Option Oid)) (S : Sc) (H' : Hp) (nx' : Nat) (vs' : List AV) (os' : List (Option Oid)) (o1 o2 : Oid) : Prop where
  did : Did H nx oS oL os S.tick H' nx' vs' os'
  runs : H' o1 = some (runO S.runs)
  late : H' o2 = some (runO S.late)
  n1 : nx ≤ o1.1
  n2 : nx ≤ o2.1
  l1 : o1.1 < nx'
  l2 : o2.1 < nx'
  f1 : ¬ Foot oS oL os' o1
  f2 : ¬ Foot oS oL os' o2
theorem tick_ok {H : Hp} {N : Nat} {oS oL : Oid} {vs : List AV} {os : List (Option Oid)} {S : Sc} (h : SchH H N oS oL vs os S) (nx : Nat) (hN : N ≤ nx) (hn : S.lines.length ≤ 16) (hw0 : S.ways ≠ 0) (hnow : 0 ≤ S.now ∧ S.now ≤ 1099511627776) :
    ∃ H' nx' vs' os' o1 o2, acall Try.prog plc 9 [.ptr oS 0 3] H nx = some (.tup [runA o1 S.runs, runA o2 S.late], H', nx') ∧ Ticked H nx oS oL os S H' nx' vs' os' o1 o2 := by
  have hroot := h.root
  have htab := h.tab
  have hvl := h.vlen
  have fS := h.ltS; have fL := h.ltL
  have h64 : ∀ l ∈ S.lines, l.length ≤ 64 := fun l hl => by
    obtain ⟨t, ht⟩ := List.mem_iff_getElem?.1 hl
    obtain ⟨v, l', o, _, h2, _, h4⟩ := h.get (List.getElem?_eq_some_iff.1 ht).1
    rw [ht] at h2; cases h2
    exact h4.le
  have hfb : ∀ p, Foot oS oL os p → p.1 < nx := fun p hp => Nat.lt_of_lt_of_le (h.foot_lt hp) hN
  obtain ⟨Hz, hHz⟩ : ∃ Hz : Hp, Hz = upd (upd (upd (upd H (nx, 0) (.cells [.ptr oS 0 3])) (nx + 1, 1) .vnil) (nx + 2, 1) .vnil) (nx + 2, 0) (.cells [.osl (nx + 2, 1) 0 0 1 0]) := ⟨_, rfl⟩
  have kz : ∀ p : Oid, p.1 < nx → Hz p = H p := fun p hp => by rw [hHz, upd_old (by omega), upd_old (by omega), upd_old (by omega), upd_old hp]
  obtain ⟨H1, hH1⟩ : ∃ H1 : Hp, H1 = upd Hz oS (.cells [.d (.int .i64 S.ways), .d (.int .i64 S.next), .osl oL 0 S.lines.length 1 S.lines.length]) := ⟨_, rfl⟩
  have k1 : ∀ p : Oid, p.1 < nx → p ≠ oS → H1 p = H p := fun p hp e => by rw [hH1, upd_ne e]; exact kz p hp
  have kn : ∀ a b : Nat, H1 (nx + a, b) = Hz (nx + a, b) := fun a b => by rw [hH1, upd_ne (fun e => by rw [← e] at fS; simp only at fS; omega)]
  have h0 : TkI H nx oS oL os .vnil [] ⟨S.ways, S.next, S.lines⟩ H1 (nx + 21) vs os := by
    refine ⟨⟨by rw [hH1, upd_same], (k1 oL (by omega) h.ne.symm).trans htab, hvl, h.olen, fun t v l o a b c => (h.line t v l o a b c).keep fun p hp => ?_, h.nd, by omega, by omega, fun t o ho => by have := h.lt t o ho; omega, h.ne, h.neS, h.neL⟩, ?_, ?_, ⟨?_, ?_⟩, by omega, fun p hp => .inl hp, fun p hp hF => k1 p hp fun e => hF (.inl e)⟩
    · subst hp; exact k1 p (by have := h.lt t p c; omega) (h.neS t p c)
    · have := kn 0 0; rw [Nat.add_zero] at this; rw [this, hHz]; simp
    · rw [kn, hHz]; simp
    · rw [kn, hHz]; simp [runA, wdR]
    · rw [kn, hHz]; simp [runO]
  obtain ⟨e1, st1, hrun1, vs1, os1, rfl, htm1, hI1⟩ := tick1 (S := ⟨S.ways, S.next, S.lines⟩) hfb hn h64 h0
  obtain ⟨tm1, H2, n1⟩ := st1
  simp only at htm1 hI1 hrun1
  subst htm1
  have hI1' : TkI H nx oS oL os .vnil (lateOf S.next 0 S.lines) ⟨S.ways, S.next, leftOf' S.next S.lines⟩ H2 (n1 + 6) vs1 os1 := { hI1 with sch := hI1.sch.mono (by omega), le := by have := hI1.le; omega }
  obtain ⟨e2, st2, hrun2, vs2, os2, rfl, htm2, hI2⟩ := tick2 (S := ⟨S.ways, S.next, leftOf' S.next S.lines⟩) hfb (by simp only [left_len]; exact hn) hw0 hI1'
  obtain ⟨tm2, H3, n2⟩ := st2
  simp only at htm2 hI2 hrun2
  subst htm2
  have r2 := hI1.sch.root
  have c2 := hI1.cS
  simp only [left_len] at r2 hrun2
  have hle2 := hI2.le
  have l3 := hI2.late.cell
  have hw1 : IntKind.i64.wrap (S.now + 1) = S.now + 1 := wrap_i64 (by omega) (by omega)
  have hnx : (if 1099511627776 < S.now + 1 then 1099511627776 else S.now + 1) = S.next := by unfold Sc.next; split <;> split <;> omega
  have hrc : (upd H3 (nx + 2, 0) (.cells [runA (nx + 2, 1) (lateOf S.next 0 S.lines)])) = H3 := by funext p; simp only [upd]; split <;> first | (rename_i e; rw [e]; exact l3.symm) | rfl
  refine ⟨H3, n2 + 4, vs2, os2, (nx + 1, 1), (nx + 2, 1), acall_body code9 ?_, ?_⟩
  · simp only [runA, tk1T, tk2T, wdR, if_true, List.length_nil, Nat.zero_mul, Int.natCast_zero] at hrun1
    have hw2 : wdR [] = 1 := rfl
    simp only [runA, tk1T, tk2T, hw2, List.length_nil, Nat.zero_mul, Int.natCast_zero] at hrun2
    simp only [runA] at l3 hrc
    have zS := (kz oS (by omega)).trans hroot
    have zc : Hz (nx, 0) = some (.cells [.ptr oS 0 3]) := by rw [hHz]; simp
    have hone : H1 oS = some (.cells [.d (.int .i64 S.ways), .d (.int .i64 S.next), .osl oL 0 S.lines.length 1 S.lines.length]) := by rw [hH1, upd_same]
    have honc : H1 (nx, 0) = some (.cells [.ptr oS 0 3]) := by have := kn 0 0; rw [Nat.add_zero] at this; rw [this]; exact zc
    simp [plc_raw, hroot, Nat.add_assoc, hw1, ← hHz, zS, zc, hnx, ← hH1, hone, honc, hrun1, r2, c2, hrun2, l3, hrc]
    exact ⟨rfl, rfl⟩
  · have hfo : ∀ a b, a < 4 → ¬ Foot oS oL os2 (nx + a, b) := fun a b ha hF => by have := hI2.away hfb hF; simp only at this; omega
    exact ⟨⟨by omega, hI2.sch.mono (by omega), hI2.fr, fun p hp => (hI2.os p hp).imp (fun e => e) (fun e => by omega)⟩, hI2.rr, hI2.late.row, by simp only; omega, by simp only; omega, by simp only; omega, by simp only; omega, hfo 1 1 (by omega), hfo 2 1 (by omega)⟩
end Go.Proofs.Ytnlmonokkppagaa.Am

/-
  The scheduler: the chapter's example. No condition.
-/
namespace Go.Proofs.Ytnlmonokkppagaa.Am
open Go Go.Proofs
set_option maxHeartbeats 4000000
set_option maxRecDepth 20000
set_option linter.unusedSimpArgs false
set_option linter.unusedVariables false
theorem Did.foot {H : Hp} {nx : Nat} {oS oL : Oid} {os : List (Option Oid)} {S' : Sc} {H' : Hp} {nx' : Nat} {vs' : List AV} {os' : List (Option Oid)} (h : Did H nx oS oL os S' H' nx' vs' os') {p : Oid} (hp : p.1 < nx) (hF : ¬ Foot oS oL os p) : ¬ Foot oS oL os' p := by
  rintro (e | e | e)
  · exact hF (.inl e)
  · exact hF (.inr (.inl e))
  · rcases h.os p e with q | q
    · exact hF (.inr (.inr q))
    · omega
theorem runA_one (o : Oid) (x : Rn) : runA o [x] = .osl o 0 1 3 3 := rfl
theorem runA_nil (o : Oid) : runA o [] = .osl o 0 0 1 0 := rfl
theorem alive21_ok : pcl Cp 6 [] = some (.bool true) := by
  obtain ⟨H0, n0, oS, oL, vs0, os0, c0, g0, s0, _, _⟩ := new_ok (fun _ => none) 7 1 2 (by omega) (by omega) (by omega) (by omega)
  obtain ⟨H1, n1, vs1, os1, c1, d1⟩ := add_ok s0 (n0 + 16) (by omega) (by simp) 0 7 0
  have e1 : (⟨(2 : Nat), 0, List.replicate 1 []⟩ : Sc).add 0 7 0 = (⟨2, 0, [[⟨7, 0, 0⟩]]⟩, 0) := by kernel_rfl
  rw [e1] at c1 d1
  obtain ⟨H2, n2, vs2, os2, c2, d2⟩ := add_ok d1.sch n1 (by omega) (by simp) 0 8 0
  have e2 : (⟨2, 0, [[⟨7, 0, 0⟩]]⟩ : Sc).add 0 8 0 = (⟨2, 0, [[⟨7, 0, 0⟩, ⟨8, 0, 0⟩]]⟩, 0) := by kernel_rfl
  rw [e2] at c2 d2
  obtain ⟨H3, n3, vs3, os3, a1, b1, c3, t3⟩ := tick_ok d2.sch (n2 + 7) (by omega) (by simp) (by simp) (by simp)
  have q3 : (⟨2, 0, [[⟨7, 0, 0⟩, ⟨8, 0, 0⟩]]⟩ : Sc).tick = ⟨2, 1, [[⟨8, 0, 0⟩, ⟨7, 0, 1⟩]]⟩ := by kernel_rfl
  have r3 : (⟨2, 0, [[⟨7, 0, 0⟩, ⟨8, 0, 0⟩]]⟩ : Sc).runs = [(0, 7, 0)] := by kernel_rfl
  have l3 : (⟨2, 0, [[⟨7, 0, 0⟩, ⟨8, 0, 0⟩]]⟩ : Sc).late = [] := by kernel_rfl
  have d3 := t3.did
  have w3 := t3.runs
  rw [q3] at d3
  rw [r3] at w3
  rw [r3, l3, runA_one, runA_nil] at c3
  obtain ⟨H4, n4, vs4, os4, a2, b2, c4, t4⟩ := tick_ok d3.sch (n3 + 7) (by omega) (by simp) (by simp) (by simp)
  have q4 : (⟨2, 1, [[⟨8, 0, 0⟩, ⟨7, 0, 1⟩]]⟩ : Sc).tick = ⟨2, 2, [[⟨7, 0, 1⟩, ⟨8, 0, 1⟩]]⟩ := by kernel_rfl
  have r4 : (⟨2, 1, [[⟨8, 0, 0⟩, ⟨7, 0, 1⟩]]⟩ : Sc).runs = [(0, 8, 0)] := by kernel_rfl
  have l4 : (⟨2, 1, [[⟨8, 0, 0⟩, ⟨7, 0, 1⟩]]⟩ : Sc).late = [] := by kernel_rfl
  have d4 := t4.did
  have w4 := t4.runs
  rw [q4] at d4
  rw [r4] at w4
  rw [r4, l4, runA_one, runA_nil] at c4
  obtain ⟨H5, n5, vs5, os5, a3, b3, c5, t5⟩ := tick_ok d4.sch (n4 + 7) (by omega) (by simp) (by simp) (by simp)
  have q5 : (⟨2, 2, [[⟨7, 0, 1⟩, ⟨8, 0, 1⟩]]⟩ : Sc).tick = ⟨2, 3, [[⟨8, 0, 1⟩, ⟨7, 0, 2⟩]]⟩ := by kernel_rfl
  have r5 : (⟨2, 2, [[⟨7, 0, 1⟩, ⟨8, 0, 1⟩]]⟩ : Sc).runs = [(0, 7, 1)] := by kernel_rfl
  have l5 : (⟨2, 2, [[⟨7, 0, 1⟩, ⟨8, 0, 1⟩]]⟩ : Sc).late = [] := by kernel_rfl
  have d5 := t5.did
  have w5 := t5.runs
  rw [q5] at d5
  rw [r5] at w5
  rw [r5, l5, runA_one, runA_nil] at c5
  have m3 := t3.l1; have m4 := t4.l1
  have fa1 := d4.foot (p := a1) (by omega) t3.f1
  have y3 : H5 a1 = some (runO [(0, 7, 0)]) := ((d5.fr a1 (by have := d4.le; omega) fa1).trans (d4.fr a1 (by omega) t3.f1)).trans w3
  have y4 : H5 a2 = some (runO [(0, 8, 0)]) := (d5.fr a2 (by omega) t4.f1).trans w4
  have c6 := now_ok d5.sch (n5 + 47)
  simp only [runO, encR, List.map_cons, List.map_nil, if_false, reduceCtorEq] at y3 y4 w5
  simp only [show ((1 : Nat) : Int) = 1 from rfl, show ((2 : Nat) : Int) = 2 from rfl] at c0
  refine pcl_body code6 ?_
  simp [plc_raw, c0, c1, c2, c3, c4, c5, c6, y3, y4, w5, Nat.add_assoc]
end Go.Proofs.Ytnlmonokkppagaa.Am

/-
  The scheduler: which queries a line has. No condition.
-/
namespace Go.Proofs.Ytnlmonokkppagaa.Am
open Go Go.Proofs
set_option maxHeartbeats 4000000
set_option maxRecDepth 20000
set_option linter.unusedSimpArgs false
set_option linter.unusedVariables false
def rowJ (l : List Int) : Am.Obj := if l = [] then .vnil else .grow (l.map fun x => .d (.int .i64 x))
def idsA (o : Oid) (l : List Int) : AV := .osl o 0 l.length 1 l.length
theorem append_id {H : Hp} {id : Nat} {o q : Oid} {l : List Int} {x : Int} (h : H o = some (rowJ l)) (h2 : H q = some (.cells [.d (.int .i64 x)])) (hl : l.length ≤ 1048576) :
    appendO Try.prog H id 31 31 (idsA o l) (.osl q 0 1 1 1) = some (idsA o (l ++ [x]), upd H o (rowJ (l ++ [x]))) := by
  cases l with
  | nil =>
    simp [rowJ] at h
    simp [appendO, srcCells, srcRaw, h, h2, idsA, rowJ, growO]
  | cons y r =>
    simp only [List.length_cons] at hl
    have i1 : r.length + 1 ≤ 68719476736 := by omega
    have i2 : ¬ r.length + 1 ≤ r.length := by omega
    have i3 : List.take r.length (List.map (fun x => AV.d (D.int IntKind.i64 x)) r) = List.map (fun x => AV.d (D.int IntKind.i64 x)) r := List.take_of_length_le (by simp)
    simp [rowJ] at h
    simp [appendO, srcCells, srcRaw, h, h2, idsA, rowJ, growO, i1, i2, i3]
abbrev quT (r : AV) (o : Oid) (L : List Int) (v : AV) (n i : Nat) : List AV := [.junk, .junk, .junk, .junk, r, idsA o L, .junk, .junk, .junk, .junk, .junk, .junk, .junk, .junk, .junk, .junk, .junk, .junk, .junk, .junk, .junk, .junk, v, .d (.int .i64 n), .d (.int .i64 i), .junk, .junk, .junk, .junk, .junk, .junk, .junk, .junk, .junk, .junk]
def QuEnd (H0 : Hp) (b m : Nat) (o : Oid) (tm : List AV) (L : List Int) (e : Ex) (st : St) : Prop := b ≤ st.nx ∧ e = .exit 0 ∧ st.tm = tm ∧ st.hp o = some (rowJ L) ∧ ∀ p : Oid, p.1 < m → st.hp p = H0 p
theorem qu_loop {H0 : Hp} {v : AV} {l : List Qu} {oo : Option Oid} (hline : LineAt H0 v l oo) {m : Nat} (hoo : ∀ p, oo = some p → p.1 < m) (r : AV) {o : Oid} {b : Nat} (hm : m ≤ o.1) (hob : o.1 < b) {H : Hp} (hH : ∀ p : Oid, p.1 < m → H p = H0 p) (ho : H o = some (rowJ [])) :
    ∃ e st, aloop Try.prog plc b18_0 ⟨[false, false, false, false, true, true, false, false, false, false, false, false, false, false, false, false, false, false, false, false, false, false, true, true, true, false, false, false, false, false, false, false, false, false, true], some b⟩ ⟨quT r o [] v l.length 0, H, b⟩ = some (e, st) ∧ QuEnd H0 b m o (quT r o (l.map Qu.id) v l.length l.length) (l.map Qu.id) e st := by
  have hle := hline.le
  have key := loop_rule (P := Try.prog) (pol := plc) (c := b18_0) (m := ⟨[false, false, false, false, true, true, false, false, false, false, false, false, false, false, false, false, false, false, false, false, false, false, true, true, true, false, false, false, false, false, false, false, false, false, true], some b⟩)
    (b := b) (tm := fun (s : IxS) => quT r o ((l.take s.i).map Qu.id) v l.length s.i) (Hf := fun s => s.H)
    (I := fun s => s.i ≤ l.length ∧ Same m s.H H0 ∧ s.H o = some (rowJ ((l.take s.i).map Qu.id))) (μ := fun s => l.length - s.i) (res := fun _ => ()) (R := fun _ => QuEnd H0 b m o (quT r o (l.map Qu.id) v l.length l.length) (l.map Qu.id))
    (fun s nx1 hI => by
      obtain ⟨hi, hk, hr⟩ := hI
      rcases Nat.lt_or_ge s.i l.length with hl2 | hl2
      · obtain ⟨q, a⟩ := q_at (by omega) hl2
        have hL : (l.take (s.i + 1)).map Qu.id = (l.take s.i).map Qu.id ++ [q.id] := by rw [take_succ a.get]; simp
        cases hline with
        | nil => simp at hl2
        | vn => simp at hl2
        | row o1 l cs hc hv ht hb =>
          have hrow := row_at hv ht a
          have hc1 : s.H o1 = some (.grow (cs.map .d)) := (hk o1 (hoo o1 rfl)).trans hc
          have ha1 : s.i * 3 + 3 ≤ cs.length := by have := a.ltm; omega
          have ha2 : s.i * 3 ≤ cs.length := by omega
          obtain ⟨Ha, hHa⟩ : ∃ Ha : Hp, Ha = upd (upd s.H (nx1 + (b + 3), 0) (.cells [.d (.int .i64 q.id), .d (.int .i64 q.dl), .d (.int .i64 q.tn)])) (nx1 + (b + 8), 0) (.cells [.d (.int .i64 q.id)]) := ⟨_, rfl⟩
          have kA : ∀ p : Oid, p.1 < b → Ha p = s.H p := fun p hp => by rw [hHa, upd_old (by omega), upd_old (by omega)]
          have happ := append_id (id := nx1 + (b + 9)) (o := o) (q := (nx1 + (b + 8), 0)) (l := (l.take s.i).map Qu.id) (x := q.id) (H := Ha) ((kA o hob).trans hr) (by rw [hHa]; exact upd_same _ _ _) (by simp; omega)
          rw [← hL] at happ
          obtain ⟨W, hW⟩ : ∃ W, W = rowJ ((l.take (s.i + 1)).map Qu.id) := ⟨_, rfl⟩
          have e1 : ((l.take s.i).map Qu.id).length = s.i := by simp; omega
          have e2 : ((l.take (s.i + 1)).map Qu.id).length = s.i + 1 := by simp; omega
          have hmin : min s.i l.length = s.i := by omega
          simp only [idsA] at happ
          rw [← hW, e1, e2] at happ
          conv => arg 9; arg 4; unfold b18_0
          simp [plc_raw, a.lti, a.ltm, hc1, hrow, ha1, ha2, a.w, Nat.add_assoc, idsA, ← hHa, hmin, happ]
          refine .next (IxS.mk (s.i + 1) (below b (upd Ha o W))) (by omega) ?_ rfl ⟨hl2, fun p hp => ?_, ?_⟩ (by simp only; omega) rfl
          · have e3 : min (s.i + 1) l.length = s.i + 1 := by omega
            simp [idsA, e3]
          · show below b (upd Ha o W) p = _
            rw [below_lt (by omega), upd_ne (fun e => by rw [e] at hp; omega), kA p (by omega)]; exact hk p hp
          · show below b (upd Ha o W) o = _
            rw [below_lt hob, upd_same, hW]; simp
      · have hie : s.i = l.length := Nat.le_antisymm hi hl2
        simp [b18_0, hie]
        refine .fin _ _ ⟨by simp only; omega, rfl, by simp, ?_, fun p hp => ?_⟩
        · show below b s.H o = _
          rw [below_lt hob, hr, hie]; simp
        · show below b s.H p = _
          rw [below_lt (by omega)]; exact hk p hp) ⟨0, H⟩ ⟨Nat.zero_le _, hH, by simpa using ho⟩
  simpa using key
theorem queries_ok {H : Hp} {N : Nat} {oS oL : Oid} {vs : List AV} {os : List (Option Oid)} {S : Sc} (h : SchH H N oS oL vs os S) (nx : Nat) (hN : N ≤ nx) (hn : S.lines.length ≤ 16) (t : Int) :
    ∃ H' nx', acall Try.prog plc 18 [.ptr oS 0 3, .d (.int .i64 t)] H nx = some (idsA (nx + 9, 1) (S.ids t), H', nx') ∧ nx + 10 ≤ nx' ∧ H' (nx + 9, 1) = some (rowJ (S.ids t)) ∧ ∀ p : Oid, p.1 < nx → H' p = H p := by
  have k0 : ∀ p : Oid, p.1 < nx → upd H (nx, 1) .vnil p = H p := fun p hp => upd_old hp _ _ _
  have h' : SchH (upd H (nx, 1) .vnil) N oS oL vs os S := h.keep fun p hp => k0 p (Nat.lt_of_lt_of_le (h.foot_lt hp) hN)
  have hroot := h'.root
  have htab := h'.tab
  have hvl := h.vlen
  have fS := h.ltS; have fL := h.ltL
  obtain ⟨x, is, hre, hwk⟩ := h'.reify 3
  simp only [Nat.reduceAdd] at hre
  have his := is_ok S t
  unfold Sc.ids
  cases hT : S.isT t with
  | false =>
    rw [hT] at his
    refine ⟨upd (upd H (nx, 1) .vnil) (nx + 9, 1) .vnil, nx + 10, acall_body code18 ?_, by omega, upd_same _ _ _, fun p hp => by rw [upd_old (by omega), k0 p hp]⟩
    · simp [plc_raw, hre, reify_d, hwk, his, -reify, idsA]
  | true =>
    rw [hT] at his
    obtain ⟨n, rfl, hnl, htn⟩ := nth_get hT
    obtain ⟨v, l, o, hv, hl, ho, hline⟩ := h.get hnl
    have hline' : S.line n = l := by simp [Sc.line, hl]
    obtain ⟨Hz, hHz⟩ : ∃ Hz : Hp, Hz = upd (upd H (nx, 1) .vnil) (nx + 9, 1) .vnil := ⟨_, rfl⟩
    have kz : ∀ p : Oid, p.1 < nx → Hz p = H p := fun p hp => by rw [hHz, upd_old (by omega), k0 p hp]
    obtain ⟨e, st, hrun, hq1, rfl, htm, hq2, hq3⟩ := qu_loop hline (m := nx) (fun p hp => by rw [hp] at ho; have := h.lt n p ho; omega) (.osl (nx, 1) 0 0 1 0) (o := (nx + 9, 1)) (b := nx + 19) (by simp only; omega) (by simp only; omega) (H := Hz) kz (by rw [hHz, upd_same]; rfl)
    obtain ⟨tm, Hq, nq⟩ := st
    simp only at htm hq1 hq2 hq3
    subst htm
    have hle := hline.le
    have zr := (kz oS (by omega)).trans h.root
    have zt := (kz oL (by omega)).trans h.tab
    have hve : ∀ h : n < vs.length, vs[n]'h = v := fun h => (List.getElem?_eq_some_iff.1 hv).2
    have hni : (n : Int) < (S.lines.length : Int) := by omega
    simp only [if_true, hline']
    refine ⟨Hq, nq + 2, acall_body code18 ?_, ?_, hq2, hq3⟩
    · simp only [quT, idsA, Int.natCast_zero, List.length_nil] at hrun
      cases hline with
      | nil => simp at hrun; simp [plc_raw, hre, reify_d, hwk, his, ← hHz, zr, zt, hvl, hv, hve, hni, hnl, hrun, idsA, -reify]
      | vn o hvn => simp at hrun; simp [plc_raw, hre, reify_d, hwk, his, ← hHz, zr, zt, hvl, hv, hve, hni, hnl, hrun, idsA, -reify]
      | row o l cs hc h1 h2 h3 => simp at hrun; simp [plc_raw, hre, reify_d, hwk, his, ← hHz, zr, zt, hvl, hv, hve, hni, hnl, hrun, idsA, -reify]
    · omega
end Go.Proofs.Ytnlmonokkppagaa.Am

/-
  Two schedulers that are alike for the tenant 1, as mathematics and on the objects. No condition.
-/
namespace Go.Proofs.Ytnlmonokkppagaa.Am
open Go Go.Proofs
set_option maxHeartbeats 4000000
set_option maxRecDepth 20000
set_option linter.unusedSimpArgs false
set_option linter.unusedVariables false
/-- Alike for the tenant 1. -/
def Rel (S T : Sc) : Prop := ∃ w n a0 a2 b0 b2 l, S = ⟨w, n, [a0, l, a2]⟩ ∧ T = ⟨w, n, [b0, l, b2]⟩
def one (l : List Rn) : List Rn := l.filter fun x => decide (x.1 = 1)
theorem Rel.add_other {S T : Sc} (h : Rel S T) {t : Int} (ht : t ≠ 1) (id d : Int) : Rel (S.add t id d).1 T := by
  obtain ⟨w, n, a0, a2, b0, b2, l, rfl, rfl⟩ := h
  unfold Sc.add
  split
  · exact ⟨w, n, a0, a2, b0, b2, l, rfl, rfl⟩
  · rename_i hq
    split
    · exact ⟨w, n, a0, a2, b0, b2, l, rfl, rfl⟩
    · split
      · exact ⟨w, n, a0, a2, b0, b2, l, rfl, rfl⟩
      · have h3 : t = 0 ∨ t = 2 := by
          simp only [Sc.isT, not_or, Bool.not_eq_false, Bool.and_eq_true, decide_eq_true_eq, List.length_cons, List.length_nil] at hq
          omega
        rcases h3 with rfl | rfl
        · exact ⟨w, n, _, a2, b0, b2, l, rfl, rfl⟩
        · exact ⟨w, n, a0, _, b0, b2, l, rfl, rfl⟩
theorem Rel.rem_other {S T : Sc} (h : Rel S T) {t : Int} (ht : t ≠ 1) (id : Int) : Rel (S.rem t id).1 T := by
  obtain ⟨w, n, a0, a2, b0, b2, l, rfl, rfl⟩ := h
  unfold Sc.rem
  split
  · exact ⟨w, n, a0, a2, b0, b2, l, rfl, rfl⟩
  · rename_i hq
    split
    · exact ⟨w, n, a0, a2, b0, b2, l, rfl, rfl⟩
    · have h3 : t = 0 ∨ t = 2 := by
        simp only [Sc.isT, Bool.not_eq_false, Bool.and_eq_true, decide_eq_true_eq, List.length_cons, List.length_nil] at hq
        omega
      rcases h3 with rfl | rfl
      · exact ⟨w, n, _, a2, b0, b2, l, rfl, rfl⟩
      · exact ⟨w, n, a0, _, b0, b2, l, rfl, rfl⟩
theorem Rel.add_one {S T : Sc} (h : Rel S T) (id d : Int) : Rel (S.add 1 id d).1 (T.add 1 id d).1 ∧ (S.add 1 id d).2 = (T.add 1 id d).2 := by
  obtain ⟨w, n, a0, a2, b0, b2, l, rfl, rfl⟩ := h
  have e1 : (⟨w, n, [a0, l, a2]⟩ : Sc).line 1 = l := rfl
  have e2 : (⟨w, n, [b0, l, b2]⟩ : Sc).line 1 = l := rfl
  have i1 : (⟨w, n, [a0, l, a2]⟩ : Sc).isT 1 = true := rfl
  have i2 : (⟨w, n, [b0, l, b2]⟩ : Sc).isT 1 = true := rfl
  unfold Sc.add
  rw [e1, e2, i1, i2]
  split
  · exact ⟨⟨w, n, a0, a2, b0, b2, l, rfl, rfl⟩, rfl⟩
  · split
    · exact ⟨⟨w, n, a0, a2, b0, b2, l, rfl, rfl⟩, rfl⟩
    · split
      · exact ⟨⟨w, n, a0, a2, b0, b2, l, rfl, rfl⟩, rfl⟩
      · exact ⟨⟨w, n, a0, a2, b0, b2, _, rfl, rfl⟩, rfl⟩
theorem Rel.rem_one {S T : Sc} (h : Rel S T) (id : Int) : Rel (S.rem 1 id).1 (T.rem 1 id).1 ∧ (S.rem 1 id).2 = (T.rem 1 id).2 := by
  obtain ⟨w, n, a0, a2, b0, b2, l, rfl, rfl⟩ := h
  have e1 : (⟨w, n, [a0, l, a2]⟩ : Sc).line 1 = l := rfl
  have e2 : (⟨w, n, [b0, l, b2]⟩ : Sc).line 1 = l := rfl
  have i1 : (⟨w, n, [a0, l, a2]⟩ : Sc).isT 1 = true := rfl
  have i2 : (⟨w, n, [b0, l, b2]⟩ : Sc).isT 1 = true := rfl
  unfold Sc.rem
  rw [e1, e2, i1, i2]
  simp only [Bool.true_eq_false, if_false]
  cases findQ l id with
  | none => exact ⟨⟨w, n, a0, a2, b0, b2, l, rfl, rfl⟩, rfl⟩
  | some i => exact ⟨⟨w, n, a0, a2, b0, b2, _, rfl, rfl⟩, rfl⟩
theorem Rel.tick {S T : Sc} (h : Rel S T) : Rel S.tick T.tick := by
  obtain ⟨w, n, a0, a2, b0, b2, l, rfl, rfl⟩ := h
  exact ⟨_, _, _, _, _, _, _, rfl, rfl⟩
theorem one_runs (w : Int) (a l c : List Qu) : one (runsOf w 0 [a, l, c]) = runsOf w 1 [l] := by
  cases a <;> cases l <;> cases c <;> simp [one, runsOf]
theorem Rel.runs {S T : Sc} (h : Rel S T) : one S.runs = one T.runs := by
  obtain ⟨w, n, a0, a2, b0, b2, l, rfl, rfl⟩ := h
  simp only [Sc.runs, leftOf', List.map_cons, List.map_nil, one_runs, Sc.next]
theorem one_late (w : Int) (a l c : List Qu) : one (lateOf w 0 [a, l, c]) = lateOf w 1 [l] := by
  have h1 : ∀ (t : Int) (x : List Qu), one (x.map fun q => (t, q.id, (0 : Int))) = if t = 1 then x.map fun q => (t, q.id, (0 : Int)) else [] := fun t x => by
    unfold one
    rw [List.filter_map]
    split
    · rename_i h; subst h; rw [List.filter_eq_self.2 (by simp [Function.comp_def])]
    · rename_i h; simp [Function.comp_def, h]
  have h2 : ∀ a b, one (a ++ b) = one a ++ one b := fun a b => List.filter_append ..
  simp only [lateOf, h2, h1, List.append_nil]
  simp [one]
theorem Rel.late {S T : Sc} (h : Rel S T) : one S.late = one T.late := by
  obtain ⟨w, n, a0, a2, b0, b2, l, rfl, rfl⟩ := h
  simp only [Sc.late, one_late, Sc.next]
theorem Rel.ids {S T : Sc} (h : Rel S T) : S.ids 1 = T.ids 1 := by
  obtain ⟨w, n, a0, a2, b0, b2, l, rfl, rfl⟩ := h
  rfl
theorem Rel.lenL {S T : Sc} (h : Rel S T) : S.lines.length = 3 ∧ T.lines.length = 3 := by
  obtain ⟨w, n, a0, a2, b0, b2, l, rfl, rfl⟩ := h
  exact ⟨rfl, rfl⟩
/-- Two schedulers that have no object in common. -/
structure Two (H : Hp) (N : Nat) (oS oL : Oid) (vs : List AV) (os : List (Option Oid)) (S : Sc) (pS pL : Oid) (us : List AV) (ps : List (Option Oid)) (T : Sc) : Prop where
  a : SchH H N oS oL vs os S
  b : SchH H N pS pL us ps T
  dj : ∀ p, Foot oS oL os p → ¬ Foot pS pL ps p
theorem Did.ofFoot {H : Hp} {nx : Nat} {oS oL : Oid} {os : List (Option Oid)} {S' : Sc} {H' : Hp} {nx' : Nat} {vs' : List AV} {os' : List (Option Oid)} (h : Did H nx oS oL os S' H' nx' vs' os') {p : Oid} (hF : Foot oS oL os' p) : Foot oS oL os p ∨ nx ≤ p.1 := by
  rcases hF with e | e | e
  · exact .inl (.inl e)
  · exact .inl (.inr (.inl e))
  · rcases h.os p e with q | q
    · exact .inl (.inr (.inr q))
    · exact .inr q
variable {H H' : Hp} {N nx nx' : Nat} {oS oL pS pL : Oid} {vs vs' us us' : List AV} {os os' ps ps' : List (Option Oid)} {S S' T T' : Sc}
theorem Two.swap (h : Two H N oS oL vs os S pS pL us ps T) : Two H N pS pL us ps T oS oL vs os S := ⟨h.b, h.a, fun p hp hq => h.dj p hq hp⟩
theorem Two.left (h : Two H N oS oL vs os S pS pL us ps T) (hN : N ≤ nx) (hd : Did H nx oS oL os S' H' nx' vs' os') : Two H' nx' oS oL vs' os' S' pS pL us ps T :=
  ⟨hd.sch, (h.b.keep fun p hp => hd.fr p (Nat.lt_of_lt_of_le (h.b.foot_lt hp) hN) fun hq => h.dj p hq hp).mono (Nat.le_trans hN hd.le), fun p hp hq => by
    rcases hd.ofFoot hp with e | e
    · exact h.dj p e hq
    · have := h.b.foot_lt hq; omega⟩
theorem Two.right (h : Two H N oS oL vs os S pS pL us ps T) (hN : N ≤ nx) (hd : Did H nx pS pL ps T' H' nx' us' ps') : Two H' nx' oS oL vs os S pS pL us' ps' T' :=
  (h.swap.left hN hd).swap
theorem Two.mono (h : Two H N oS oL vs os S pS pL us ps T) {M : Nat} (hN : N ≤ M) : Two H M oS oL vs os S pS pL us ps T := ⟨h.a.mono hN, h.b.mono hN, h.dj⟩
theorem Two.old (h : Two H N oS oL vs os S pS pL us ps T) (hk : ∀ p : Oid, p.1 < N → H' p = H p) : Two H' N oS oL vs os S pS pL us ps T :=
  ⟨h.a.keep fun p hp => hk p (h.a.foot_lt hp), h.b.keep fun p hp => hk p (h.b.foot_lt hp), h.dj⟩
end Go.Proofs.Ytnlmonokkppagaa.Am


/-
  Joined texts: AmK, Am5, Am6, Am7. No condition.
-/
import Derived.Test.YtiafeijkifpfaaaAmPac
import Derived.Laws.StructEq
import Derived.ChangeKeysEq
import Derived.MapKept
/-
 The abstract machine: values that can be compared; keys of maps. No condition.
-/
namespace Go.Proofs.Ytiafeijkifpfaaa.Am
open Go
set_option linter.unusedVariables false
set_option linter.unusedSimpArgs false
def vfit1 : KK → Value → Bool
 | .int k, .int k' _ => decide (k = k')
 | .bool, .bool _ => true
 | .str, .string _ => true
 | _, _ => false
def vfitL : List KK → List Value → Bool
 | [], [] => true
 | k :: r, x :: s => vfit1 k x && vfitL r s
 | _, _ => false
def veq1 : Value → Value → Bool
 | .int _ a, .int _ b => a == b
 | .bool a, .bool b => a == b
 | .string a, .string b => a.toList == b.toList
 | _, _ => false
def veqL : List Value → List Value → Bool
 | [], [] => true
 | x :: r, y :: s => veq1 x y && veqL r s
 | _, _ => false
theorem vfitL_len : ∀ {ks : List KK} {xs : List Value}, vfitL ks xs = true → xs.length = ks.length
 | [], [], _ => rfl
 | _ :: _, _ :: _, h => by simp only [vfitL, Bool.and_eq_true] at h; simp [vfitL_len h.2]
 | [], _ :: _, h => by simp [vfitL] at h
 | _ :: _, [], h => by simp [vfitL] at h
theorem vfitL_append : ∀ {k1 k2 : List KK} {xs : List Value}, vfitL (k1 ++ k2) xs = true → vfitL k1 (xs.take k1.length) = true ∧ vfitL k2 (xs.drop k1.length) = true
 | [], k2, xs, h => by simpa [vfitL] using h
 | k :: k1, k2, [], h => by simp [vfitL] at h
 | k :: k1, k2, x :: xs, h => by
  simp only [List.cons_append, vfitL, Bool.and_eq_true] at h
  have := vfitL_append h.2
  simp [vfitL, h.1, this.1, this.2]
theorem veqL_append : ∀ {a b c d : List Value}, a.length = c.length → veqL (a ++ b) (c ++ d) = (veqL a c && veqL b d)
 | [], b, [], d, _ => by simp [veqL]
 | x :: a, b, y :: c, d, h => by simp [veqL, veqL_append (by simpa using h), Bool.and_assoc]
 | [], _, _ :: _, _, h => by simp at h
 | _ :: _, _, [], _, h => by simp at h
section
variable {P : Program}
def ValOf (P : Program) (t : TypeId) (ks : List KK) (X : Value) (xs : List Value) : Prop :=
 vfitL ks xs = true ∧ ((tagg P t = some true ∧ X = .agg xs.toArray) ∨ (tagg P t = some false ∧ xs = [X]))
def aggD : TypeDesc → Bool
 | .struct _ | .array _ _ => true
 | _ => false
theorem agg_is {t : TypeId} {d : TypeDesc} (h : P.underlying t = some d) : tagg P t = some (aggD d) := by
 unfold tagg; rw [h]; cases d <;> rfl
theorem size_is {t : TypeId} {n : Nat} (h : tsize P t = some n) : ∃ i, P.info? t = some i ∧ i.size = n := by
 simpa [tsize, Option.map_eq_some_iff] using h
theorem shape_one {n : Nat} {t : TypeId} {ks : List KK} (h : shapeAt P n t = some ks) : (tagg P t = some true ∧ tsize P t = some ks.length) ∨ (tagg P t = some false ∧ ks.length = 1) := by
 cases n with
 | zero => cases h
 | succ n =>
  unfold shapeAt at h
  split at h
  ·rename_i hu; cases h; exact .inr ⟨agg_is hu, rfl⟩
  ·rename_i hu; cases h; exact .inr ⟨agg_is hu, rfl⟩
  ·rename_i hu; cases h; exact .inr ⟨agg_is hu, rfl⟩
  ·rename_i hu
   split at h
   ·cases h
   ·simp only [Option.bind_eq_some_iff] at h
    obtain ⟨l, _, ks', _, h⟩ := h
    split at h
    ·rename_i hs; cases h; exact .inl ⟨agg_is hu, hs⟩
    ·cases h
  ·rename_i m e hu
   simp only [Option.bind_eq_some_iff] at h
   obtain ⟨l, _, h⟩ := h
   split at h
   ·rename_i hs; cases h; exact .inl ⟨agg_is hu, by rw [hs.2]; simp⟩
   ·cases h
  ·cases h
theorem part_shape {n : Nat} {t : TypeId} {ks : List KK} (h : shapeAt P n t = some ks) {xs : List Value} {off : Nat} (hf : vfitL ks ((xs.drop off).take ks.length) = true) (w : World) :
  ∃ X, (Go.part t xs.toArray off).run P w = .ok X w ∧ ValOf P t ks X ((xs.drop off).take ks.length) := by
 have hl := vfitL_len hf
 rcases shape_one h with ⟨ha, hs⟩ | ⟨ha, h1⟩
 ·refine ⟨.agg ((xs.drop off).take ks.length).toArray, ?_, hf, .inl ⟨ha, rfl⟩⟩
  unfold Go.part
  simp only [Sem.run_bind, agg_run ha, Result.andThen_ok, if_true, size_run hs, Sem.run_pure]
  congr 2
  apply Array.ext'
  simp
 ·have hl1 : ((xs.drop off).take ks.length).length = 1 := by rw [hl, h1]
  obtain ⟨v, hv⟩ : ∃ v, (xs.drop off).take ks.length = [v] := by
   match (xs.drop off).take ks.length, hl1 with
   | [v], _ => exact ⟨v, rfl⟩
  have hx : xs[off]? = some v := by
   have := congrArg (fun l => l[0]?) hv
   simpa [List.getElem?_take, h1] using this
  refine ⟨v, ?_, by rw [hv] at hf ⊢; exact hf, .inr ⟨ha, hv⟩⟩
  unfold Go.part
  simp only [Sem.run_bind, agg_run ha, Result.andThen_ok, Bool.false_eq_true, if_false, List.getElem?_toArray, hx, Sem.run_pure]
def EqS (P : Program) (m : Nat) (t : TypeId) (ks : List KK) : Prop :=
 ∀ (w : World) (X Y : Value) (xs ys : List Value), ValOf P t ks X xs → ValOf P t ks Y ys → (Op.equalIn m t X Y).run P w = .ok (veqL xs ys) w
theorem tile_spec : ∀ {off : Nat} {l : List (Field × List KK)} {ks : List KK}, tile off l = some ks → ks = (l.map (·.2)).flatten ∧ ∀ p ∈ l, p.1.name ≠ "_"
 | _, [], ks, h => by cases h; simp
 | off, (f, l) :: r, ks, h => by
  simp only [tile] at h
  split at h
  ·rename_i hc
   simp only [Option.map_eq_some_iff] at h
   obtain ⟨ks', h, rfl⟩ := h
   have := tile_spec h
   refine ⟨by simp [this.1], fun p hp => ?_⟩
   rcases List.mem_cons.1 hp with rfl | hp
   ·exact hc.2
   ·exact this.2 p hp
  ·cases h
theorem eq_fields {n d : Nat} (IH : ∀ t ks, shapeAt P n t = some ks → EqS P d t ks) (xs ys : List Value) (w : World) : ∀ (fs : List Field) (l : List (Field × List KK)) (off : Nat) (ks : List KK), zipShape (shapeAt P n) fs = some l → tile off l = some ks →
  vfitL ks (xs.drop off) = true → vfitL ks (ys.drop off) = true → (Op.eqFields d xs.toArray ys.toArray fs).run P w = .ok (veqL (xs.drop off) (ys.drop off)) w
 | [], l, off, ks, h1, h2, h3, h4 => by
  cases h1; cases h2
  have e1 : xs.drop off = [] := by cases h : xs.drop off with | nil => rfl | cons a b => rw [h] at h3; simp [vfitL] at h3
  have e2 : ys.drop off = [] := by cases h : ys.drop off with | nil => rfl | cons a b => rw [h] at h4; simp [vfitL] at h4
  simp [Op.eqFields, e1, e2, veqL]
 | f :: fs, l, off, ks, h1, h2, h3, h4 => by
  simp only [zipShape, Option.bind_eq_some_iff, Option.map_eq_some_iff] at h1
  obtain ⟨kf, hkf, l', hl', rfl⟩ := h1
  simp only [tile] at h2
  split at h2
  ·rename_i hc
   obtain ⟨rfl, hn⟩ := hc
   simp only [Option.map_eq_some_iff] at h2
   obtain ⟨ks', hks, rfl⟩ := h2
   obtain ⟨a1, a2⟩ := vfitL_append h3
   obtain ⟨b1, b2⟩ := vfitL_append h4
   obtain ⟨X, p1, v1⟩ := part_shape hkf a1 w
   obtain ⟨Y, p2, v2⟩ := part_shape hkf b1 w
   have he := IH _ _ hkf w X Y _ _ v1 v2
   have hr := eq_fields IH xs ys w fs l' (f.offset + kf.length) ks' hl' hks (by rw [← List.drop_drop]; exact a2) (by rw [← List.drop_drop]; exact b2)
   have hs : veqL (xs.drop f.offset) (ys.drop f.offset) = (veqL ((xs.drop f.offset).take kf.length) ((ys.drop f.offset).take kf.length) && veqL (xs.drop (f.offset + kf.length)) (ys.drop (f.offset + kf.length))) := by
    rw [← List.drop_drop, ← List.drop_drop, ← veqL_append (by rw [vfitL_len a1, vfitL_len b1]), List.take_append_drop, List.take_append_drop]
   simp only [Op.eqFields, hn, ne_eq, not_false_eq_true, if_true, Sem.run_bind, p1, p2, he, Result.andThen_ok]
   rw [hs]
   cases veqL ((xs.drop f.offset).take kf.length) ((ys.drop f.offset).take kf.length) with
   | true => simpa using hr
   | false => simp
  ·cases h2
theorem replicate_drop_take {l : List KK} {m : Nat} {xs : List Value} (h : vfitL (List.replicate m l).flatten xs = true) (i : Nat) (hi : i < m) : vfitL l ((xs.drop (i * l.length)).take l.length) = true := by
 induction m generalizing xs i with
 | zero => omega
 | succ m ih =>
  rw [List.replicate_succ, List.flatten_cons] at h
  obtain ⟨a, b⟩ := vfitL_append h
  cases i with
  | zero => simpa using a
  | succ i =>
   have := ih b i (by omega)
   rw [List.drop_drop] at this
   rw [show (i + 1) * l.length = l.length + i * l.length by rw [Nat.add_mul]; omega]
   exact this
theorem eq_items {n d : Nat} {e : TypeId} {l : List KK} (hl : shapeAt P n e = some l) (IH : EqS P d e l) (hs : P.cellsOf e = l.length) (xs ys : List Value) (w : World) : ∀ (k m : Nat), (∀ i, m ≤ i → i < m + k → vfitL l ((xs.drop (i * l.length)).take l.length) = true) →
  (∀ i, m ≤ i → i < m + k → vfitL l ((ys.drop (i * l.length)).take l.length) = true) → xs.length = (m + k) * l.length → ys.length = (m + k) * l.length → (Op.eqItems d e (P.cellsOf e) xs.toArray ys.toArray (List.range' m k)).run P w = .ok (veqL (xs.drop (m * l.length)) (ys.drop (m * l.length))) w
 | 0, m, _, _, h1, h2 => by
  rw [List.drop_of_length_le (by simp [h1]), List.drop_of_length_le (by simp [h2])]
  simp [Op.eqItems, veqL]
 | k + 1, m, hx, hy, h1, h2 => by
  have a := hx m (Nat.le_refl _) (by omega)
  have b := hy m (Nat.le_refl _) (by omega)
  obtain ⟨X, p1, v1⟩ := part_shape hl a w
  obtain ⟨Y, p2, v2⟩ := part_shape hl b w
  have he := IH w X Y _ _ v1 v2
  have hr := eq_items hl IH hs xs ys w k (m + 1) (fun i q1 q2 => hx i (by omega) (by omega)) (fun i q1 q2 => hy i (by omega) (by omega)) (by rw [h1]; congr 1; omega) (by rw [h2]; congr 1; omega)
  have e1 : (m + 1) * l.length = m * l.length + l.length := by rw [Nat.add_mul]; omega
  have hs2 : veqL (xs.drop (m * l.length)) (ys.drop (m * l.length)) = (veqL ((xs.drop (m * l.length)).take l.length) ((ys.drop (m * l.length)).take l.length) && veqL (xs.drop ((m + 1) * l.length)) (ys.drop ((m + 1) * l.length))) := by
   rw [e1, ← List.drop_drop, ← List.drop_drop, ← veqL_append (by rw [vfitL_len a, vfitL_len b]), List.take_append_drop, List.take_append_drop]
  rw [List.range'_succ]
  rw [hs] at hr ⊢
  simp only [Op.eqItems, Sem.run_bind, p1, p2, he, Result.andThen_ok]
  rw [hs2]
  cases veqL ((xs.drop (m * l.length)).take l.length) ((ys.drop (m * l.length)).take l.length) with
  | true => simpa using hr
  | false => simp
theorem cellsOf_is {t : TypeId} {n : Nat} (h : tsize P t = some n) : P.cellsOf t = n := by
 obtain ⟨i, hi, rfl⟩ := size_is h
 simp [Program.cellsOf, hi]
theorem eq_shape (d : Nat) : ∀ (n : Nat) (t : TypeId) (ks : List KK), shapeAt P n t = some ks → EqS P (d + n) t ks := by
 intro n
 induction n with
 | zero => intro t ks h; cases h
 | succ n ih =>
  intro t ks h w X Y xs ys hx hy
  obtain ⟨fx, hx⟩ := hx
  obtain ⟨fy, hy⟩ := hy
  have hag := shape_one h
  unfold shapeAt at h
  split at h
  ·rename_i k hu
   cases h
   have ha := agg_is hu
   rcases hx with ⟨q, _⟩ | ⟨_, rfl⟩
   ·rw [ha] at q; cases q
   rcases hy with ⟨q, _⟩ | ⟨_, rfl⟩
   ·rw [ha] at q; cases q
   cases X <;> simp [vfitL, vfit1] at fx
   cases Y <;> simp [vfitL, vfit1] at fy
   subst fx; subst fy
   simp [← Nat.add_assoc, Op.equalIn, und_run hu, veqL, veq1]
  ·rename_i hu
   cases h
   have ha := agg_is hu
   rcases hx with ⟨q, _⟩ | ⟨_, rfl⟩
   ·rw [ha] at q; cases q
   rcases hy with ⟨q, _⟩ | ⟨_, rfl⟩
   ·rw [ha] at q; cases q
   cases X <;> simp [vfitL, vfit1] at fx
   cases Y <;> simp [vfitL, vfit1] at fy
   simp [← Nat.add_assoc, Op.equalIn, und_run hu, veqL, veq1]
  ·rename_i hu
   cases h
   have ha := agg_is hu
   rcases hx with ⟨q, _⟩ | ⟨_, rfl⟩
   ·rw [ha] at q; cases q
   rcases hy with ⟨q, _⟩ | ⟨_, rfl⟩
   ·rw [ha] at q; cases q
   cases X <;> simp [vfitL, vfit1] at fx
   cases Y <;> simp [vfitL, vfit1] at fy
   simp [← Nat.add_assoc, Op.equalIn, und_run hu, veqL, veq1, beq_toListBytes]
  ·rename_i fs hu
   split at h
   ·cases h
   rename_i hst
   simp only [Option.bind_eq_some_iff] at h
   obtain ⟨l, hl, ks', hk, h⟩ := h
   split at h
   ·rename_i hs
    cases h
    have ha := agg_is hu
    rcases hx with ⟨_, rfl⟩ | ⟨q, _⟩
    ·rcases hy with ⟨_, rfl⟩ | ⟨q, _⟩
     ·have hfs : P.fieldsOf t = fs := by simp [Program.fieldsOf, hu]
      rw [← Nat.add_assoc, run_equalIn_struct w (d + n) t _ _ (by rw [hfs]; exact hu) (by simpa using hst), hfs]
      have := eq_fields (d := d + n) ih xs ys w fs.toList l 0 ks hl hk (by simpa using fx) (by simpa using fy)
      simpa using this
     ·rw [ha] at q; cases q
    ·rw [ha] at q; cases q
   ·cases h
  ·rename_i m e hu
   simp only [Option.bind_eq_some_iff] at h
   obtain ⟨l, hl, h⟩ := h
   split at h
   ·rename_i hs
    cases h
    have ha := agg_is hu
    rcases hx with ⟨_, rfl⟩ | ⟨q, _⟩
    ·rcases hy with ⟨_, rfl⟩ | ⟨q, _⟩
     ·obtain ⟨i, hi, _⟩ := size_is hs.1
      rw [← Nat.add_assoc, run_equalIn_array w (d + n) _ _ hu hi]
      have := eq_items hl (ih e l hl) (cellsOf_is hs.1) xs ys w m 0 (fun i _ q => replicate_drop_take fx i (by omega)) (fun i _ q => replicate_drop_take fy i (by omega)) (by rw [vfitL_len fx]; simp) (by rw [vfitL_len fy]; simp)
      simpa [List.range_eq_range'] using this
     ·rw [ha] at q; cases q
    ·rw [ha] at q; cases q
   ·cases h
  ·cases h
theorem check_shape (em : Bool) (d : Nat) : ∀ (n : Nat) (t : TypeId) (ks : List KK), shapeAt P n t = some ks → ∀ (w : World) (X : Value) (xs : List Value), ValOf P t ks X xs → (Instr.checkKey em (d + n) t X).run P w = .ok () w := by
 intro n
 induction n with
 | zero => intro t ks h; cases h
 | succ n ih =>
  intro t ks h w X xs hx
  obtain ⟨fx, hx⟩ := hx
  unfold shapeAt at h
  split at h
  ·rename_i k hu
   cases X <;> simp [← Nat.add_assoc, Instr.checkKey, und_run hu]
  ·rename_i hu
   cases X <;> simp [← Nat.add_assoc, Instr.checkKey, und_run hu]
  ·rename_i hu
   cases X <;> simp [← Nat.add_assoc, Instr.checkKey, und_run hu]
  ·rename_i fs hu
   split at h
   ·cases h
   simp only [Option.bind_eq_some_iff] at h
   obtain ⟨l, hl, ks', hk, h⟩ := h
   split at h
   ·rename_i hsz
    cases h
    rcases hx with ⟨_, rfl⟩ | ⟨q, _⟩
    ·rw [← Nat.add_assoc, Instr.checkKey]
     simp only [Sem.run_bind, und_run hu, Result.andThen_ok]
     rw [← Array.forIn_toList]
     have h3 : vfitL ks (xs.drop 0) = true := by simpa using fx
     revert hl hk h3
     generalize fs.toList = fl
     generalize 0 = off
     clear hu
     clear hsz fx
     induction fl generalizing l off ks with
     | nil => intro _ _ _; simp
     | cons f fl ihf =>
      intro h1 h2 h3
      simp only [zipShape, Option.bind_eq_some_iff, Option.map_eq_some_iff] at h1
      obtain ⟨kf, hkf, l', hl', rfl⟩ := h1
      simp only [tile] at h2
      split at h2
      ·rename_i hc
       obtain ⟨rfl, hn⟩ := hc
       simp only [Option.map_eq_some_iff] at h2
       obtain ⟨ks', hks, rfl⟩ := h2
       obtain ⟨a1, a2⟩ := vfitL_append h3
       obtain ⟨Z, p1, v1⟩ := part_shape hkf a1 w
       have p2 := ih _ _ hkf w Z _ v1
       simp only [List.forIn_cons, Sem.run_bind, Sem.run_ite, hn, ne_eq, not_false_eq_true, if_true, p1, p2, Result.andThen_ok, Sem.run_pure]
       have z : vfitL ks' (xs.drop (f.offset + kf.length)) = true := by rw [← List.drop_drop]; exact a2
       exact ihf ks' l' (f.offset + kf.length) hl' hks z
      ·cases h2
    ·rw [agg_is hu] at q; cases q
   ·cases h
  ·rename_i m e hu
   simp only [Option.bind_eq_some_iff] at h
   obtain ⟨l, hl, h⟩ := h
   split at h
   ·rename_i hs
    cases h
    rcases hx with ⟨_, rfl⟩ | ⟨q, _⟩
    ·rw [← Nat.add_assoc, Instr.checkKey]
     simp only [Sem.run_bind, und_run hu, Result.andThen_ok]
     simp only [Std.Legacy.Range.forIn_eq_forIn_range', Std.Legacy.Range.size, Nat.sub_zero, Nat.add_one_sub_one, Nat.div_one]
     have each : ∀ i ∈ List.range' 0 m, vfitL l ((xs.drop (i * l.length)).take l.length) = true := fun i hi => replicate_drop_take fx i (by simp at hi; omega)
     generalize List.range' 0 m = is at each
     induction is with
     | nil => simp
     | cons j is ihj =>
      obtain ⟨Z, p1, v1⟩ := part_shape hl (each j (by simp)) w
      have p2 := ih _ _ hl w Z _ v1
      simp only [List.forIn_cons, Sem.run_bind, size_run hs.1, Result.andThen_ok, p1, p2, Sem.run_pure]
      exact ihj fun i hi => each i (by simp [hi])
    ·rw [agg_is hu] at q; cases q
   ·cases h
  ·cases h
theorem vOf1_fit {k : KK} {x : D} (h : fit1 k x = true) : ∃ v, vOf1 x = some v ∧ vfit1 k v = true := by
 cases k <;> cases x <;> simp_all [fit1, vOf1, vfit1]
theorem vOfL_fit : ∀ {ks : List KK} {cs : List D}, fitL ks cs = true → ∃ vs, vOfL cs = some vs ∧ vfitL ks vs = true
 | [], [], _ => ⟨[], rfl, rfl⟩
 | k :: ks, x :: cs, h => by
  simp only [fitL, Bool.and_eq_true] at h
  obtain ⟨v, h1, h2⟩ := vOf1_fit h.1
  obtain ⟨vs, h3, h4⟩ := vOfL_fit h.2
  exact ⟨v :: vs, by simp [vOfL, h1, h3], by simp [vfitL, h2, h4]⟩
 | [], _ :: _, h => by simp [fitL] at h
 | _ :: _, [], h => by simp [fitL] at h
theorem tshape_some {t : TypeId} {sh : Shape} (h : tshape P t = some sh) : tagg P t = some sh.1 ∧ shapeAt P 9 t = some sh.2 := by
 simp only [tshape, Option.bind_eq_bind, Option.bind_eq_some_iff] at h
 obtain ⟨a, ha, l, hl, h⟩ := h
 cases h
 exact ⟨ha, hl⟩
theorem key_val {t : TypeId} {sh : Shape} (h : tshape P t = some sh) {x : D} (hf : fitD sh x = true) : ∃ V vs, vOf x = some V ∧ ValOf P t sh.2 V vs ∧ ((sh.1 = true ∧ ∃ cs, x = .agg cs ∧ vOfL cs = some vs) ∨ (sh.1 = false ∧ vs = [V] ∧ vOf1 x = some V)) := by
 obtain ⟨ha, hl⟩ := tshape_some h
 obtain ⟨b, ks⟩ := sh
 cases b with
 | true =>
  cases x <;> simp only [fitD, Bool.false_eq_true] at hf
  rename_i cs
  obtain ⟨vs, h1, h2⟩ := vOfL_fit hf
  exact ⟨.agg vs.toArray, vs, by simp [vOf, h1], ⟨h2, .inl ⟨ha, rfl⟩⟩, .inl ⟨rfl, cs, rfl, h1⟩⟩
 | false =>
  match ks, hf with
  | [k], hf =>
   obtain ⟨v, h1, h2⟩ := vOf1_fit hf
   refine ⟨v, [v], ?_, ⟨by simp [vfitL, h2], .inr ⟨ha, rfl⟩⟩, .inr ⟨rfl, rfl, h1⟩⟩
   cases x <;> first | exact h1 | simp [vOf1] at h1
  | [], hf => simp [fitD] at hf
  | _ :: _ :: _, hf => simp [fitD] at hf
theorem vOf1_rep {F : Nat → Prop} {w : World} {x : D} {v u : Value} (h : vOf1 x = some v) (hr : RepD F w x u) : u = v := by
 cases x <;> simp [vOf1] at h <;> subst h <;> cases hr <;> rfl
theorem vOf_rep {F : Nat → Prop} {w : World} {x : D} {v u : Value} (h : vOf x = some v) (hr : RepD F w x u) : u = v := by
 cases x with
 | agg cs =>
  simp only [vOf, Option.map_eq_some_iff] at h
  obtain ⟨vs, h, rfl⟩ := h
  cases hr with
  | agg _ arr hn h1 hr =>
   congr 1
   have key : ∀ (cs : List D) (vs us : List Value), us.length = cs.length → (∀ j x, cs[j]? = some x → RepD F w x (us.getD j undef)) → vOfL cs = some vs → us = vs := by
    intro cs
    induction cs with
    | nil => intro vs us hl _ h; cases h; exact List.eq_nil_of_length_eq_zero hl
    | cons x cs ih =>
     intro vs us hl hr h
     cases us with
     | nil => simp at hl
     | cons u us =>
      simp only [vOfL, Option.bind_eq_some_iff, Option.map_eq_some_iff] at h
      obtain ⟨v, hv, vs', hvs, rfl⟩ := h
      have e1 := vOf1_rep hv (by simpa using hr 0 x rfl)
      have e2 := ih vs' us (by simpa using hl) (fun j y hy => by simpa using hr (j + 1) y (by simpa using hy)) hvs
      rw [e1, e2]
   apply Array.ext'
   have := key cs vs arr.toList (by simpa using hn) (fun j y hy => by simpa using hr j y hy) h
   simpa using this
 | _ => exact vOf1_rep (by simpa [vOf] using h) hr
theorem eq1_val {k : KK} {x y : D} {v u : Value} (hx : fit1 k x = true) (hy : fit1 k y = true) (h1 : vOf1 x = some v) (h2 : vOf1 y = some u) : veq1 v u = eq1 x y := by
 cases k <;> cases x <;> simp [fit1] at hx <;> cases y <;> simp [fit1] at hy <;> (cases h1; cases h2; rfl)
theorem eqL_val : ∀ {ks : List KK} {cs ds : List D} {vs us : List Value}, fitL ks cs = true → fitL ks ds = true → vOfL cs = some vs → vOfL ds = some us → veqL vs us = eqL cs ds
 | [], [], [], _, _, _, _, h1, h2 => by cases h1; cases h2; rfl
 | k :: ks, x :: cs, y :: ds, vs, us, hx, hy, h1, h2 => by
  simp only [fitL, Bool.and_eq_true] at hx hy
  simp only [vOfL, Option.bind_eq_some_iff, Option.map_eq_some_iff] at h1 h2
  obtain ⟨v, hv, vs', hvs, rfl⟩ := h1
  obtain ⟨u, hu, us', hus, rfl⟩ := h2
  simp only [veqL, eqL, eq1_val hx.1 hy.1 hv hu, eqL_val hx.2 hy.2 hvs hus]
 | [], _ :: _, _, _, _, h, _, _, _ => by simp [fitL] at h
 | [], [], _ :: _, _, _, _, h, _, _ => by simp [fitL] at h
 | _ :: _, [], _, _, _, h, _, _, _ => by simp [fitL] at h
 | _ :: _, _ :: _, [], _, _, _, h, _, _ => by simp [fitL] at h
theorem equal_key {t : TypeId} {sh : Shape} (h : tshape P t = some sh) {x y : D} (hx : fitD sh x = true) (hy : fitD sh y = true) {V U : Value} (h1 : vOf x = some V) (h2 : vOf y = some U) (w : World) : (Op.equal t V U).run P w = .ok (eqD x y) w := by
 obtain ⟨V', vs, e1, q1, c1⟩ := key_val h hx
 obtain ⟨U', us, e2, q2, c2⟩ := key_val h hy
 rw [h1] at e1; cases e1
 rw [h2] at e2; cases e2
 have := eq_shape 9991 9 t sh.2 (tshape_some h).2 w V U vs us q1 q2
 rw [show Op.equal t V U = Op.equalIn (9991 + 9) t V U from rfl, this]
 congr 1
 obtain ⟨b, ks⟩ := sh
 rcases c1 with ⟨hb, cs, rfl, k1⟩ | ⟨hb, rfl, k1⟩
 ·rcases c2 with ⟨hb2, ds, rfl, k2⟩ | ⟨hb2, _, _⟩
  ·simp only at hb; subst hb
   exact eqL_val hx hy k1 k2
  ·rw [hb] at hb2; cases hb2
 ·rcases c2 with ⟨hb2, _⟩ | ⟨_, rfl, k2⟩
  ·rw [hb] at hb2; cases hb2
  ·simp only at hb; subst hb
   match ks, hx, hy with
   | [k], hx, hy =>
    have e := eq1_val hx hy k1 k2
    have : eqD x y = eq1 x y := by cases x <;> first | rfl | (simp [vOf1] at k1)
    simp [veqL, this, e]
   | [], hx, _ => simp [fitD] at hx
   | _ :: _ :: _, hx, _ => simp [fitD] at hx
def KeysOk (sh : Shape) (es : List (D × AV × Nat)) (es' : List MapEntry) : Prop :=
 es'.length = es.length ∧ ∀ (j : Nat) (k : D) (v : AV) (n : Nat), es[j]? = some (k, v, n) → fitD sh k = true ∧ ∃ e, es'[j]? = some e ∧ vOf k = some e.key
theorem KeysOk.tail {sh : Shape} {p : D × AV × Nat} {es : List (D × AV × Nat)} {e : MapEntry} {es' : List MapEntry} (h : KeysOk sh (p :: es) (e :: es')) : KeysOk sh es es' :=
 ⟨by simpa using h.1, fun j k v n hj => by simpa using h.2 (j + 1) k v n (by simpa using hj)⟩
def found (es' : List MapEntry) (i : Nat) : Option (Nat × AV × Nat) → Option (Nat × Value)
 | none => none
 | some (j, _, _) => (es'[j - i]?).map fun e => (j, e.val)
theorem findK_ge : ∀ {x : D} {es : List (D × AV × Nat)} {i j : Nat} {v : AV} {n : Nat}, findK x es i = some (j, v, n) → i ≤ j ∧ ∃ k, es[j - i]? = some (k, v, n)
 | x, (k, v, n) :: r, i, j, v', n', h => by
  simp only [findK] at h
  split at h
  ·cases h; exact ⟨Nat.le_refl _, k, by simp⟩
  ·obtain ⟨h1, k', h2⟩ := findK_ge h
   refine ⟨by omega, k', ?_⟩
   rw [show j - i = (j - (i + 1)) + 1 by omega]
   simpa using h2
theorem findAsking_ok {t : TypeId} {sh : Shape} (h : tshape P t = some sh) {x : D} (hx : fitD sh x = true) {V : Value} (hV : vOf x = some V) (w : World) : ∀ (es : List (D × AV × Nat)) (es' : List MapEntry) (i : Nat), KeysOk sh es es' →
  (Instr.findAsking t V es' i).run P w = .ok (found es' i (findK x es i)) w
 | [], es', i, hk => by
  obtain rfl := List.eq_nil_of_length_eq_zero hk.1
  simp [Instr.findAsking, findK, found]
 | (k, v, n) :: es, [], i, hk => by simp [KeysOk] at hk
 | (k, v, n) :: es, e :: es', i, hk => by
  obtain ⟨hf, e0, he0, hv0⟩ := hk.2 0 k v n rfl
  simp only [List.getElem?_cons_zero, Option.some.injEq] at he0
  subst he0
  simp only [Instr.findAsking, Sem.run_bind, equal_key h hx hf hV hv0, Result.andThen_ok, findK]
  by_cases hq : eqD x k = true
  ·simp [hq, found]
  ·have hq : eqD x k = false := by simpa using hq
   simp only [hq, Bool.false_eq_true, if_false]
   rw [findAsking_ok h hx hV w es es' (i + 1) hk.tail]
   congr 1
   cases hr : findK x es (i + 1) with
   | none => rfl
   | some q =>
    obtain ⟨j, v', n'⟩ := q
    obtain ⟨hj, _⟩ := findK_ge hr
    simp only [found]
    rw [show j - i = (j - (i + 1)) + 1 by omega, List.getElem?_cons_succ]
theorem findNow_ok {t : TypeId} {sh : Shape} (h : tshape P t = some sh) {d : TypeDesc} (hd : P.underlying t = some d) {x : D} (hx : fitD sh x = true) {V : Value} (hV : vOf x = some V) : ∀ (es : List (D × AV × Nat)) (es' : List MapEntry) (i : Nat), KeysOk sh es es' →
  Instr.findNow d V es' i = none ∨ Instr.findNow d V es' i = some (found es' i (findK x es i))
 | [], es', i, hk => by
  obtain rfl := List.eq_nil_of_length_eq_zero hk.1
  exact .inr rfl
 | (k, v, n) :: es, [], i, hk => by simp [KeysOk] at hk
 | (k, v, n) :: es, e :: es', i, hk => by
  obtain ⟨hf, e0, he0, hv0⟩ := hk.2 0 k v n rfl
  simp only [List.getElem?_cons_zero, Option.some.injEq] at he0
  subst he0
  have hs : Instr.sameNow d V e.key = none ∨ Instr.sameNow d V e.key = some (eqD x k) := by
   have agg : ∀ (d : TypeDesc) (vs : Array Value) (U : Value), Instr.sameNow d (.agg vs) U = none ∧ Instr.sameNow d U (.agg vs) = none := fun d vs U => by cases d <;> first | exact ⟨rfl, rfl⟩ | (cases U <;> exact ⟨rfl, rfl⟩)
   cases x with
   | agg cs => simp only [vOf, Option.map_eq_some_iff] at hV; obtain ⟨vs, _, e0⟩ := hV; rw [← e0]; exact .inl (agg _ _ _).1
   | int k1 n1 =>
    cases hV
    cases k with
    | agg cs => simp only [vOf, Option.map_eq_some_iff] at hv0; obtain ⟨vs, _, e0⟩ := hv0; rw [← e0]; exact .inl (agg _ _ _).2
    | _ => simp [vOf, vOf1] at hv0 <;> rw [← hv0] <;> cases d <;> simp [Instr.sameNow, eqD, eq1]
    <;> exact (Decidable.em _).symm
   | bool b1 =>
    cases hV
    cases k with
    | agg cs => simp only [vOf, Option.map_eq_some_iff] at hv0; obtain ⟨vs, _, e0⟩ := hv0; rw [← e0]; exact .inl (agg _ _ _).2
    | _ => simp [vOf, vOf1] at hv0 <;> rw [← hv0] <;> cases d <;> simp [Instr.sameNow, eqD, eq1]
   | str b1 =>
    cases hV
    cases k with
    | agg cs => simp only [vOf, Option.map_eq_some_iff] at hv0; obtain ⟨vs, _, e0⟩ := hv0; rw [← e0]; exact .inl (agg _ _ _).2
    | _ => simp [vOf, vOf1] at hv0 <;> rw [← hv0] <;> cases d <;> simp [Instr.sameNow, eqD, eq1, beq_toListBytes]
   | _ => simp [vOf, vOf1] at hV
  rcases hs with hs | hs
  ·exact .inl (by simp [Instr.findNow, hs])
  ·simp only [Instr.findNow, hs, findK]
   by_cases hq : eqD x k = true
   ·simp [hq, found]
   ·have hq : eqD x k = false := by simpa using hq
    simp only [hq, Bool.false_eq_true, if_false]
    rcases findNow_ok h hd hx hV es es' (i + 1) hk.tail with hr | hr
    ·exact .inl hr
    ·refine .inr ?_
     rw [hr]
     congr 1
     cases hr : findK x es (i + 1) with
     | none => rfl
     | some q =>
      obtain ⟨j, v', n'⟩ := q
      obtain ⟨hj, _⟩ := findK_ge hr
      simp only [found]
      rw [show j - i = (j - (i + 1)) + 1 by omega, List.getElem?_cons_succ]
theorem findKey_ok {t : TypeId} {sh : Shape} (h : tshape P t = some sh) {x : D} (hx : fitD sh x = true) {V : Value} (hV : vOf x = some V) (w : World) {es : List (D × AV × Nat)} {es' : List MapEntry} (hk : KeysOk sh es es') :
  (Instr.findKey t V es').run P w = .ok (found es' 0 (findK x es 0)) w := by
 obtain ⟨d, hd⟩ : ∃ d, P.underlying t = some d := by
  have := (tshape_some h).1
  unfold tagg at this
  cases hu : P.underlying t with
  | none => rw [hu] at this; cases this
  | some d => exact ⟨d, rfl⟩
 simp only [Instr.findKey, Sem.run_bind, und_run hd, Result.andThen_ok]
 rcases findNow_ok h hd hx hV es es' 0 hk with hr | hr
 ·rw [hr]; exact findAsking_ok h hx hV w es es' 0 hk
 ·rw [hr]; rfl
theorem checkKey_ok {t : TypeId} {sh : Shape} (h : tshape P t = some sh) {x : D} (hx : fitD sh x = true) {V : Value} (hV : vOf x = some V) (em : Bool) (w : World) : (Instr.checkKey em 10000 t V).run P w = .ok () w := by
 obtain ⟨V', vs, e1, q1, c1⟩ := key_val h hx
 rw [hV] at e1; cases e1
 exact check_shape em 9991 9 t sh.2 (tshape_some h).2 w V vs q1
theorem eqD_same {sh : Shape} {x y : D} (hx : fitD sh x = true) (hy : fitD sh y = true) (he : eqD x y = true) {V U : Value} (h1 : vOf x = some V) (h2 : vOf y = some U) : V = U := by
 have one : ∀ {k : KK} {x y : D} {V U : Value}, fit1 k x = true → fit1 k y = true → eq1 x y = true → vOf1 x = some V → vOf1 y = some U → V = U := by
  intro k x y V U hx hy he h1 h2
  cases k <;> cases x <;> simp [fit1] at hx <;> cases y <;> simp [fit1] at hy <;> simp [eq1] at he <;> cases h1 <;> cases h2
  ·subst hx; subst hy; rw [he]
  ·rw [he]
  ·rename_i a b
   have : a = b := by
    rw [← MapKept.bytes_beq, beq_toListBytes]; simpa using he
   rw [this]
 have lst : ∀ (ks : List KK) (cs ds : List D) (vs us : List Value), fitL ks cs = true → fitL ks ds = true → eqL cs ds = true → vOfL cs = some vs → vOfL ds = some us → vs = us := by
  intro ks
  induction ks with
  | nil => intro cs ds vs us h1 h2 _ h3 h4; cases cs <;> simp [fitL] at h1; cases ds <;> simp [fitL] at h2; cases h3; cases h4; rfl
  | cons k ks ih =>
   intro cs ds vs us h1 h2 h3 h4 h5
   cases cs <;> simp only [fitL, Bool.false_eq_true, Bool.and_eq_true] at h1
   cases ds <;> simp only [fitL, Bool.false_eq_true, Bool.and_eq_true] at h2
   simp only [eqL, Bool.and_eq_true] at h3
   simp only [vOfL, Option.bind_eq_some_iff, Option.map_eq_some_iff] at h4 h5
   obtain ⟨v, hv, vs', hvs, rfl⟩ := h4
   obtain ⟨u, hu, us', hus, rfl⟩ := h5
   rw [one h1.1 h2.1 h3.1 hv hu, ih _ _ _ _ h1.2 h2.2 h3.2 hvs hus]
 obtain ⟨b, ks⟩ := sh
 cases b with
 | true =>
  cases x <;> simp only [fitD, Bool.false_eq_true] at hx
  cases y <;> simp only [fitD, Bool.false_eq_true] at hy
  simp only [vOf, Option.map_eq_some_iff] at h1 h2
  obtain ⟨vs, h1, rfl⟩ := h1
  obtain ⟨us, h2, rfl⟩ := h2
  rw [lst _ _ _ _ _ hx hy he h1 h2]
 | false =>
  match ks, hx, hy with
  | [k], hx, hy =>
   have hx1 : fit1 k x = true := hx
   have hy1 : fit1 k y = true := hy
   have he1 : eq1 x y = true := by cases x <;> first | exact he | (cases k <;> cases hx1)
   have v1 : vOf1 x = some V := by cases x <;> first | exact h1 | (cases k <;> cases hx1)
   have v2 : vOf1 y = some U := by cases y <;> first | exact h2 | (cases k <;> cases hy1)
   exact one hx1 hy1 he1 v1 v2
  | [], hx, _ => simp [fitD] at hx
  | _ :: _ :: _, hx, _ => simp [fitD] at hx
theorem sameBits_vals : ∀ {ks : List KK} {xs : List Value}, vfitL ks xs = true → ∀ n, (xs.zip xs).all (fun p => Instr.sameBits n p.1 p.2) = true := by
 intro ks xs h n
 induction ks generalizing xs with
 | nil => cases xs <;> simp_all [vfitL]
 | cons k ks ih =>
  cases xs with
  | nil => simp
  | cons x xs =>
   simp only [vfitL, Bool.and_eq_true] at h
   simp only [List.zip_cons_cons, List.all_cons, Bool.and_eq_true]
   refine ⟨?_, ih h.2⟩
   cases k <;> cases x <;> simp [vfit1] at h <;> simp [Instr.sameBits, MapKept.bytes_beq]
theorem keyStays_ok {t : TypeId} {sh : Shape} (h : tshape P t = some sh) {x : D} (hx : fitD sh x = true) {V : Value} (hV : vOf x = some V) (w : World) : (Instr.keyThatStays V V).run P w = .ok V w := by
 obtain ⟨V', vs, e1, q1, c1⟩ := key_val h hx
 rw [hV] at e1; cases e1
 have : Instr.sameBits 10000 V V = true := by
  obtain ⟨q, hq⟩ := q1
  rcases hq with ⟨_, rfl⟩ | ⟨_, rfl⟩
  ·have := sameBits_vals q 9999
   simp only [Instr.sameBits, beq_self_eq_true, Bool.true_and]
   simpa using this
  ·have := sameBits_vals q 10000
   simpa using this
 simp [Instr.keyThatStays, this]
end
end Go.Proofs.Ytiafeijkifpfaaa.Am

/-
 The abstract machine: its operations on values are the machine's, one by one. No condition.
-/
namespace Go.Proofs.Ytiafeijkifpfaaa.Am
open Go
section
variable {P : Program} {C : Cx}
theorem elem_und {t e : TypeId} (h : telem P t = some e) : P.underlying t = some (.slice e) := by
 unfold telem at h
 split at h
 ·rename_i e' he; cases h; exact he
 ·cases h
theorem field_und {t : TypeId} {i off : Nat} {ft : TypeId} (h : tfield P t i = some (off, ft)) : ∃ fs f, P.underlying t = some (.struct fs) ∧ fs[i]? = some f ∧ f.offset = off ∧ f.type = ft := by
 unfold tfield at h
 split at h
 ·rename_i fs hfs
  simp only [Option.map_eq_some_iff, Prod.mk.injEq] at h
  obtain ⟨f, hf, h1, h2⟩ := h
  exact ⟨fs, f, hfs, hf, h1, h2⟩
 ·cases h
def sc : D → Value
 | .int k n => .int k n
 | .bool b => .bool b
 | .str s => .string s
 | _ => undef
theorem intOp_sim {op : BinOp} {k : IntKind} {a b : Int} {r : D} {t : TypeId} (h : intOp op k a b = some r) (w : World) (F : Nat → Prop) :
  (binOp op t (.int k a) (.int k b)).run P w = .ok (sc r) w ∧ RepD F w r (sc r) := by
 cases op <;> simp only [intOp, Option.some.injEq, reduceCtorEq] at h
 case quo =>
  split at h
  ·cases h
  ·rename_i hb; cases h; exact ⟨by simp [binOp, Op.intDiv, hb, sc], .int _ _⟩
 case rem =>
  split at h
  ·cases h
  ·rename_i hb; cases h; exact ⟨by simp [binOp, Op.intDiv, hb, sc], .int _ _⟩
 all_goals
  subst h
  refine ⟨by simp [binOp, Op.intArith, Op.intCmp, sc], ?_⟩
  first | exact .int _ _ | exact .bool _
theorem shiftD_sim {op : BinOp} {k k' : IntKind} {a b : Int} {r : D} {t : TypeId} (h : shiftD op k a b = some r) (w : World) (F : Nat → Prop) :
  (binOp op t (.int k a) (.int k' b)).run P w = .ok (sc r) w ∧ RepD F w r (sc r) := by
 unfold shiftD at h
 split at h
 ·cases h
 ·rename_i hb
  cases op <;> simp only [Option.some.injEq, reduceCtorEq] at h
  all_goals
   subst h
   exact ⟨by simp [binOp, Op.shift, hb, sc], .int _ _⟩
theorem strOp_sim {op : BinOp} {a b : ByteArray} {r : D} {t : TypeId} (h : strOp op a b = some r) (w : World) (F : Nat → Prop) :
  (binOp op t (.string a) (.string b)).run P w = .ok (sc r) w ∧ RepD F w r (sc r) := by
 cases op <;> simp only [strOp, Option.some.injEq, reduceCtorEq] at h
 case add =>
  split at h
  ·rename_i hb
   cases h
   have : ¬ (((a.size + b.size : Nat) : Int) > IntKind.i64.max) := by
    show ¬ _ > (9223372036854775807 : Int)
    omega
   refine ⟨?_, .str _⟩
   simp only [binOp, Op.stringOp, if_neg this, sc]
   rfl
  ·cases h
 all_goals
  subst h
  exact ⟨by simp [binOp, Op.stringOp, sc], .bool _⟩
theorem eqGuard_run {op : BinOp} {t : TypeId} {x y : Operand} {u v : Value} (hu : ∀ cs, u ≠ .agg cs) (hn : u ≠ .nilIface) (w : World) : (eqGuard op t x y u v).run P w = .ok () w := by
 cases u <;> first | exact absurd rfl hn | exact absurd rfl (hu _) | (cases op <;> rfl)
theorem kind_und {t : TypeId} {d : TypeDesc} (h : P.underlying t = some d) : P.underlying t = some d := h
theorem eqB_sim {op : BinOp} {t : TypeId} {x y : Operand} {u v : Value} {b : Bool} {r : AV} {w : World} (hr : eqB op b = some r) (hu : ∀ cs, u ≠ .agg cs) (hn : u ≠ .nilIface)
  (hs : ∀ k n, u ≠ .int k n) (hst : ∀ s, u ≠ .string s) (hf : ∀ k n, u ≠ .float k n) (hcx : ∀ k n m, u ≠ .complex k n m) (h : (Op.equal t u v).run P w = .ok b w) :
  ∃ z, (do eqGuard op t x y u v; binOp op t u v : Sem Value).run P w = .ok z w ∧ ∀ C : Cx, Rep C r z := by
 cases op <;> simp only [eqB, Option.some.injEq, reduceCtorEq] at hr
 all_goals
  subst hr
  refine ⟨.bool _, ?_, fun C => .d _ _ (.bool _)⟩
  rw [Sem.run_bind, eqGuard_run hu hn, Result.andThen_ok]
  cases u <;> first | exact absurd rfl (hs _ _) | exact absurd rfl (hst _) | exact absurd rfl (hf _ _) | exact absurd rfl (hcx _ _ _) | (simp [binOp, h])
theorem equalIn_bool (d : Nat) {t : TypeId} {a b : Bool} (ht : P.underlying t = some .bool) (w : World) : (Op.equalIn (d + 1) t (.bool a) (.bool b)).run P w = .ok (a == b) w := by
 simp [Op.equalIn, und_run ht]
theorem equalIn_ptr1 (d : Nat) {t e : TypeId} {a : Option Addr} (ht : P.underlying t = some (.pointer e)) (w : World) : (Op.equalIn (d + 1) t (.pointer none) (.pointer a)).run P w = .ok a.isNone w := by
 simp [Op.equalIn, und_run ht]
theorem equalIn_ptr2 (d : Nat) {t e : TypeId} {a : Addr} (ht : P.underlying t = some (.pointer e)) (w : World) : (Op.equalIn (d + 1) t (.pointer (some a)) (.pointer none)).run P w = .ok false w := by
 simp [Op.equalIn, und_run ht]
theorem equalIn_fn (d : Nat) {t : TypeId} {x y z} {f c1 c2} (ht : P.underlying t = some (.func x y z)) (w : World) : (Op.equalIn (d + 1) t (.func f c1 c2) .nilFunc).run P w = .ok false w := by
 simp [Op.equalIn, und_run ht]
theorem binD_sim {op : BinOp} {X Y r : AV} {x y : Operand} {u v : Value} {t : TypeId} (h : binD P op t X Y = some r) (hu : Rep C X u) (hv : Rep C Y v) :
  ∃ z, (do eqGuard op t x y u v; binOp op t u v : Sem Value).run P C.w = .ok z C.w ∧ Rep C r z := by
 unfold binD at h
 split at h
 ·rename_i k a k' b
  split at h
  ·simp only [Option.map_eq_some_iff] at h
   obtain ⟨d, hd, rfl⟩ := h
   cases hu.dinv
   cases hv.dinv
   obtain ⟨hz, hr⟩ := shiftD_sim (P := P) (t := t) (k' := k') hd C.w C.F
   refine ⟨_, ?_, .d _ _ hr⟩
   rw [Sem.run_bind, eqGuard_run (by simp) (by simp), Result.andThen_ok, hz]
  split at h
  ·rename_i hk
   subst hk
   simp only [Option.map_eq_some_iff] at h
   obtain ⟨d, hd, rfl⟩ := h
   cases hu.dinv
   cases hv.dinv
   obtain ⟨hz, hr⟩ := intOp_sim (P := P) (t := t) hd C.w C.F
   refine ⟨_, ?_, .d _ _ hr⟩
   rw [Sem.run_bind, eqGuard_run (by simp) (by simp), Result.andThen_ok, hz]
  ·cases h
 ·rename_i a b
  simp only [Option.map_eq_some_iff] at h
  obtain ⟨d, hd, rfl⟩ := h
  cases hu.dinv
  cases hv.dinv
  obtain ⟨hz, hr⟩ := strOp_sim (P := P) (t := t) hd C.w C.F
  refine ⟨_, ?_, .d _ _ hr⟩
  rw [Sem.run_bind, eqGuard_run (by simp) (by simp), Result.andThen_ok, hz]
 ·split at h
  ·rename_i a b hk
   cases hu.dinv
   cases hv.dinv
   have ht : P.underlying t = some .bool := by unfold tkind at hk; split at hk <;> first | assumption | cases hk
   obtain ⟨z, hz, hr⟩ := eqB_sim (P := P) (t := t) (x := x) (y := y) (u := .bool a) (v := .bool b) (w := C.w) h (by simp) (by simp) (by simp) (by simp) (by simp) (by simp)
    (equalIn_bool 9999 ht C.w)
   exact ⟨z, hz, hr C⟩
  ·cases h
 ·split at h
  ·rename_i hk
   cases hv.dinv
   cases hu
   have ht : ∃ e, P.underlying t = some (.pointer e) := by unfold tkind at hk; split at hk <;> first | exact ⟨_, by assumption⟩ | cases hk
   obtain ⟨e, ht⟩ := ht
   obtain ⟨z, hz, hr⟩ := eqB_sim (P := P) (t := t) (x := x) (y := y) (u := .pointer (some _)) (v := .pointer none) (w := C.w) h (by simp) (by simp) (by simp) (by simp) (by simp) (by simp)
    (equalIn_ptr2 9999 ht C.w)
   exact ⟨z, hz, hr C⟩
  ·cases h
 ·split at h
  ·rename_i hk
   cases hu.dinv
   cases hv
   have ht : ∃ e, P.underlying t = some (.pointer e) := by unfold tkind at hk; split at hk <;> first | exact ⟨_, by assumption⟩ | cases hk
   obtain ⟨e, ht⟩ := ht
   obtain ⟨z, hz, hr⟩ := eqB_sim (P := P) (t := t) (x := x) (y := y) (u := .pointer none) (v := .pointer (some _)) (w := C.w) h (by simp) (by simp) (by simp) (by simp) (by simp) (by simp)
    (equalIn_ptr1 9999 ht C.w)
   exact ⟨z, hz, hr C⟩
  ·cases h
 ·split at h
  ·rename_i hk
   cases hu.dinv
   cases hv.dinv
   have ht : ∃ e, P.underlying t = some (.pointer e) := by unfold tkind at hk; split at hk <;> first | exact ⟨_, by assumption⟩ | cases hk
   obtain ⟨e, ht⟩ := ht
   obtain ⟨z, hz, hr⟩ := eqB_sim (P := P) (t := t) (x := x) (y := y) (u := .pointer none) (v := .pointer none) (w := C.w) h (by simp) (by simp) (by simp) (by simp) (by simp) (by simp)
    (equalIn_ptr1 9999 ht C.w)
   exact ⟨z, hz, hr C⟩
  ·cases h
 ·split at h
  ·rename_i hk
   cases hv.dinv
   cases hu.dinv
   have ht : ∃ e, P.underlying t = some (.pointer e) := by unfold tkind at hk; split at hk <;> first | exact ⟨_, by assumption⟩ | cases hk
   obtain ⟨e, ht⟩ := ht
   obtain ⟨z, hz, hr⟩ := eqB_sim (P := P) (t := t) (x := x) (y := y) (u := .pointer (some _)) (v := .pointer none) (w := C.w) h (by simp) (by simp) (by simp) (by simp) (by simp) (by simp)
    (equalIn_ptr2 9999 ht C.w)
   exact ⟨z, hz, hr C⟩
  ·cases h
 ·split at h
  ·rename_i hk
   cases hv.dinv
   have ht : ∃ a b c, P.underlying t = some (.func a b c) := by unfold tkind at hk; split at hk <;> first | exact ⟨_, _, _, by assumption⟩ | cases hk
   obtain ⟨e1, e2, e3, ht⟩ := ht
   cases hu <;>
   obtain ⟨z, hz, hr⟩ := eqB_sim (P := P) (t := t) (x := x) (y := y) (u := .func _ _ _) (v := .nilFunc) (w := C.w) h (by simp) (by simp) (by simp) (by simp) (by simp) (by simp)
    (equalIn_fn 9999 ht C.w) <;>
   exact ⟨z, hz, hr C⟩
  ·cases h
 ·split at h
  ·rename_i a b _ l hsh
   split at h
   ·rename_i hc
    simp only [Bool.and_eq_true, Bool.not_eq_true'] at hc
    obtain ⟨⟨hfa, hfb⟩, hg⟩ := hc
    have q1 : fitD (true, l) (.agg a) = true := hfa
    have q2 : fitD (true, l) (.agg b) = true := hfb
    have ru := hu.dinv
    have rv := hv.dinv
    obtain ⟨V, _, e1, _, _⟩ := key_val hsh q1
    obtain ⟨U, _, e2, _, _⟩ := key_val hsh q2
    obtain rfl := vOf_rep e1 ru
    obtain rfl := vOf_rep e2 rv
    have he := equal_key hsh q1 q2 e1 e2 C.w
    cases ru with
    | agg _ xs _ _ _ =>
     cases rv with
     | agg _ ys _ _ _ =>
      have he' : (Op.equalIn 10000 t (.agg xs) (.agg ys)).run P C.w = .ok (eqL a b) C.w := he
      cases op <;> simp only [eqB, Option.some.injEq, reduceCtorEq] at h
      ·subst h
       refine ⟨.bool (eqL a b), ?_, .d _ _ (.bool _)⟩
       rw [Sem.run_bind, run_eqGuard_agg _ _ _ _ _ _ _ hg, Result.andThen_ok, run_eql_struct, he', Result.andThen_ok]
      ·subst h
       refine ⟨.bool (!(eqL a b)), ?_, .d _ _ (.bool _)⟩
       rw [Sem.run_bind, run_eqGuard_agg _ _ _ _ _ _ _ hg, Result.andThen_ok, run_neq_struct, he', Result.andThen_ok]
   ·cases h
  ·cases h
 ·cases h
theorem unD_sim {op : UnOp} {X r : AV} {u : Value} (h : unD op X = some r) (hu : Rep C X u) : ∃ z, (Op.unary op u).run P C.w = .ok z C.w ∧ Rep C r z := by
 unfold unD at h
 split at h
 ·cases hu.dinv
  cases h
  exact ⟨_, by simp only [Op.unary, Op.intArith]; rfl, .d _ _ (.int _ _)⟩
 ·cases hu.dinv
  cases h
  exact ⟨_, by simp only [Op.unary]; rfl, .d _ _ (.bool _)⟩
 ·cases h
end
end Go.Proofs.Ytiafeijkifpfaaa.Am

/-
 The abstract machine: its operations on values are the machine's (parts, fields, pieces). No condition.
-/
namespace Go.Proofs.Ytiafeijkifpfaaa.Am
open Go
theorem add_add (a : Addr) (m j : Nat) : (a.add m).add j = a.add (m + j) := by
 unfold Addr.add
 by_cases h : j = 0
 ·subst h; simp
 ·by_cases h2 : m = 0
  ·subst h2; simp
  ·rw [if_neg h, if_neg h2, if_neg (by omega)]
   simp; omega
section
variable {P : Program} {C : Cx}
theorem CellsOk.get {cs : List AV} {arr : Array Value} (h : CellsOk C cs arr) {j : Nat} {x : AV} (hx : cs[j]? = some x) : ∃ v, arr[j]? = some v ∧ Rep C x v := by
 have hl : j < arr.size := by rw [h.1]; exact (List.getElem?_eq_some_iff.1 hx).1
 have := h.2.2 j x hx
 rw [Array.getD_eq_getD_getElem?, Array.getElem?_eq_getElem hl] at this
 exact ⟨arr[j], Array.getElem?_eq_getElem hl, this⟩
theorem vals_get {cs : List AV} {arr : Array Value} (h : arr.size = cs.length ∧ ∀ j x, cs[j]? = some x → Rep C x (arr.getD j undef)) {j : Nat} {x : AV} (hx : cs[j]? = some x) : ∃ v, arr[j]? = some v ∧ Rep C x v := by
 have hl : j < arr.size := by rw [h.1]; exact (List.getElem?_eq_some_iff.1 hx).1
 have := h.2 j x hx
 rw [Array.getD_eq_getD_getElem?, Array.getElem?_eq_getElem hl] at this
 exact ⟨arr[j], Array.getElem?_eq_getElem hl, this⟩
theorem CellsOk.window {cs : List AV} {arr : Array Value} (h : CellsOk C cs arr) {off n : Nat} (hl : off + n ≤ cs.length) : CellsOk C ((cs.drop off).take n) (arr.extract off (off + n)) := by
 refine ⟨by simp [h.1]; omega, fun j hj => ?_, fun j x hx => ?_⟩
 ·have hs := h.1
  simp at hj
  have := h.2.1 (off + j) (by omega)
  rw [Array.getD_eq_getD_getElem?] at this ⊢
  rw [Array.getElem?_extract, if_pos (by omega)]
  exact this
 rw [List.getElem?_take] at hx
 split at hx
 ·rename_i hj
  rw [List.getElem?_drop] at hx
  obtain ⟨v, hv, hr⟩ := h.get hx
  rw [Array.getD_eq_getD_getElem?, Array.getElem?_extract, if_pos (by rw [h.1]; omega), hv]
  exact hr
 ·cases hx
theorem part_sim {t : TypeId} {cs : List AV} {arr : Array Value} {off : Nat} {x : AV} (h : part P t cs off = some x) (hc : CellsOk C cs arr) :
  ∃ z, (Go.part t arr off).run P C.w = .ok z C.w ∧ Rep C x z := by
 unfold part at h
 split at h
 ·rename_i ha
  simp only [Option.bind_eq_bind, Option.bind_eq_some_iff] at h
  obtain ⟨n, hn, h⟩ := h
  split at h
  ·rename_i hl
   cases h
   exact ⟨.agg (arr.extract off (off + n)), by simp [Go.part, agg_run ha, size_run hn], mkAgg_rep (hc.window hl)⟩
  ·cases h
 ·rename_i ha
  obtain ⟨v, hv, hr⟩ := hc.get h
  exact ⟨v, by simp [Go.part, agg_run ha, hv], hr⟩
 ·cases h
theorem allD_map (cs : List D) : allD (cs.map .d) = some cs := by
 induction cs with
 | nil => rfl
 | cons x r ih => simp [allD, ih]
theorem dpart_part {t : TypeId} {cs : List D} {off : Nat} {x : D} (h : dpart P t cs off = some x) : part P t (cs.map .d) off = some (.d x) := by
 unfold dpart at h
 unfold part
 split at h
 ·rename_i ha
  simp only [Option.bind_eq_bind, Option.bind_eq_some_iff] at h ⊢
  obtain ⟨n, hn, h⟩ := h
  refine ⟨n, hn, ?_⟩
  split at h
  ·rename_i hl
   cases h
   rw [if_pos (by simpa using hl), ← List.map_drop, ← List.map_take]
   unfold mkAgg
   rw [allD_map]
  ·cases h
 ·simp [h]
 ·cases h
theorem mapD_ok {cs : List D} {arr : Array Value} (hn : arr.size = cs.length) (h1 : ∀ j, j < arr.size → (arr.getD j undef).oneCell' = true) (hr : ∀ j x, cs[j]? = some x → RepD C.F C.w x (arr.getD j undef)) : CellsOk C (cs.map .d) arr := by
 refine ⟨by simpa using hn, h1, fun j y hy => ?_⟩
 simp only [List.getElem?_map, Option.map_eq_some_iff] at hy
 obtain ⟨z, hz, rfl⟩ := hy
 exact .d _ _ (hr j z hz)
theorem fieldD_sim {t : TypeId} {X r : AV} {i : Nat} {u : Value} (h : fieldD P t X i = some r) (hu : Rep C X u) : ∃ z, (Instr.field t u i).run P C.w = .ok z C.w ∧ Rep C r z := by
 unfold fieldD at h
 simp only [Option.bind_eq_bind, Option.bind_eq_some_iff] at h
 obtain ⟨⟨off, ft⟩, hf, h⟩ := h
 obtain ⟨fs, f, hu1, hf1, rfl, rfl⟩ := field_und hf
 split at h
 ·rename_i cs
  simp only [Option.map_eq_some_iff] at h
  obtain ⟨x, hx, rfl⟩ := h
  cases hu.dinv with
  | agg _ arr hn h1 hr =>
   obtain ⟨z, hz, hr⟩ := part_sim (dpart_part hx) (mapD_ok hn h1 hr)
   exact ⟨z, by simp [Instr.field, und_run hu1, hf1, asAgg, hz], hr⟩
 ·rename_i cs
  cases hu with
  | agg _ arr hn h1 hr =>
   obtain ⟨z, hz, hr⟩ := part_sim h ⟨hn, h1, hr⟩
   exact ⟨z, by simp [Instr.field, und_run hu1, hf1, asAgg, hz], hr⟩
 ·cases h
theorem fieldPtr_sim {t : TypeId} {X r : AV} {i : Nat} {u : Value} (h : fieldPtr P t X i = some r) (hu : Rep C X u) : ∃ z, (Instr.fieldAt t u i).run P C.w = .ok z C.w ∧ Rep C r z := by
 unfold fieldPtr at h
 simp only [Option.bind_eq_bind, Option.bind_eq_some_iff] at h
 obtain ⟨⟨off, ft⟩, hf, n, hn, h⟩ := h
 obtain ⟨fs, f, hu1, hf1, rfl, rfl⟩ := field_und hf
 split at h
 ·cases h
 ·rename_i h0
  have hplace : ∀ a : Addr, (fieldPlace a f).run P C.w = .ok (a.add f.offset) C.w := fun a => by simp [fieldPlace, size_run hn, h0]
  split at h
  ·cases h
   cases hu with
   | ptr o k ver a hU hv hs =>
    refine ⟨.pointer (some (a.add f.offset)), by simp [Instr.fieldAt, und_run hu1, hf1, Instr.sureAddr, hplace], .ptr _ _ _ _ hU hv fun x hx e => ?_⟩
    obtain ⟨b, S, hb, rfl⟩ := hs x hx e
    refine ⟨b, S, hb, ?_⟩
    unfold Addr.add
    split
    ·rename_i h0; simp [h0]
    ·rfl
  ·rename_i cs
   split at h
   ·rename_i hl
    cases h
    cases hu.dinv with
    | dptr _ ad vs h1 hr hF hc =>
     refine ⟨.pointer (some (ad.add f.offset)), by simp [Instr.fieldAt, und_run hu1, hf1, Instr.sureAddr, hplace], .d _ _ (.dptr _ _ (fun j => vs (f.offset + j)) (fun j hj => h1 _ (by simp at hj; omega)) (fun j x hx => ?_) (by rw [add_block]; exact hF) (fun j hj => ?_))⟩
     ·rw [List.getElem?_drop] at hx; exact hr _ _ hx
     ·rw [add_add]; simp at hj; exact hc _ (by omega)
   ·cases h
  ·cases h
theorem tup1_sim {X r : AV} {i : Nat} {u : Value} (h : tup1 X i = some r) (hu : Rep C X u) : ∃ z, (Instr.extract u i).run P C.w = .ok z C.w ∧ Rep C r z := by
 unfold tup1 at h
 split at h
 ·simp only [Option.map_eq_some_iff] at h
  obtain ⟨x, hx, rfl⟩ := h
  cases hu.dinv with
  | tup _ arr hn hr =>
   obtain ⟨v, hv, hr⟩ := getD_cells hn hr _ _ hx
   exact ⟨v, by simp [Instr.extract, hv], .d _ _ hr⟩
 ·cases hu with
  | tup _ arr hn hr =>
   obtain ⟨v, hv, hr⟩ := vals_get ⟨hn, hr⟩ h
   exact ⟨v, by simp [Instr.extract, hv], hr⟩
 ·cases h
theorem lenD_sim {t ty : TypeId} {ts : Array TypeId} {X : AV} {d : D} {u : Value} (h : lenD P t X = some d) (ht : ts[0]? = some t) (hu : Rep C X u) : ∃ z, (Builtin.len_ ts ty #[u]).run P C.w = .ok z C.w ∧ Rep C (.d d) z := by
 have hk : ∀ k, tkind P t = k → (k = 3 → ∃ e, P.underlying t = some (.slice e)) ∧ (k = 7 → P.underlying t = some .string) ∧ (k = 4 → ∃ a b, P.underlying t = some (.map a b)) := by
  intro k hk
  unfold tkind at hk
  split at hk <;> subst hk <;> simp_all
 unfold lenD at h
 split at h
 ·split at h
  ·rename_i h3
   cases h
   obtain ⟨e, he⟩ := (hk _ h3).1 rfl
   cases hu.dinv
   exact ⟨_, by simp only [Builtin.len_, List.getElem?_toArray, ht, List.getElem?_cons_zero, Sem.run_bind, und_run he, Result.andThen_ok, goInt, Sem.run_pure], .d _ _ (.int _ _)⟩
  ·cases h
 ·split at h
  ·rename_i h3
   cases h
   have he := (hk _ h3).2.1 rfl
   cases hu.dinv
   exact ⟨_, by simp only [Builtin.len_, List.getElem?_toArray, ht, List.getElem?_cons_zero, Sem.run_bind, und_run he, Result.andThen_ok, goInt, Sem.run_pure], .d _ _ (.int _ _)⟩
  ·cases h
 ·split at h
  ·rename_i h3
   cases h
   obtain ⟨a, b, he⟩ := (hk _ h3).2.2 rfl
   cases hu.dinv
   exact ⟨_, by simp only [Builtin.len_, List.getElem?_toArray, ht, List.getElem?_cons_zero, Sem.run_bind, und_run he, Result.andThen_ok, goInt, Sem.run_pure], .d _ _ (.int _ _)⟩
  ·cases h
 ·split at h
  ·rename_i h3
   cases h
   obtain ⟨e, he⟩ := (hk _ h3).1 rfl
   cases hu
   exact ⟨_, by simp only [Builtin.len_, List.getElem?_toArray, ht, List.getElem?_cons_zero, Sem.run_bind, und_run he, Result.andThen_ok, goInt, Sem.run_pure], .d _ _ (.int _ _)⟩
  ·cases h
 ·split at h
  ·rename_i h3
   cases h
   obtain ⟨e, he⟩ := (hk _ h3).1 rfl
   cases hu
   exact ⟨_, by simp only [Builtin.len_, List.getElem?_toArray, ht, List.getElem?_cons_zero, Sem.run_bind, und_run he, Result.andThen_ok, goInt, Sem.run_pure], .d _ _ (.int _ _)⟩
  ·cases h
 ·cases h
theorem minmax_sim {mx : Bool} {Xs : List AV} {r : AV} {us : Array Value} {ts : Array TypeId} {ty : TypeId} (h : minmax mx Xs = some r) (hu : us.size = Xs.length ∧ ∀ j x, Xs[j]? = some x → Rep C x (us.getD j undef)) :
  ∃ z, ((if mx then Builtin.max_ ts ty us else Builtin.min_ ts ty us).run P C.w = .ok z C.w) ∧ Rep C r z := by
 unfold minmax at h
 split at h
 ·rename_i k a k' b
  split at h
  ·rename_i hk
   subst hk
   cases h
   obtain ⟨h1, h2⟩ := hu
   obtain ⟨v0, e0, r0⟩ := vals_get ⟨h1, h2⟩ (j := 0) rfl
   obtain ⟨v1, e1, r1⟩ := vals_get ⟨h1, h2⟩ (j := 1) rfl
   cases r0.dinv
   cases r1.dinv
   have : us = #[.int k a, .int k b] := by
    apply Array.ext_getElem?
    intro i
    match i with
    | 0 => simpa using e0
    | 1 => simpa using e1
    | i + 2 => rw [Array.getElem?_eq_none (by rw [h1]; simp), Array.getElem?_eq_none (by simp)]
   subst this
   cases mx
   ·exact ⟨.int k (if b < a then b else a), by simp [Builtin.min_, Builtin.min2], .d _ _ (.int _ _)⟩
   ·exact ⟨.int k (if b > a then b else a), by simp [Builtin.max_, Builtin.max2], .d _ _ (.int _ _)⟩
  ·cases h
 ·cases h
theorem foldl_set (off : Nat) (l : List Value) : ∀ (i : Nat) (arr : Array Value),
  (((l.zipIdx i).foldl (fun cs (c, j) => cs.setIfInBounds (off + j) c) arr).size = arr.size) ∧
  ∀ k, ((l.zipIdx i).foldl (fun cs (c, j) => cs.setIfInBounds (off + j) c) arr)[k]? = if off + i ≤ k ∧ k < off + i + l.length ∧ k < arr.size then l[k - (off + i)]? else arr[k]? := by
 induction l with
 | nil => intro i arr; simp; intro k h1 h2; omega
 | cons v r ih =>
  intro i arr
  obtain ⟨h1, h2⟩ := ih (i + 1) (arr.setIfInBounds (off + i) v)
  simp only [List.zipIdx_cons, List.foldl_cons]
  refine ⟨by rw [h1]; simp, fun k => ?_⟩
  rw [h2 k]
  simp only [Array.size_setIfInBounds, List.length_cons, Array.getElem?_setIfInBounds]
  by_cases e : k = off + i
  ·subst e
   by_cases hs : off + i < arr.size
   ·rw [if_neg (by omega), if_pos rfl, if_pos (by omega), if_pos (by omega)]; simp
   ·rw [if_neg (by omega), if_pos rfl, if_neg (by omega), if_neg (by omega), Array.getElem?_eq_none (by omega)]
  ·by_cases hc : off + (i + 1) ≤ k ∧ k < off + (i + 1) + r.length ∧ k < arr.size
   ·rw [if_pos hc, if_pos (by omega)]
    have : k - (off + i) = (k - (off + (i + 1))) + 1 := by omega
    rw [this, List.getElem?_cons_succ]
   ·rw [if_neg hc, if_neg (by omega), if_neg (by omega)]
theorem splice_length (l : List AV) (off : Nat) (xs : List AV) (h : off + xs.length ≤ l.length) : (splice l off xs).length = l.length := by simp [splice]; omega
theorem splice_get (l : List AV) (off : Nat) (xs : List AV) (h : off + xs.length ≤ l.length) (k : Nat) : (splice l off xs)[k]? = if off ≤ k ∧ k < off + xs.length then xs[k - off]? else l[k]? := by
 unfold splice
 by_cases h1 : k < off
 ·rw [if_neg (by omega), List.append_assoc, List.getElem?_append_left (by simp; omega), List.getElem?_take, if_pos h1]
 ·by_cases h2 : k < off + xs.length
  ·rw [if_pos (by omega), List.getElem?_append_left (by simp; omega), List.getElem?_append_right (by simp; omega)]
   congr 1
   simp; omega
  ·rw [if_neg (by omega), List.getElem?_append_right (by simp; omega), List.getElem?_drop]
   congr 1
   simp; omega
theorem CellsOk.splice {cs xs : List AV} {arr : Array Value} {v : Array Value} (h : CellsOk C cs arr) (hx : CellsOk C xs v) {off : Nat} (hl : off + xs.length ≤ cs.length)
  {arr' : Array Value} (hs : arr'.size = arr.size) (hg : ∀ k, arr'[k]? = if off ≤ k ∧ k < off + v.size ∧ k < arr.size then v[k - off]? else arr[k]?) : CellsOk C (Am.splice cs off xs) arr' := by
 refine ⟨by rw [hs, h.1, splice_length _ _ _ hl], fun j hj => ?_, fun j x hj => ?_⟩
 ·have hvs := hx.1
  have has := h.1
  rw [Array.getD_eq_getD_getElem?, hg j]
  split
  ·rename_i hc
   have := hx.2.1 (j - off) (by omega)
   rwa [Array.getD_eq_getD_getElem?] at this
  ·have := h.2.1 j (by omega)
   rwa [Array.getD_eq_getD_getElem?] at this
 rw [splice_get _ _ _ hl] at hj
 rw [Array.getD_eq_getD_getElem?, hg j]
 have hvs := hx.1
 have has := h.1
 split at hj
 ·rename_i hc
  obtain ⟨u, hu, hr⟩ := hx.get hj
  rw [if_pos (by omega), hu]
  exact hr
 ·rename_i hc
  obtain ⟨u, hu, hr⟩ := h.get hj
  rw [if_neg (by omega), hu]
  exact hr
theorem fillC_sim {place : Nat → Option (Nat × Nat)} : ∀ {ps : List (Nat × AV)} {us : List (Nat × Value)} {cs r : List AV} {arr : Array Value}, fillC place cs ps = some r → CellsOk C cs arr →
  us.length = ps.length → (∀ (j : Nat) (p : Nat × AV), ps[j]? = some p → ∃ u, us[j]? = some (p.1, u) ∧ Rep C p.2 u) → ∃ arr', Instr.fill place arr us = some arr' ∧ CellsOk C r arr' := by
 intro ps
 induction ps with
 | nil =>
  intro us cs r arr h hc hn _
  cases us with
  | nil => cases h; exact ⟨arr, rfl, hc⟩
  | cons => simp at hn
 | cons p ps ih =>
  intro us cs r arr h hc hn hu
  cases us with
  | nil => simp at hn
  | cons q us =>
   obtain ⟨i, X⟩ := p
   obtain ⟨u, hq, hr⟩ := hu 0 (i, X) rfl
   simp only [List.getElem?_cons_zero, Option.some.injEq] at hq
   subst hq
   simp only [fillC, Option.bind_eq_bind, Option.bind_eq_some_iff] at h
   obtain ⟨⟨off, n⟩, hp, h⟩ := h
   split at h
   ·rename_i hcond
    obtain ⟨e1, e2, e3⟩ := hcond
    replace hr : Rep C X u := hr
    have ht : isTup X = false := by
     cases X with
     | d x => cases x <;> first | rfl | (simp [cellsOf] at e1; omega)
     | _ => first | rfl | (simp [cellsOf] at e1; omega)
    have hX := cellsOf_ok hr ht
    obtain ⟨f1, f2⟩ := foldl_set off u.cells.toList 0 arr
    have hc' := hc.splice hX (off := off) (by omega) (arr' := (u.cells.toList.zipIdx 0).foldl (fun cs (c, j) => cs.setIfInBounds (off + j) c) arr) f1 (fun k => by rw [f2 k]; simp)
    obtain ⟨arr', ha, hr'⟩ := ih h hc' (by simpa using hn) (fun j p hj => hu (j + 1) p (by simpa using hj))
    refine ⟨arr', ?_, hr'⟩
    have hsz := hX.1
    have hsz2 := hc.1
    simp only [Instr.fill, hp]
    rw [if_neg (by simp only [Bool.or_eq_true, decide_eq_true_eq, not_or]; constructor <;> omega)]
    rw [← Array.toList_zipIdx, Array.foldl_toList] at ha
    exact ha
   ·cases h
theorem zero_run {t : TypeId} {z : List AV} (h : zeroCells P t = some z) (w : World) : ∃ v, (zeroValue t).run P w = .ok v w ∧ z = v.cells.toList.map liftV ∧ (∀ u ∈ v.cells.toList, u.oneCell' = true) := by
 unfold zeroCells at h
 simp only [Option.bind_eq_bind, Option.bind_eq_some_iff] at h
 obtain ⟨i, hi, v, hv, h⟩ := h
 split at h
 ·rename_i hall
  cases h
  exact ⟨v, by simp [zeroValue, typeInfo, hi, hv], rfl, fun u hu => List.all_eq_true.1 hall u hu⟩
 ·cases h
theorem lift_ok (arr : Array Value) (h1 : ∀ u ∈ arr.toList, u.oneCell' = true) : CellsOk C (arr.toList.map liftV) arr := by
 refine ⟨by simp, fun j hj => ?_, fun j x hx => ?_⟩
 ·rw [Array.getD_eq_getD_getElem?, Array.getElem?_eq_getElem hj]
  exact h1 _ (by simp)
 simp only [List.getElem?_map, Option.map_eq_some_iff, Array.getElem?_toList] at hx
 obtain ⟨v, hv, rfl⟩ := hx
 rw [Array.getD_eq_getD_getElem?, hv]
 exact liftV_rep C v
theorem mapM_places {fs : List Field} {pl : List (Nat × Nat)} (h : fs.mapM (fun f => (tsize P f.type).map (f.offset, ·)) = some pl) (w : World) :
  (fs.mapM (fun f => do pure (f.offset, ← sizeOf f.type)) : Sem (List (Nat × Nat))).run P w = .ok pl w := by
 induction fs generalizing pl with
 | nil => simp at h; subst h; rfl
 | cons f r ih =>
  simp only [List.mapM_cons, Option.bind_eq_bind, Option.bind_eq_some_iff, Option.map_eq_some_iff] at h
  obtain ⟨p, ⟨n, hn, rfl⟩, l, hl, h⟩ := h
  cases h
  simp only [List.mapM_cons, Sem.run_bind, size_run hn, Result.andThen_ok, Sem.run_pure, ih hl]
theorem buildD_sim {t : TypeId} {ps : List (Nat × AV)} {us : Array (Nat × Value)} {r : AV} (h : buildD P t ps = some r) (hn : us.size = ps.length)
  (hu : ∀ (j : Nat) (p : Nat × AV), ps[j]? = some p → ∃ u, us[j]? = some (p.1, u) ∧ Rep C p.2 u) : ∃ z, (Instr.build t us).run P C.w = .ok z C.w ∧ Rep C r z := by
 unfold buildD at h
 simp only [Option.bind_eq_bind, Option.bind_eq_some_iff] at h
 obtain ⟨pl, hpl, z, hz, cs, hcs, h⟩ := h
 cases h
 obtain ⟨v, hv, rfl, hz1⟩ := zero_run hz C.w
 unfold tplaces at hpl
 split at hpl
 ·rename_i fs hfs
  obtain ⟨arr', ha, hr⟩ := fillC_sim hcs (lift_ok (C := C) v.cells hz1) (us := us.toList) (by simpa using hn) (fun j p hj => by simpa using hu j p hj)
  have hm : (fs.mapM (fun f => do pure (f.offset, ← sizeOf f.type)) : Sem (Array (Nat × Nat))).run P C.w = .ok pl.toArray C.w := by
   rw [Array.mapM_eq_mapM_toList]
   simp only [Sem.run_map, mapM_places hpl, Result.andThen_ok]
  refine ⟨.agg arr', ?_, mkAgg_rep hr⟩
  have hpe : (fun i : Nat => (pl.toArray)[i]?) = fun i => pl[i]? := by funext i; simp
  simp only [Instr.build, Sem.run_bind, hv, Result.andThen_ok, und_run hfs, hm, hpe, ha, Sem.run_pure]
 ·cases hpl
end
end Go.Proofs.Ytiafeijkifpfaaa.Am

/-
 The abstract machine: an operation that touches no object is the machine's. No condition.
-/
namespace Go.Proofs.Ytiafeijkifpfaaa.Am
open Go
section
variable {P : Program} {C : Cx}
theorem args_ok {tm : List AV} {a : Act} (hT : TmOk C tm a) (args : List Operand) : (args.toArray.map a.eval).size = (args.map (ev tm)).length ∧ ∀ j x, (args.map (ev tm))[j]? = some x → Rep C x ((args.toArray.map a.eval).getD j undef) := by
 refine ⟨by simp, fun j x hx => ?_⟩
 simp only [List.getElem?_map, Option.map_eq_some_iff] at hx
 obtain ⟨y, hy, rfl⟩ := hx
 have : (args.toArray.map a.eval).getD j undef = a.eval y := by simp [hy]
 rw [this]
 exact hT.ev y
theorem args1 {tm : List AV} {a : Act} (hT : TmOk C tm a) {args : Array Operand} {x : AV} (h : args.toList.map (ev tm) = [x]) : ∃ u, args.map a.eval = #[u] ∧ Rep C x u := by
 obtain ⟨l⟩ := args
 match l, h with
 | [y], h =>
  simp only [List.map_cons, List.map_nil, List.cons.injEq, and_true] at h
  subst h
  exact ⟨a.eval y, by simp, hT.ev y⟩
theorem args2 {tm : List AV} {a : Act} (hT : TmOk C tm a) {args : Array Operand} {x y : AV} (h : args.toList.map (ev tm) = [x, y]) : ∃ u v, args.map a.eval = #[u, v] ∧ Rep C x u ∧ Rep C y v := by
 obtain ⟨l⟩ := args
 match l, h with
 | [p, q], h =>
  simp only [List.map_cons, List.map_nil, List.cons.injEq, and_true] at h
  obtain ⟨rfl, rfl⟩ := h
  exact ⟨a.eval p, a.eval q, by simp, hT.ev p, hT.ev q⟩
theorem val_sim {tm : List AV} {a : Act} {op : Op} {r : AV} (hT : TmOk C tm a) (h : valOp P (ev tm) op = some r) (o : Oper) (ho : o.op = op) :
  ∃ z, (execOp a.eval o).run P C.w = .ok (.value z) C.w ∧ Rep C r z := by
 subst ho
 unfold valOp at h
 unfold execOp
 split at h
 ·rename_i x ho; cases h; rw [ho]; exact ⟨_, rfl, hT.ev x⟩
 ·rename_i x ho; cases h; rw [ho]; exact ⟨_, rfl, hT.ev x⟩
 ·rename_i c x y ho
  rw [ho]
  split at h
  ·rename_i t ht
   cases h
   have hc := hT.ev c
   rw [ht] at hc
   have := hc.dinv
   generalize hv : a.eval c = v at this
   cases this
   refine ⟨if t then a.eval x else a.eval y, ?_, ?_⟩
   ·simp [hv, asBool]
   ·cases t
    ·exact hT.ev y
    ·exact hT.ev x
  ·cases h
 ·rename_i x ho
  rw [ho]
  have hx := hT.ev x
  split at h
  ·rename_i ho2; cases h; rw [ho2] at hx; generalize hv : a.eval x = v at hx; cases hx with
   | ptr _ _ _ ad hU hv2 hs => exact ⟨_, by simp [hv], .ptr _ _ _ ad hU hv2 hs⟩
  ·rename_i ho2; cases h; rw [ho2] at hx; generalize hv : a.eval x = v at hx; cases hx.dinv with
   | dptr cs ad vs h1 hr hF hc => exact ⟨_, by simp [hv], .d _ _ (.dptr _ ad vs h1 hr hF hc)⟩
  ·rename_i ho2; cases h; rw [ho2] at hx; generalize hv : a.eval x = v at hx; cases hx.dinv with
   | fn _ hlt _ arr hn hr => exact ⟨_, by simp [hv], .d _ _ (.fn _ hlt _ arr hn hr)⟩
   | bnd _ _ hlt hg _ arr hn hr => exact ⟨_, by simp [hv], .d _ _ (.bnd _ _ hlt hg _ arr hn hr)⟩
  ·rename_i ho2; cases h; rw [ho2] at hx; generalize hv : a.eval x = v at hx; cases hx with
   | fn _ hlt _ arr hn hr => exact ⟨_, by simp [hv], .fn _ hlt _ arr hn hr⟩
   | bnd _ _ hlt hg _ arr hn hr => exact ⟨_, by simp [hv], .bnd _ _ hlt hg _ arr hn hr⟩
  ·cases h
 ·rename_i op t x y yt ho
  rw [ho]
  obtain ⟨z, hz, hr⟩ := binD_sim (x := x) (y := y) h (hT.ev x) (hT.ev y)
  exact ⟨z, by simp only [Sem.run_bind, hz, Result.andThen_ok, Sem.run_pure], hr⟩
 ·rename_i op t x ho
  rw [ho]
  obtain ⟨z, hz, hr⟩ := unD_sim (P := P) h (hT.ev x)
  exact ⟨z, by simp only [Sem.run_bind, hz, Result.andThen_ok, Sem.run_pure], hr⟩
 ·rename_i s t x ho
  rw [ho]
  have hx := hT.ev x
  split at h
  ·rename_i k n hx2
   rw [hx2] at hx
   have hd := hx.dinv
   generalize hv : a.eval x = v at hd
   cases hd
   split at h
   ·rename_i hk
    simp only [Option.map_eq_some_iff] at h
    obtain ⟨k2, hk2, rfl⟩ := h
    have ht : P.underlying t = some (.int k2) := by unfold tint at hk2; split at hk2 <;> first | (cases hk2; assumption) | cases hk2
    have hs : ∃ q, P.underlying s = some (.int q) := by unfold tkind at hk; split at hk <;> first | exact ⟨_, by assumption⟩ | cases hk
    obtain ⟨q, hs⟩ := hs
    have hc : (convert s t (.int k n)).run P C.w = .ok (.int k2 (k2.wrap n)) C.w := by simp [convert, und_run ht, und_run hs, Conv.intToInt]
    exact ⟨_, by simp only [hv, Sem.run_bind, hc, Result.andThen_ok, Sem.run_pure], .d _ _ (.int _ _)⟩
   ·cases h
  ·rename_i b hx2
   rw [hx2] at hx
   have hd := hx.dinv
   generalize hv : a.eval x = v at hd
   cases hd
   split at h
   ·rename_i hk
    cases h
    have hs : P.underlying s = some .string := by have := hk.1; unfold tkind at this; split at this <;> first | assumption | cases this
    have ht : P.underlying t = some .string := by have := hk.2; unfold tkind at this; split at this <;> first | assumption | cases this
    have hc : (convert s t (.string b)).run P C.w = .ok (.string b) C.w := by simp [convert, und_run ht, und_run hs]
    exact ⟨_, by simp only [hv, Sem.run_bind, hc, Result.andThen_ok, Sem.run_pure], .d _ _ (.str _)⟩
   ·cases h
  ·cases h
 ·rename_i f first cap ho
  rw [ho]
  split at h
  ·rename_i hlt
   split at h
   ·rename_i he
    cases h
    have he : first = #[] := by simpa using he
    subst he
    have hc := args_ok hT cap.toList
    refine ⟨.func (.func f) #[] (cap.map a.eval), by simp [Instr.makeFunc], .fn _ hlt _ _ ?_ ?_⟩
    ·simp
    ·intro j x hx; have := hc.2 j x hx; simpa using this
   ·split at h
    ·rename_i he
     cases h
     have he : cap = #[] := by simpa using he
     subst he
     have hc := args_ok hT first.toList
     refine ⟨.func (.func f) (first.map a.eval) #[], by simp [Instr.makeFunc], .bnd _ _ hlt rfl _ _ ?_ ?_⟩
     ·simp
     ·intro j x hx; have := hc.2 j x hx; simpa using this
    ·cases h
  ·cases h
 ·rename_i t x i ho
  rw [ho]
  obtain ⟨z, hz, hr⟩ := fieldPtr_sim h (hT.ev x)
  exact ⟨z, by simp only [Sem.run_bind, hz, Result.andThen_ok, Sem.run_pure], hr⟩
 ·rename_i t x i ho
  rw [ho]
  obtain ⟨z, hz, hr⟩ := fieldD_sim h (hT.ev x)
  exact ⟨z, by simp only [Sem.run_bind, hz, Result.andThen_ok, Sem.run_pure], hr⟩
 ·rename_i x i ho
  rw [ho]
  obtain ⟨z, hz, hr⟩ := tup1_sim (P := P) h (hT.ev x)
  exact ⟨z, by simp only [Sem.run_bind, hz, Result.andThen_ok, Sem.run_pure], hr⟩
 ·rename_i t ps ho
  rw [ho]
  obtain ⟨z, hz, hr⟩ := buildD_sim (us := ps.map fun (i, x) => (i, a.eval x)) h (by simp) (fun j p hj => by
   simp only [List.getElem?_map, Option.map_eq_some_iff] at hj
   obtain ⟨q, hq, rfl⟩ := hj
   refine ⟨a.eval q.2, ?_, hT.ev q.2⟩
   simp only [Array.getElem?_toList] at hq
   simp [hq])
  exact ⟨z, by simp only [Sem.run_bind, hz, Result.andThen_ok, Sem.run_pure], hr⟩
 ·rename_i t x i ho
  rw [ho]
  have hx := hT.ev x
  have hi := hT.ev i
  split at h
  ·rename_i s ik k hx2 hi2
   rw [hx2] at hx
   rw [hi2] at hi
   have hd := hx.dinv
   have he := hi.dinv
   generalize hv : a.eval x = v at hd
   generalize hu : a.eval i = u at he
   cases hd
   cases he
   split at h
   ·rename_i hb
    obtain ⟨⟨hb0, hb1⟩, hk⟩ := hb
    cases h
    have hu2 : P.underlying t = some .string := by unfold tkind at hk; split at hk <;> first | assumption | cases hk
    have hc : (Instr.index t (.string s) (.int ik k)).run P C.w = .ok (.int .u8 (s[k.toNat]'hb1).toNat) C.w := by
     simp only [Instr.index, asIntOf, Sem.run_bind, Sem.run_pure, Result.andThen_ok, und_run hu2, if_pos hb0, getElem?_pos s k.toNat hb1]
    exact ⟨_, by simp only [hv, hu, Sem.run_bind, hc, Result.andThen_ok, Sem.run_pure], .d _ _ (.int _ _)⟩
   ·cases h
  ·cases h
 ·rename_i args ats ho
  rw [ho]
  split at h
  ·rename_i x t hx ht
   simp only [Option.map_eq_some_iff] at h
   obtain ⟨d, hd, rfl⟩ := h
   obtain ⟨u, hu, hr⟩ := args1 hT hx
   obtain ⟨z, hz, hr⟩ := lenD_sim (P := P) (ty := o.type) hd ht hr
   exact ⟨z, by simp only [resolve, Sem.run_bind, Sem.run_pure, Result.andThen_ok, invoke, builtin, hu, hz], hr⟩
  ·cases h
 ·rename_i args ats ho
  rw [ho]
  obtain ⟨z, hz, hr⟩ := minmax_sim (P := P) (ty := o.type) (ts := ats) h (args_ok hT args.toList)
  simp only [if_true] at hz
  exact ⟨z, by simp only [resolve, Sem.run_bind, Sem.run_pure, Result.andThen_ok, invoke, builtin]; simp only [Array.toArray_toList] at hz; simp [hz], hr⟩
 ·rename_i args ats ho
  rw [ho]
  obtain ⟨z, hz, hr⟩ := minmax_sim (P := P) (ty := o.type) (ts := ats) h (args_ok hT args.toList)
  simp only [Bool.false_eq_true, if_false] at hz
  exact ⟨z, by simp only [resolve, Sem.run_bind, Sem.run_pure, Result.andThen_ok, invoke, builtin]; simp only [Array.toArray_toList] at hz; simp [hz], hr⟩
 ·cases h
end
end Go.Proofs.Ytiafeijkifpfaaa.Am


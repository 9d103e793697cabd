/-
  The abstract machine: values that can be compared; keys of maps. No condition.
-/
import Derived.Test.YtiafeijkifpfaaaAm4
import Derived.Laws.StructEq
import Derived.ChangeKeysEq
import Derived.MapKept
namespace Go.Proofs.Ytiafeijkifpfaaa.Am
open Go
set_option linter.unusedVariables false
set_option linter.unusedSimpArgs false

def vfit1 : KK → Value → Bool
  | .int k, .int k' _ => decide (k = k')
  | .bool, .bool _ => true
  | .str, .string _ => true
  | _, _ => false
def vfitL : List KK → List Value → Bool
  | [], [] => true
  | k :: r, x :: s => vfit1 k x && vfitL r s
  | _, _ => false
def veq1 : Value → Value → Bool
  | .int _ a, .int _ b => a == b
  | .bool a, .bool b => a == b
  | .string a, .string b => a.toList == b.toList
  | _, _ => false
def veqL : List Value → List Value → Bool
  | [], [] => true
  | x :: r, y :: s => veq1 x y && veqL r s
  | _, _ => false
theorem vfitL_len : ∀ {ks : List KK} {xs : List Value}, vfitL ks xs = true → xs.length = ks.length
  | [], [], _ => rfl
  | _ :: _, _ :: _, h => by simp only [vfitL, Bool.and_eq_true] at h; simp [vfitL_len h.2]
  | [], _ :: _, h => by simp [vfitL] at h
  | _ :: _, [], h => by simp [vfitL] at h
theorem vfitL_append : ∀ {k1 k2 : List KK} {xs : List Value}, vfitL (k1 ++ k2) xs = true → vfitL k1 (xs.take k1.length) = true ∧ vfitL k2 (xs.drop k1.length) = true
  | [], k2, xs, h => by simpa [vfitL] using h
  | k :: k1, k2, [], h => by simp [vfitL] at h
  | k :: k1, k2, x :: xs, h => by
    simp only [List.cons_append, vfitL, Bool.and_eq_true] at h
    have := vfitL_append h.2
    simp [vfitL, h.1, this.1, this.2]
theorem veqL_append : ∀ {a b c d : List Value}, a.length = c.length → veqL (a ++ b) (c ++ d) = (veqL a c && veqL b d)
  | [], b, [], d, _ => by simp [veqL]
  | x :: a, b, y :: c, d, h => by simp [veqL, veqL_append (by simpa using h), Bool.and_assoc]
  | [], _, _ :: _, _, h => by simp at h
  | _ :: _, _, [], _, h => by simp at h

section
variable {P : Program}

/-- A value of a type, by its cells. -/
def ValOf (P : Program) (t : TypeId) (ks : List KK) (X : Value) (xs : List Value) : Prop :=
  vfitL ks xs = true ∧ ((tagg P t = some true ∧ X = .agg xs.toArray) ∨ (tagg P t = some false ∧ xs = [X]))

def aggD : TypeDesc → Bool
  | .struct _ | .array _ _ => true
  | _ => false
theorem agg_is {t : TypeId} {d : TypeDesc} (h : P.underlying t = some d) : tagg P t = some (aggD d) := by
  unfold tagg; rw [h]; cases d <;> rfl
theorem size_is {t : TypeId} {n : Nat} (h : tsize P t = some n) : ∃ i, P.info? t = some i ∧ i.size = n := by
  simpa [tsize, Option.map_eq_some_iff] using h

theorem shape_one {n : Nat} {t : TypeId} {ks : List KK} (h : shapeAt P n t = some ks) : (tagg P t = some true ∧ tsize P t = some ks.length) ∨ (tagg P t = some false ∧ ks.length = 1) := by
  cases n with
  | zero => cases h
  | succ n =>
    unfold shapeAt at h
    split at h
    · rename_i hu; cases h; exact .inr ⟨agg_is hu, rfl⟩
    · rename_i hu; cases h; exact .inr ⟨agg_is hu, rfl⟩
    · rename_i hu; cases h; exact .inr ⟨agg_is hu, rfl⟩
    · rename_i hu
      split at h
      · cases h
      · simp only [Option.bind_eq_some_iff] at h
        obtain ⟨l, _, ks', _, h⟩ := h
        split at h
        · rename_i hs; cases h; exact .inl ⟨agg_is hu, hs⟩
        · cases h
    · rename_i m e hu
      simp only [Option.bind_eq_some_iff] at h
      obtain ⟨l, _, h⟩ := h
      split at h
      · rename_i hs; cases h; exact .inl ⟨agg_is hu, by rw [hs.2]; simp⟩
      · cases h
    · cases h

/-- A part of cells. -/
theorem part_shape {n : Nat} {t : TypeId} {ks : List KK} (h : shapeAt P n t = some ks) {xs : List Value} {off : Nat} (hf : vfitL ks ((xs.drop off).take ks.length) = true) (w : World) :
    ∃ X, (Go.part t xs.toArray off).run P w = .ok X w ∧ ValOf P t ks X ((xs.drop off).take ks.length) := by
  have hl := vfitL_len hf
  rcases shape_one h with ⟨ha, hs⟩ | ⟨ha, h1⟩
  · refine ⟨.agg ((xs.drop off).take ks.length).toArray, ?_, hf, .inl ⟨ha, rfl⟩⟩
    unfold Go.part
    simp only [Sem.run_bind, agg_run ha, Result.andThen_ok, if_true, size_run hs, Sem.run_pure]
    congr 2
    apply Array.ext'
    simp
  · have hl1 : ((xs.drop off).take ks.length).length = 1 := by rw [hl, h1]
    obtain ⟨v, hv⟩ : ∃ v, (xs.drop off).take ks.length = [v] := by
      match (xs.drop off).take ks.length, hl1 with
      | [v], _ => exact ⟨v, rfl⟩
    have hx : xs[off]? = some v := by
      have := congrArg (fun l => l[0]?) hv
      simpa [List.getElem?_take, h1] using this
    refine ⟨v, ?_, by rw [hv] at hf ⊢; exact hf, .inr ⟨ha, hv⟩⟩
    unfold Go.part
    simp only [Sem.run_bind, agg_run ha, Result.andThen_ok, Bool.false_eq_true, if_false, List.getElem?_toArray, hx, Sem.run_pure]

/-- Is '==' at a type the sameness of cells? -/
def EqS (P : Program) (m : Nat) (t : TypeId) (ks : List KK) : Prop :=
  ∀ (w : World) (X Y : Value) (xs ys : List Value), ValOf P t ks X xs → ValOf P t ks Y ys → (Op.equalIn m t X Y).run P w = .ok (veqL xs ys) w

theorem tile_spec : ∀ {off : Nat} {l : List (Field × List KK)} {ks : List KK}, tile off l = some ks → ks = (l.map (·.2)).flatten ∧ ∀ p ∈ l, p.1.name ≠ "_"
  | _, [], ks, h => by cases h; simp
  | off, (f, l) :: r, ks, h => by
    simp only [tile] at h
    split at h
    · rename_i hc
      simp only [Option.map_eq_some_iff] at h
      obtain ⟨ks', h, rfl⟩ := h
      have := tile_spec h
      refine ⟨by simp [this.1], fun p hp => ?_⟩
      rcases List.mem_cons.1 hp with rfl | hp
      · exact hc.2
      · exact this.2 p hp
    · cases h

theorem eq_fields {n d : Nat} (IH : ∀ t ks, shapeAt P n t = some ks → EqS P d t ks) (xs ys : List Value) (w : World) : ∀ (fs : List Field) (l : List (Field × List KK)) (off : Nat) (ks : List KK), zipShape (shapeAt P n) fs = some l → tile off l = some ks →
    vfitL ks (xs.drop off) = true → vfitL ks (ys.drop off) = true → (Op.eqFields d xs.toArray ys.toArray fs).run P w = .ok (veqL (xs.drop off) (ys.drop off)) w
  | [], l, off, ks, h1, h2, h3, h4 => by
    cases h1; cases h2
    have e1 : xs.drop off = [] := by cases h : xs.drop off with | nil => rfl | cons a b => rw [h] at h3; simp [vfitL] at h3
    have e2 : ys.drop off = [] := by cases h : ys.drop off with | nil => rfl | cons a b => rw [h] at h4; simp [vfitL] at h4
    simp [Op.eqFields, e1, e2, veqL]
  | f :: fs, l, off, ks, h1, h2, h3, h4 => by
    simp only [zipShape, Option.bind_eq_some_iff, Option.map_eq_some_iff] at h1
    obtain ⟨kf, hkf, l', hl', rfl⟩ := h1
    simp only [tile] at h2
    split at h2
    · rename_i hc
      obtain ⟨rfl, hn⟩ := hc
      simp only [Option.map_eq_some_iff] at h2
      obtain ⟨ks', hks, rfl⟩ := h2
      obtain ⟨a1, a2⟩ := vfitL_append h3
      obtain ⟨b1, b2⟩ := vfitL_append h4
      obtain ⟨X, p1, v1⟩ := part_shape hkf a1 w
      obtain ⟨Y, p2, v2⟩ := part_shape hkf b1 w
      have he := IH _ _ hkf w X Y _ _ v1 v2
      have hr := eq_fields IH xs ys w fs l' (f.offset + kf.length) ks' hl' hks (by rw [← List.drop_drop]; exact a2) (by rw [← List.drop_drop]; exact b2)
      have hs : veqL (xs.drop f.offset) (ys.drop f.offset) = (veqL ((xs.drop f.offset).take kf.length) ((ys.drop f.offset).take kf.length) && veqL (xs.drop (f.offset + kf.length)) (ys.drop (f.offset + kf.length))) := by
        rw [← List.drop_drop, ← List.drop_drop, ← veqL_append (by rw [vfitL_len a1, vfitL_len b1]), List.take_append_drop, List.take_append_drop]
      simp only [Op.eqFields, hn, ne_eq, not_false_eq_true, if_true, Sem.run_bind, p1, p2, he, Result.andThen_ok]
      rw [hs]
      cases veqL ((xs.drop f.offset).take kf.length) ((ys.drop f.offset).take kf.length) with
      | true => simpa using hr
      | false => simp
    · cases h2

theorem replicate_drop_take {l : List KK} {m : Nat} {xs : List Value} (h : vfitL (List.replicate m l).flatten xs = true) (i : Nat) (hi : i < m) : vfitL l ((xs.drop (i * l.length)).take l.length) = true := by
  induction m generalizing xs i with
  | zero => omega
  | succ m ih =>
    rw [List.replicate_succ, List.flatten_cons] at h
    obtain ⟨a, b⟩ := vfitL_append h
    cases i with
    | zero => simpa using a
    | succ i =>
      have := ih b i (by omega)
      rw [List.drop_drop] at this
      rw [show (i + 1) * l.length = l.length + i * l.length by rw [Nat.add_mul]; omega]
      exact this
theorem eq_items {n d : Nat} {e : TypeId} {l : List KK} (hl : shapeAt P n e = some l) (IH : EqS P d e l) (hs : P.cellsOf e = l.length) (xs ys : List Value) (w : World) : ∀ (k m : Nat), (∀ i, m ≤ i → i < m + k → vfitL l ((xs.drop (i * l.length)).take l.length) = true) →
    (∀ i, m ≤ i → i < m + k → vfitL l ((ys.drop (i * l.length)).take l.length) = true) → xs.length = (m + k) * l.length → ys.length = (m + k) * l.length → (Op.eqItems d e (P.cellsOf e) xs.toArray ys.toArray (List.range' m k)).run P w = .ok (veqL (xs.drop (m * l.length)) (ys.drop (m * l.length))) w
  | 0, m, _, _, h1, h2 => by
    rw [List.drop_of_length_le (by simp [h1]), List.drop_of_length_le (by simp [h2])]
    simp [Op.eqItems, veqL]
  | k + 1, m, hx, hy, h1, h2 => by
    have a := hx m (Nat.le_refl _) (by omega)
    have b := hy m (Nat.le_refl _) (by omega)
    obtain ⟨X, p1, v1⟩ := part_shape hl a w
    obtain ⟨Y, p2, v2⟩ := part_shape hl b w
    have he := IH w X Y _ _ v1 v2
    have hr := eq_items hl IH hs xs ys w k (m + 1) (fun i q1 q2 => hx i (by omega) (by omega)) (fun i q1 q2 => hy i (by omega) (by omega)) (by rw [h1]; congr 1; omega) (by rw [h2]; congr 1; omega)
    have e1 : (m + 1) * l.length = m * l.length + l.length := by rw [Nat.add_mul]; omega
    have hs2 : veqL (xs.drop (m * l.length)) (ys.drop (m * l.length)) = (veqL ((xs.drop (m * l.length)).take l.length) ((ys.drop (m * l.length)).take l.length) && veqL (xs.drop ((m + 1) * l.length)) (ys.drop ((m + 1) * l.length))) := by
      rw [e1, ← List.drop_drop, ← List.drop_drop, ← veqL_append (by rw [vfitL_len a, vfitL_len b]), List.take_append_drop, List.take_append_drop]
    rw [List.range'_succ]
    rw [hs] at hr ⊢
    simp only [Op.eqItems, Sem.run_bind, p1, p2, he, Result.andThen_ok]
    rw [hs2]
    cases veqL ((xs.drop (m * l.length)).take l.length) ((ys.drop (m * l.length)).take l.length) with
    | true => simpa using hr
    | false => simp

theorem cellsOf_is {t : TypeId} {n : Nat} (h : tsize P t = some n) : P.cellsOf t = n := by
  obtain ⟨i, hi, rfl⟩ := size_is h
  simp [Program.cellsOf, hi]

theorem eq_shape (d : Nat) : ∀ (n : Nat) (t : TypeId) (ks : List KK), shapeAt P n t = some ks → EqS P (d + n) t ks := by
  intro n
  induction n with
  | zero => intro t ks h; cases h
  | succ n ih =>
    intro t ks h w X Y xs ys hx hy
    obtain ⟨fx, hx⟩ := hx
    obtain ⟨fy, hy⟩ := hy
    have hag := shape_one h
    unfold shapeAt at h
    split at h
    · rename_i k hu
      cases h
      have ha := agg_is hu
      rcases hx with ⟨q, _⟩ | ⟨_, rfl⟩
      · rw [ha] at q; cases q
      rcases hy with ⟨q, _⟩ | ⟨_, rfl⟩
      · rw [ha] at q; cases q
      cases X <;> simp [vfitL, vfit1] at fx
      cases Y <;> simp [vfitL, vfit1] at fy
      subst fx; subst fy
      simp [← Nat.add_assoc, Op.equalIn, und_run hu, veqL, veq1]
    · rename_i hu
      cases h
      have ha := agg_is hu
      rcases hx with ⟨q, _⟩ | ⟨_, rfl⟩
      · rw [ha] at q; cases q
      rcases hy with ⟨q, _⟩ | ⟨_, rfl⟩
      · rw [ha] at q; cases q
      cases X <;> simp [vfitL, vfit1] at fx
      cases Y <;> simp [vfitL, vfit1] at fy
      simp [← Nat.add_assoc, Op.equalIn, und_run hu, veqL, veq1]
    · rename_i hu
      cases h
      have ha := agg_is hu
      rcases hx with ⟨q, _⟩ | ⟨_, rfl⟩
      · rw [ha] at q; cases q
      rcases hy with ⟨q, _⟩ | ⟨_, rfl⟩
      · rw [ha] at q; cases q
      cases X <;> simp [vfitL, vfit1] at fx
      cases Y <;> simp [vfitL, vfit1] at fy
      simp [← Nat.add_assoc, Op.equalIn, und_run hu, veqL, veq1, beq_toListBytes]
    · rename_i fs hu
      split at h
      · cases h
      rename_i hst
      simp only [Option.bind_eq_some_iff] at h
      obtain ⟨l, hl, ks', hk, h⟩ := h
      split at h
      · rename_i hs
        cases h
        have ha := agg_is hu
        rcases hx with ⟨_, rfl⟩ | ⟨q, _⟩
        · rcases hy with ⟨_, rfl⟩ | ⟨q, _⟩
          · have hfs : P.fieldsOf t = fs := by simp [Program.fieldsOf, hu]
            rw [← Nat.add_assoc, run_equalIn_struct w (d + n) t _ _ (by rw [hfs]; exact hu) (by simpa using hst), hfs]
            have := eq_fields (d := d + n) ih xs ys w fs.toList l 0 ks hl hk (by simpa using fx) (by simpa using fy)
            simpa using this
          · rw [ha] at q; cases q
        · rw [ha] at q; cases q
      · cases h
    · rename_i m e hu
      simp only [Option.bind_eq_some_iff] at h
      obtain ⟨l, hl, h⟩ := h
      split at h
      · rename_i hs
        cases h
        have ha := agg_is hu
        rcases hx with ⟨_, rfl⟩ | ⟨q, _⟩
        · rcases hy with ⟨_, rfl⟩ | ⟨q, _⟩
          · obtain ⟨i, hi, _⟩ := size_is hs.1
            rw [← Nat.add_assoc, run_equalIn_array w (d + n) _ _ hu hi]
            have := eq_items hl (ih e l hl) (cellsOf_is hs.1) xs ys w m 0 (fun i _ q => replicate_drop_take fx i (by omega)) (fun i _ q => replicate_drop_take fy i (by omega)) (by rw [vfitL_len fx]; simp) (by rw [vfitL_len fy]; simp)
            simpa [List.range_eq_range'] using this
          · rw [ha] at q; cases q
        · rw [ha] at q; cases q
      · cases h
    · cases h

/-! ### Keys can be asked -/
theorem check_shape (em : Bool) (d : Nat) : ∀ (n : Nat) (t : TypeId) (ks : List KK), shapeAt P n t = some ks → ∀ (w : World) (X : Value) (xs : List Value), ValOf P t ks X xs → (Instr.checkKey em (d + n) t X).run P w = .ok () w := by
  intro n
  induction n with
  | zero => intro t ks h; cases h
  | succ n ih =>
    intro t ks h w X xs hx
    obtain ⟨fx, hx⟩ := hx
    unfold shapeAt at h
    split at h
    · rename_i k hu
      cases X <;> simp [← Nat.add_assoc, Instr.checkKey, und_run hu]
    · rename_i hu
      cases X <;> simp [← Nat.add_assoc, Instr.checkKey, und_run hu]
    · rename_i hu
      cases X <;> simp [← Nat.add_assoc, Instr.checkKey, und_run hu]
    · rename_i fs hu
      split at h
      · cases h
      simp only [Option.bind_eq_some_iff] at h
      obtain ⟨l, hl, ks', hk, h⟩ := h
      split at h
      · rename_i hsz
        cases h
        rcases hx with ⟨_, rfl⟩ | ⟨q, _⟩
        · rw [← Nat.add_assoc, Instr.checkKey]
          simp only [Sem.run_bind, und_run hu, Result.andThen_ok]
          rw [← Array.forIn_toList]
          have h3 : vfitL ks (xs.drop 0) = true := by simpa using fx
          revert hl hk h3
          generalize fs.toList = fl
          generalize 0 = off
          clear hu
          clear hsz fx
          induction fl generalizing l off ks with
          | nil => intro _ _ _; simp
          | cons f fl ihf =>
            intro h1 h2 h3
            simp only [zipShape, Option.bind_eq_some_iff, Option.map_eq_some_iff] at h1
            obtain ⟨kf, hkf, l', hl', rfl⟩ := h1
            simp only [tile] at h2
            split at h2
            · rename_i hc
              obtain ⟨rfl, hn⟩ := hc
              simp only [Option.map_eq_some_iff] at h2
              obtain ⟨ks', hks, rfl⟩ := h2
              obtain ⟨a1, a2⟩ := vfitL_append h3
              obtain ⟨Z, p1, v1⟩ := part_shape hkf a1 w
              have p2 := ih _ _ hkf w Z _ v1
              simp only [List.forIn_cons, Sem.run_bind, Sem.run_ite, hn, ne_eq, not_false_eq_true, if_true, p1, p2, Result.andThen_ok, Sem.run_pure]
              have z : vfitL ks' (xs.drop (f.offset + kf.length)) = true := by rw [← List.drop_drop]; exact a2
              exact ihf ks' l' (f.offset + kf.length) hl' hks z
            · cases h2
        · rw [agg_is hu] at q; cases q
      · cases h
    · rename_i m e hu
      simp only [Option.bind_eq_some_iff] at h
      obtain ⟨l, hl, h⟩ := h
      split at h
      · rename_i hs
        cases h
        rcases hx with ⟨_, rfl⟩ | ⟨q, _⟩
        · rw [← Nat.add_assoc, Instr.checkKey]
          simp only [Sem.run_bind, und_run hu, Result.andThen_ok]
          simp only [Std.Legacy.Range.forIn_eq_forIn_range', Std.Legacy.Range.size, Nat.sub_zero, Nat.add_one_sub_one, Nat.div_one]
          have each : ∀ i ∈ List.range' 0 m, vfitL l ((xs.drop (i * l.length)).take l.length) = true := fun i hi => replicate_drop_take fx i (by simp at hi; omega)
          generalize List.range' 0 m = is at each
          induction is with
          | nil => simp
          | cons j is ihj =>
            obtain ⟨Z, p1, v1⟩ := part_shape hl (each j (by simp)) w
            have p2 := ih _ _ hl w Z _ v1
            simp only [List.forIn_cons, Sem.run_bind, size_run hs.1, Result.andThen_ok, p1, p2, Sem.run_pure]
            exact ihj fun i hi => each i (by simp [hi])
        · rw [agg_is hu] at q; cases q
      · cases h
    · cases h

/-! ### Keys as data -/
theorem vOf1_fit {k : KK} {x : D} (h : fit1 k x = true) : ∃ v, vOf1 x = some v ∧ vfit1 k v = true := by
  cases k <;> cases x <;> simp_all [fit1, vOf1, vfit1]
theorem vOfL_fit : ∀ {ks : List KK} {cs : List D}, fitL ks cs = true → ∃ vs, vOfL cs = some vs ∧ vfitL ks vs = true
  | [], [], _ => ⟨[], rfl, rfl⟩
  | k :: ks, x :: cs, h => by
    simp only [fitL, Bool.and_eq_true] at h
    obtain ⟨v, h1, h2⟩ := vOf1_fit h.1
    obtain ⟨vs, h3, h4⟩ := vOfL_fit h.2
    exact ⟨v :: vs, by simp [vOfL, h1, h3], by simp [vfitL, h2, h4]⟩
  | [], _ :: _, h => by simp [fitL] at h
  | _ :: _, [], h => by simp [fitL] at h
theorem tshape_some {t : TypeId} {sh : Shape} (h : tshape P t = some sh) : tagg P t = some sh.1 ∧ shapeAt P 9 t = some sh.2 := by
  simp only [tshape, Option.bind_eq_bind, Option.bind_eq_some_iff] at h
  obtain ⟨a, ha, l, hl, h⟩ := h
  cases h
  exact ⟨ha, hl⟩
/-- A key as the machine has it is a value of its type. -/
theorem key_val {t : TypeId} {sh : Shape} (h : tshape P t = some sh) {x : D} (hf : fitD sh x = true) : ∃ V vs, vOf x = some V ∧ ValOf P t sh.2 V vs ∧ ((sh.1 = true ∧ ∃ cs, x = .agg cs ∧ vOfL cs = some vs) ∨ (sh.1 = false ∧ vs = [V] ∧ vOf1 x = some V)) := by
  obtain ⟨ha, hl⟩ := tshape_some h
  obtain ⟨b, ks⟩ := sh
  cases b with
  | true =>
    cases x <;> simp only [fitD, Bool.false_eq_true] at hf
    rename_i cs
    obtain ⟨vs, h1, h2⟩ := vOfL_fit hf
    exact ⟨.agg vs.toArray, vs, by simp [vOf, h1], ⟨h2, .inl ⟨ha, rfl⟩⟩, .inl ⟨rfl, cs, rfl, h1⟩⟩
  | false =>
    match ks, hf with
    | [k], hf =>
      obtain ⟨v, h1, h2⟩ := vOf1_fit hf
      refine ⟨v, [v], ?_, ⟨by simp [vfitL, h2], .inr ⟨ha, rfl⟩⟩, .inr ⟨rfl, rfl, h1⟩⟩
      cases x <;> first | exact h1 | simp [vOf1] at h1
    | [], hf => simp [fitD] at hf
    | _ :: _ :: _, hf => simp [fitD] at hf
theorem vOf1_rep {F : Nat → Prop} {w : World} {x : D} {v u : Value} (h : vOf1 x = some v) (hr : RepD F w x u) : u = v := by
  cases x <;> simp [vOf1] at h <;> subst h <;> cases hr <;> rfl
theorem vOf_rep {F : Nat → Prop} {w : World} {x : D} {v u : Value} (h : vOf x = some v) (hr : RepD F w x u) : u = v := by
  cases x with
  | agg cs =>
    simp only [vOf, Option.map_eq_some_iff] at h
    obtain ⟨vs, h, rfl⟩ := h
    cases hr with
    | agg _ arr hn h1 hr =>
      congr 1
      have key : ∀ (cs : List D) (vs us : List Value), us.length = cs.length → (∀ j x, cs[j]? = some x → RepD F w x (us.getD j undef)) → vOfL cs = some vs → us = vs := by
        intro cs
        induction cs with
        | nil => intro vs us hl _ h; cases h; exact List.eq_nil_of_length_eq_zero hl
        | cons x cs ih =>
          intro vs us hl hr h
          cases us with
          | nil => simp at hl
          | cons u us =>
            simp only [vOfL, Option.bind_eq_some_iff, Option.map_eq_some_iff] at h
            obtain ⟨v, hv, vs', hvs, rfl⟩ := h
            have e1 := vOf1_rep hv (by simpa using hr 0 x rfl)
            have e2 := ih vs' us (by simpa using hl) (fun j y hy => by simpa using hr (j + 1) y (by simpa using hy)) hvs
            rw [e1, e2]
      apply Array.ext'
      have := key cs vs arr.toList (by simpa using hn) (fun j y hy => by simpa using hr j y hy) h
      simpa using this
  | _ => exact vOf1_rep (by simpa [vOf] using h) hr
theorem eq1_val {k : KK} {x y : D} {v u : Value} (hx : fit1 k x = true) (hy : fit1 k y = true) (h1 : vOf1 x = some v) (h2 : vOf1 y = some u) : veq1 v u = eq1 x y := by
  cases k <;> cases x <;> simp [fit1] at hx <;> cases y <;> simp [fit1] at hy <;> (cases h1; cases h2; rfl)
theorem eqL_val : ∀ {ks : List KK} {cs ds : List D} {vs us : List Value}, fitL ks cs = true → fitL ks ds = true → vOfL cs = some vs → vOfL ds = some us → veqL vs us = eqL cs ds
  | [], [], [], _, _, _, _, h1, h2 => by cases h1; cases h2; rfl
  | k :: ks, x :: cs, y :: ds, vs, us, hx, hy, h1, h2 => by
    simp only [fitL, Bool.and_eq_true] at hx hy
    simp only [vOfL, Option.bind_eq_some_iff, Option.map_eq_some_iff] at h1 h2
    obtain ⟨v, hv, vs', hvs, rfl⟩ := h1
    obtain ⟨u, hu, us', hus, rfl⟩ := h2
    simp only [veqL, eqL, eq1_val hx.1 hy.1 hv hu, eqL_val hx.2 hy.2 hvs hus]
  | [], _ :: _, _, _, _, h, _, _, _ => by simp [fitL] at h
  | [], [], _ :: _, _, _, _, h, _, _ => by simp [fitL] at h
  | _ :: _, [], _, _, _, h, _, _, _ => by simp [fitL] at h
  | _ :: _, _ :: _, [], _, _, _, h, _, _ => by simp [fitL] at h

/-- '==' on keys. -/
theorem equal_key {t : TypeId} {sh : Shape} (h : tshape P t = some sh) {x y : D} (hx : fitD sh x = true) (hy : fitD sh y = true) {V U : Value} (h1 : vOf x = some V) (h2 : vOf y = some U) (w : World) : (Op.equal t V U).run P w = .ok (eqD x y) w := by
  obtain ⟨V', vs, e1, q1, c1⟩ := key_val h hx
  obtain ⟨U', us, e2, q2, c2⟩ := key_val h hy
  rw [h1] at e1; cases e1
  rw [h2] at e2; cases e2
  have := eq_shape 9991 9 t sh.2 (tshape_some h).2 w V U vs us q1 q2
  rw [show Op.equal t V U = Op.equalIn (9991 + 9) t V U from rfl, this]
  congr 1
  obtain ⟨b, ks⟩ := sh
  rcases c1 with ⟨hb, cs, rfl, k1⟩ | ⟨hb, rfl, k1⟩
  · rcases c2 with ⟨hb2, ds, rfl, k2⟩ | ⟨hb2, _, _⟩
    · simp only at hb; subst hb
      exact eqL_val hx hy k1 k2
    · rw [hb] at hb2; cases hb2
  · rcases c2 with ⟨hb2, _⟩ | ⟨_, rfl, k2⟩
    · rw [hb] at hb2; cases hb2
    · simp only at hb; subst hb
      match ks, hx, hy with
      | [k], hx, hy =>
        have e := eq1_val hx hy k1 k2
        have : eqD x y = eq1 x y := by cases x <;> first | rfl | (simp [vOf1] at k1)
        simp [veqL, this, e]
      | [], hx, _ => simp [fitD] at hx
      | _ :: _ :: _, hx, _ => simp [fitD] at hx

/-- Entries' keys. -/
def KeysOk (sh : Shape) (es : List (D × AV × Nat)) (es' : List MapEntry) : Prop :=
  es'.length = es.length ∧ ∀ (j : Nat) (k : D) (v : AV) (n : Nat), es[j]? = some (k, v, n) → fitD sh k = true ∧ ∃ e, es'[j]? = some e ∧ vOf k = some e.key
theorem KeysOk.tail {sh : Shape} {p : D × AV × Nat} {es : List (D × AV × Nat)} {e : MapEntry} {es' : List MapEntry} (h : KeysOk sh (p :: es) (e :: es')) : KeysOk sh es es' :=
  ⟨by simpa using h.1, fun j k v n hj => by simpa using h.2 (j + 1) k v n (by simpa using hj)⟩
/-- Where a key is. -/
def found (es' : List MapEntry) (i : Nat) : Option (Nat × AV × Nat) → Option (Nat × Value)
  | none => none
  | some (j, _, _) => (es'[j - i]?).map fun e => (j, e.val)
theorem findK_ge : ∀ {x : D} {es : List (D × AV × Nat)} {i j : Nat} {v : AV} {n : Nat}, findK x es i = some (j, v, n) → i ≤ j ∧ ∃ k, es[j - i]? = some (k, v, n)
  | x, (k, v, n) :: r, i, j, v', n', h => by
    simp only [findK] at h
    split at h
    · cases h; exact ⟨Nat.le_refl _, k, by simp⟩
    · obtain ⟨h1, k', h2⟩ := findK_ge h
      refine ⟨by omega, k', ?_⟩
      rw [show j - i = (j - (i + 1)) + 1 by omega]
      simpa using h2
theorem findAsking_ok {t : TypeId} {sh : Shape} (h : tshape P t = some sh) {x : D} (hx : fitD sh x = true) {V : Value} (hV : vOf x = some V) (w : World) : ∀ (es : List (D × AV × Nat)) (es' : List MapEntry) (i : Nat), KeysOk sh es es' →
    (Instr.findAsking t V es' i).run P w = .ok (found es' i (findK x es i)) w
  | [], es', i, hk => by
    obtain rfl := List.eq_nil_of_length_eq_zero hk.1
    simp [Instr.findAsking, findK, found]
  | (k, v, n) :: es, [], i, hk => by simp [KeysOk] at hk
  | (k, v, n) :: es, e :: es', i, hk => by
    obtain ⟨hf, e0, he0, hv0⟩ := hk.2 0 k v n rfl
    simp only [List.getElem?_cons_zero, Option.some.injEq] at he0
    subst he0
    simp only [Instr.findAsking, Sem.run_bind, equal_key h hx hf hV hv0, Result.andThen_ok, findK]
    by_cases hq : eqD x k = true
    · simp [hq, found]
    · have hq : eqD x k = false := by simpa using hq
      simp only [hq, Bool.false_eq_true, if_false]
      rw [findAsking_ok h hx hV w es es' (i + 1) hk.tail]
      congr 1
      cases hr : findK x es (i + 1) with
      | none => rfl
      | some q =>
        obtain ⟨j, v', n'⟩ := q
        obtain ⟨hj, _⟩ := findK_ge hr
        simp only [found]
        rw [show j - i = (j - (i + 1)) + 1 by omega, List.getElem?_cons_succ]
theorem findNow_ok {t : TypeId} {sh : Shape} (h : tshape P t = some sh) {d : TypeDesc} (hd : P.underlying t = some d) {x : D} (hx : fitD sh x = true) {V : Value} (hV : vOf x = some V) : ∀ (es : List (D × AV × Nat)) (es' : List MapEntry) (i : Nat), KeysOk sh es es' →
    Instr.findNow d V es' i = none ∨ Instr.findNow d V es' i = some (found es' i (findK x es i))
  | [], es', i, hk => by
    obtain rfl := List.eq_nil_of_length_eq_zero hk.1
    exact .inr rfl
  | (k, v, n) :: es, [], i, hk => by simp [KeysOk] at hk
  | (k, v, n) :: es, e :: es', i, hk => by
    obtain ⟨hf, e0, he0, hv0⟩ := hk.2 0 k v n rfl
    simp only [List.getElem?_cons_zero, Option.some.injEq] at he0
    subst he0
    have hs : Instr.sameNow d V e.key = none ∨ Instr.sameNow d V e.key = some (eqD x k) := by
      have agg : ∀ (d : TypeDesc) (vs : Array Value) (U : Value), Instr.sameNow d (.agg vs) U = none ∧ Instr.sameNow d U (.agg vs) = none := fun d vs U => by cases d <;> first | exact ⟨rfl, rfl⟩ | (cases U <;> exact ⟨rfl, rfl⟩)
      cases x with
      | agg cs => simp only [vOf, Option.map_eq_some_iff] at hV; obtain ⟨vs, _, e0⟩ := hV; rw [← e0]; exact .inl (agg _ _ _).1
      | int k1 n1 =>
        cases hV
        cases k with
        | agg cs => simp only [vOf, Option.map_eq_some_iff] at hv0; obtain ⟨vs, _, e0⟩ := hv0; rw [← e0]; exact .inl (agg _ _ _).2
        | _ => simp [vOf, vOf1] at hv0 <;> rw [← hv0] <;> cases d <;> simp [Instr.sameNow, eqD, eq1]
        <;> exact (Decidable.em _).symm
      | bool b1 =>
        cases hV
        cases k with
        | agg cs => simp only [vOf, Option.map_eq_some_iff] at hv0; obtain ⟨vs, _, e0⟩ := hv0; rw [← e0]; exact .inl (agg _ _ _).2
        | _ => simp [vOf, vOf1] at hv0 <;> rw [← hv0] <;> cases d <;> simp [Instr.sameNow, eqD, eq1]
      | str b1 =>
        cases hV
        cases k with
        | agg cs => simp only [vOf, Option.map_eq_some_iff] at hv0; obtain ⟨vs, _, e0⟩ := hv0; rw [← e0]; exact .inl (agg _ _ _).2
        | _ => simp [vOf, vOf1] at hv0 <;> rw [← hv0] <;> cases d <;> simp [Instr.sameNow, eqD, eq1, beq_toListBytes]
      | _ => simp [vOf, vOf1] at hV
    rcases hs with hs | hs
    · exact .inl (by simp [Instr.findNow, hs])
    · simp only [Instr.findNow, hs, findK]
      by_cases hq : eqD x k = true
      · simp [hq, found]
      · have hq : eqD x k = false := by simpa using hq
        simp only [hq, Bool.false_eq_true, if_false]
        rcases findNow_ok h hd hx hV es es' (i + 1) hk.tail with hr | hr
        · exact .inl hr
        · refine .inr ?_
          rw [hr]
          congr 1
          cases hr : findK x es (i + 1) with
          | none => rfl
          | some q =>
            obtain ⟨j, v', n'⟩ := q
            obtain ⟨hj, _⟩ := findK_ge hr
            simp only [found]
            rw [show j - i = (j - (i + 1)) + 1 by omega, List.getElem?_cons_succ]
/-- A key among a map's entries. -/
theorem findKey_ok {t : TypeId} {sh : Shape} (h : tshape P t = some sh) {x : D} (hx : fitD sh x = true) {V : Value} (hV : vOf x = some V) (w : World) {es : List (D × AV × Nat)} {es' : List MapEntry} (hk : KeysOk sh es es') :
    (Instr.findKey t V es').run P w = .ok (found es' 0 (findK x es 0)) w := by
  obtain ⟨d, hd⟩ : ∃ d, P.underlying t = some d := by
    have := (tshape_some h).1
    unfold tagg at this
    cases hu : P.underlying t with
    | none => rw [hu] at this; cases this
    | some d => exact ⟨d, rfl⟩
  simp only [Instr.findKey, Sem.run_bind, und_run hd, Result.andThen_ok]
  rcases findNow_ok h hd hx hV es es' 0 hk with hr | hr
  · rw [hr]; exact findAsking_ok h hx hV w es es' 0 hk
  · rw [hr]; rfl
theorem checkKey_ok {t : TypeId} {sh : Shape} (h : tshape P t = some sh) {x : D} (hx : fitD sh x = true) {V : Value} (hV : vOf x = some V) (em : Bool) (w : World) : (Instr.checkKey em 10000 t V).run P w = .ok () w := by
  obtain ⟨V', vs, e1, q1, c1⟩ := key_val h hx
  rw [hV] at e1; cases e1
  exact check_shape em 9991 9 t sh.2 (tshape_some h).2 w V vs q1

/-- Of two equal keys either stays: they are the same. -/
theorem eqD_same {sh : Shape} {x y : D} (hx : fitD sh x = true) (hy : fitD sh y = true) (he : eqD x y = true) {V U : Value} (h1 : vOf x = some V) (h2 : vOf y = some U) : V = U := by
  have one : ∀ {k : KK} {x y : D} {V U : Value}, fit1 k x = true → fit1 k y = true → eq1 x y = true → vOf1 x = some V → vOf1 y = some U → V = U := by
    intro k x y V U hx hy he h1 h2
    cases k <;> cases x <;> simp [fit1] at hx <;> cases y <;> simp [fit1] at hy <;> simp [eq1] at he <;> cases h1 <;> cases h2
    · subst hx; subst hy; rw [he]
    · rw [he]
    · rename_i a b
      have : a = b := by
        rw [← MapKept.bytes_beq, beq_toListBytes]; simpa using he
      rw [this]
  have lst : ∀ (ks : List KK) (cs ds : List D) (vs us : List Value), fitL ks cs = true → fitL ks ds = true → eqL cs ds = true → vOfL cs = some vs → vOfL ds = some us → vs = us := by
    intro ks
    induction ks with
    | nil => intro cs ds vs us h1 h2 _ h3 h4; cases cs <;> simp [fitL] at h1; cases ds <;> simp [fitL] at h2; cases h3; cases h4; rfl
    | cons k ks ih =>
      intro cs ds vs us h1 h2 h3 h4 h5
      cases cs <;> simp only [fitL, Bool.false_eq_true, Bool.and_eq_true] at h1
      cases ds <;> simp only [fitL, Bool.false_eq_true, Bool.and_eq_true] at h2
      simp only [eqL, Bool.and_eq_true] at h3
      simp only [vOfL, Option.bind_eq_some_iff, Option.map_eq_some_iff] at h4 h5
      obtain ⟨v, hv, vs', hvs, rfl⟩ := h4
      obtain ⟨u, hu, us', hus, rfl⟩ := h5
      rw [one h1.1 h2.1 h3.1 hv hu, ih _ _ _ _ h1.2 h2.2 h3.2 hvs hus]
  obtain ⟨b, ks⟩ := sh
  cases b with
  | true =>
    cases x <;> simp only [fitD, Bool.false_eq_true] at hx
    cases y <;> simp only [fitD, Bool.false_eq_true] at hy
    simp only [vOf, Option.map_eq_some_iff] at h1 h2
    obtain ⟨vs, h1, rfl⟩ := h1
    obtain ⟨us, h2, rfl⟩ := h2
    rw [lst _ _ _ _ _ hx hy he h1 h2]
  | false =>
    match ks, hx, hy with
    | [k], hx, hy =>
      have hx1 : fit1 k x = true := hx
      have hy1 : fit1 k y = true := hy
      have he1 : eq1 x y = true := by cases x <;> first | exact he | (cases k <;> cases hx1)
      have v1 : vOf1 x = some V := by cases x <;> first | exact h1 | (cases k <;> cases hx1)
      have v2 : vOf1 y = some U := by cases y <;> first | exact h2 | (cases k <;> cases hy1)
      exact one hx1 hy1 he1 v1 v2
    | [], hx, _ => simp [fitD] at hx
    | _ :: _ :: _, hx, _ => simp [fitD] at hx
theorem sameBits_vals : ∀ {ks : List KK} {xs : List Value}, vfitL ks xs = true → ∀ n, (xs.zip xs).all (fun p => Instr.sameBits n p.1 p.2) = true := by
  intro ks xs h n
  induction ks generalizing xs with
  | nil => cases xs <;> simp_all [vfitL]
  | cons k ks ih =>
    cases xs with
    | nil => simp
    | cons x xs =>
      simp only [vfitL, Bool.and_eq_true] at h
      simp only [List.zip_cons_cons, List.all_cons, Bool.and_eq_true]
      refine ⟨?_, ih h.2⟩
      cases k <;> cases x <;> simp [vfit1] at h <;> simp [Instr.sameBits, MapKept.bytes_beq]
theorem keyStays_ok {t : TypeId} {sh : Shape} (h : tshape P t = some sh) {x : D} (hx : fitD sh x = true) {V : Value} (hV : vOf x = some V) (w : World) : (Instr.keyThatStays V V).run P w = .ok V w := by
  obtain ⟨V', vs, e1, q1, c1⟩ := key_val h hx
  rw [hV] at e1; cases e1
  have : Instr.sameBits 10000 V V = true := by
    obtain ⟨q, hq⟩ := q1
    rcases hq with ⟨_, rfl⟩ | ⟨_, rfl⟩
    · have := sameBits_vals q 9999
      simp only [Instr.sameBits, beq_self_eq_true, Bool.true_and]
      simpa using this
    · have := sameBits_vals q 10000
      simpa using this
  simp [Instr.keyThatStays, this]
end
end Go.Proofs.Ytiafeijkifpfaaa.Am

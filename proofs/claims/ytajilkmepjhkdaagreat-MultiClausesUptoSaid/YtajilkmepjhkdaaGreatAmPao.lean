/-
  Joined texts: AmLp, AmLl, AmLw, AmLs, AmSn, AmLt, AmLg, AmLf, AmVa, AmVb, AmRk, AmLo. No condition.
-/
import Derived.Test.YtajilkmepjhkdaaGreatAmPan
/-
 The lexicographic path order as mathematics: through a third term, never both ways, behind substitutions, parts, terms without variables. No condition.
-/
namespace Go.Proofs.YtajilkmepjhkdaaGreat.Am
open Go Go.Proofs
set_option linter.unusedSimpArgs false
set_option linter.unusedVariables false
def SymGt (g : Sg) (f h : ByteArray) (n m : Nat) : Prop := (f.toList ≠ h.toList ∧ g.above f h = true) ∨ (f.toList = h.toList ∧ m < n)
theorem SymGt.trans {g : Sg} {f h k : ByteArray} {n m l : Nat} (a : SymGt g f h n m) (b : SymGt g h k m l) : SymGt g f k n l := by
 rcases a with ⟨a1, a2⟩ | ⟨a1, a2⟩ <;> rcases b with ⟨b1, b2⟩ | ⟨b1, b2⟩
 ·have := above_trans g a2 b2
  exact .inl ⟨fun e => (by have e2 := bytes_ext e; subst e2; rw [above_irrefl] at this; cases this), this⟩
 ·have := bytes_ext b1; subst this; exact .inl ⟨a1, a2⟩
 ·have := bytes_ext a1; subst this; exact .inl ⟨b1, b2⟩
 ·exact .inr ⟨a1.trans b1, by omega⟩
theorem SymGt.irrefl {g : Sg} {f : ByteArray} {n : Nat} : ¬ SymGt g f f n n := by
 rintro (⟨h, _⟩ | ⟨_, h⟩)
 ·exact h rfl
 ·omega
theorem SymGt.total (g : Sg) (f h : ByteArray) (n m : Nat) : SymGt g f h n m ∨ SymGt g h f m n ∨ (f.toList = h.toList ∧ n = m) := by
 by_cases e : f.toList = h.toList
 ·rcases Nat.lt_trichotomy n m with c | c | c
  ·exact .inr (.inl (.inr ⟨e.symm, c⟩))
  ·exact .inr (.inr ⟨e, c⟩)
  ·exact .inl (.inr ⟨e, c⟩)
 ·have := above_total g e
  cases hb : g.above h f
  ·rw [hb] at this; exact .inl (.inl ⟨e, this⟩)
  ·exact .inr (.inl (.inl ⟨fun x => e x.symm, hb⟩))
inductive Lpo (g : Sg) : Term → Term → Prop
 | part {v : Int} {f : ByteArray} {az : List Term} {t : Term} (hf : f.toList ≠ []) (h : t ∈ az) : Lpo g (.mk v f az) t
 | under {v : Int} {f : ByteArray} {az : List Term} {t : Term} (a : Term) (hf : f.toList ≠ []) (h : a ∈ az) (k : Lpo g a t) : Lpo g (.mk v f az) t
 | sym {v w : Int} {f h : ByteArray} {az bs : List Term} (hf : f.toList ≠ []) (hh : h.toList ≠ []) (all : ∀ b ∈ bs, Lpo g (.mk v f az) b) (s : SymGt g f h az.length bs.length) : Lpo g (.mk v f az) (.mk w h bs)
 | lex {v w : Int} {f h : ByteArray} {az bs : List Term} (i : Nat) (a b : Term) (hf : f.toList ≠ []) (hh : h.toList ≠ []) (all : ∀ b ∈ bs, Lpo g (.mk v f az) b) (e : f.toList = h.toList) (l : az.length = bs.length)
   (same : ∀ j : Nat, j < i → az[j]? = bs[j]?) (ha : az[i]? = some a) (hb : bs[i]? = some b) (k : Lpo g a b) : Lpo g (.mk v f az) (.mk w h bs)
theorem Lpo.iff (g : Sg) (v w : Int) (f h : ByteArray) (az bs : List Term) : Lpo g (.mk v f az) (.mk w h bs) ↔ f.toList ≠ [] ∧ ((∃ a ∈ az, a = .mk w h bs ∨ Lpo g a (.mk w h bs)) ∨
  (h.toList ≠ [] ∧ (∀ b ∈ bs, Lpo g (.mk v f az) b) ∧ (SymGt g f h az.length bs.length ∨ (f.toList = h.toList ∧ az.length = bs.length ∧ ∃ (i : Nat) (a b : Term), (∀ j : Nat, j < i → az[j]? = bs[j]?) ∧ az[i]? = some a ∧ bs[i]? = some b ∧ Lpo g a b)))) := by
 constructor
 ·intro h
  cases h with
  | part hf h => exact ⟨hf, .inl ⟨_, h, .inl rfl⟩⟩
  | under a hf h k => exact ⟨hf, .inl ⟨a, h, .inr k⟩⟩
  | sym hf hh all s => exact ⟨hf, .inr ⟨hh, all, .inl s⟩⟩
  | lex i a b hf hh all e l same ha hb k => exact ⟨hf, .inr ⟨hh, all, .inr ⟨e, l, i, a, b, same, ha, hb, k⟩⟩⟩
 ·rintro ⟨hf, ⟨a, ha, rfl | k⟩ | ⟨hh, all, s | ⟨e, l, i, a, b, same, ha, hb, k⟩⟩⟩
  ·exact .part hf ha
  ·exact .under a hf ha k
  ·exact .sym hf hh all s
  ·exact .lex i a b hf hh all e l same ha hb k
theorem Lpo.fn {g : Sg} {v : Int} {f : ByteArray} {az : List Term} {t : Term} (h : Lpo g (.mk v f az) t) : f.toList ≠ [] := by cases h <;> assumption
theorem size_mem {az : List Term} {a : Term} (h : a ∈ az) (v : Int) (f : ByteArray) : a.size < (Term.mk v f az).size := by have := sizeL_mem h; simp only [Term.size]; omega
theorem Lpo.trans' (g : Sg) : ∀ (n : Nat) (s t u : Term), s.size + t.size + u.size ≤ n → Lpo g s t → Lpo g t u → Lpo g s u := by
 intro n
 induction n with
 | zero => intro s t u hn; have := s.size_pos; omega
 | succ n ih =>
  intro s t u hn h k
  have core : ∀ (v w : Int) (f h : ByteArray) (az bs : List Term), (Term.mk v f az).size + (Term.mk w h bs).size + u.size ≤ n + 1 → f.toList ≠ [] → (∀ b ∈ bs, Lpo g (.mk v f az) b) →
    (SymGt g f h az.length bs.length ∨ (f.toList = h.toList ∧ az.length = bs.length ∧ ∃ (i : Nat) (a b : Term), (∀ j : Nat, j < i → az[j]? = bs[j]?) ∧ az[i]? = some a ∧ bs[i]? = some b ∧ Lpo g a b)) →
    Lpo g (.mk v f az) (.mk w h bs) → Lpo g (.mk w h bs) u → Lpo g (.mk v f az) u := by
   intro v w f h az bs hn hf all hc hst hk
   cases hk with
   | part hh hm => exact all _ hm
   | under b hh hm kb =>
    have := size_mem hm w h
    exact ih _ b _ (by omega) (all b hm) kb
   | @sym _ x _ k' _ cs hh hk2 all2 s2 =>
    have all3 : ∀ c ∈ cs, Lpo g (.mk v f az) c := fun c hc2 => by
     have := size_mem hc2 x k'
     exact ih _ _ c (by omega) hst (all2 c hc2)
    rcases hc with hs | ⟨e, l, _⟩
    ·exact .sym hf hk2 all3 (hs.trans s2)
    ·have := bytes_ext e; subst this
     rw [← l] at s2
     exact .sym hf hk2 all3 s2
   | @lex _ x _ k' _ cs i2 b2 c2 hh hk2 all2 e2 l2 same2 hb2 hc2 k2 =>
    have all3 : ∀ c ∈ cs, Lpo g (.mk v f az) c := fun c hc2 => by
     have := size_mem hc2 x k'
     exact ih _ _ c (by omega) hst (all2 c hc2)
    rcases hc with hs | ⟨e, l, i, a, b, same, ha, hb, kab⟩
    ·have := bytes_ext e2; subst this
     rw [l2] at hs
     exact .sym hf hk2 all3 hs
    ·have sa := size_mem (List.mem_of_getElem? ha) v f
     have sb := size_mem (List.mem_of_getElem? hb) w h
     have sc := size_mem (List.mem_of_getElem? hc2) x k'
     rcases Nat.lt_trichotomy i i2 with hi | hi | hi
     ·exact .lex i a b hf hk2 all3 (e.trans e2) (l.trans l2) (fun j hj => (same j hj).trans (same2 j (by omega))) ha ((same2 i hi).symm.trans hb) kab
     ·subst hi
      have hbb : b = b2 := Option.some.inj (hb.symm.trans hb2)
      subst hbb
      have kac := ih a b c2 (by omega) kab k2
      exact .lex i a c2 hf hk2 all3 (e.trans e2) (l.trans l2) (fun j hj => (same j hj).trans (same2 j hj)) ha hc2 kac
     ·exact .lex i2 b2 c2 hf hk2 all3 (e.trans e2) (l.trans l2) (fun j hj => (same j (by omega)).trans (same2 j hj)) ((same i2 hi).trans hb2) hc2 k2
  cases h with
  | @part v f az _ hf hm =>
   exact .under t hf hm k
  | @under v f az _ a hf hm ka =>
   have := size_mem hm v f
   exact .under a hf hm (ih a t u (by omega) ka k)
  | @sym v w f h az bs hf hh all s => exact core v w f h az bs hn hf all (.inl s) (.sym hf hh all s) k
  | @lex v w f h az bs i a b hf hh all e l same ha hb kab => exact core v w f h az bs hn hf all (.inr ⟨e, l, i, a, b, same, ha, hb, kab⟩) (.lex i a b hf hh all e l same ha hb kab) k
theorem Lpo.trans {g : Sg} {s t u : Term} (h : Lpo g s t) (k : Lpo g t u) : Lpo g s u := Lpo.trans' g _ s t u (Nat.le_refl _) h k
theorem Lpo.irrefl (g : Sg) (s : Term) : ¬ Lpo g s s := by
 refine Term.ind (p := fun s => ¬ Lpo g s s) (fun v f az ih h => ?_) s
 have hin : ∀ a ∈ az, ¬ Lpo g a (.mk v f az) := fun a ha k => ih a ha (k.trans (.part h.fn ha))
 rw [Lpo.iff] at h
 obtain ⟨hf, ⟨a, ha, e | k⟩ | ⟨_, _, s | ⟨_, _, i, a, b, _, ha, hb, k⟩⟩⟩ := h
 ·have := size_mem ha v f
  rw [e] at this; omega
 ·exact hin a ha k
 ·exact SymGt.irrefl s
 ·have : a = b := Option.some.inj (ha.symm.trans hb)
  subst this
  exact ih a (List.mem_of_getElem? ha) k
theorem Lpo.asymm {g : Sg} {s t : Term} (h : Lpo g s t) : ¬ Lpo g t s := fun k => Lpo.irrefl g s (h.trans k)
theorem putSL_mem (s : List Bd) : ∀ {a : List Term} {x : Term}, x ∈ a → x.putS s ∈ putSL s a
 | t :: r, x, h => by
  rcases List.mem_cons.1 h with rfl | h
  ·simp [putSL]
  ·simp only [putSL]; exact List.mem_cons.2 (.inr (putSL_mem s h))
theorem putSL_mem' (s : List Bd) : ∀ {a : List Term} {y : Term}, y ∈ putSL s a → ∃ x ∈ a, y = x.putS s
 | t :: r, y, h => by
  simp only [putSL] at h
  rcases List.mem_cons.1 h with rfl | h
  ·exact ⟨t, by simp, rfl⟩
  ·obtain ⟨x, hx, e⟩ := putSL_mem' s h
   exact ⟨x, by simp [hx], e⟩
theorem putSL_get (s : List Bd) : ∀ (a : List Term) (i : Nat), (putSL s a)[i]? = (a[i]?).map (Term.putS s)
 | [], i => by simp [putSL]
 | t :: r, 0 => by simp [putSL]
 | t :: r, i + 1 => by simp [putSL, putSL_get s r i]
theorem Lpo.putS {g : Sg} (s : List Bd) {t u : Term} (h : Lpo g t u) : Lpo g (t.putS s) (u.putS s) := by
 induction h with
 | part hf h =>
  simp only [Term.putS, if_neg hf]
  exact .part hf (putSL_mem s h)
 | under a hf h k ih =>
  simp only [Term.putS, if_neg hf] at ih ⊢
  exact .under _ hf (putSL_mem s h) ih
 | sym hf hh all sg ih =>
  simp only [Term.putS, if_neg hf, if_neg hh] at ih ⊢
  refine .sym hf hh (fun b hb => ?_) (by simpa only [putSL_len] using sg)
  obtain ⟨x, hx, rfl⟩ := putSL_mem' s hb
  exact ih x hx
 | lex i a b hf hh all e l same ha hb k ih1 ih2 =>
  simp only [Term.putS, if_neg hf, if_neg hh] at ih1 ⊢
  refine .lex i (a.putS s) (b.putS s) hf hh (fun c hc => ?_) e (by simpa only [putSL_len] using l) (fun j hj => ?_) (by rw [putSL_get, ha]; rfl) (by rw [putSL_get, hb]; rfl) ih2
  ·obtain ⟨x, hx, rfl⟩ := putSL_mem' s hc
   exact ih1 x hx
  ·rw [putSL_get, putSL_get, same j hj]
theorem lpo_at (g : Sg) : ∀ (p : List Int) (t x : Term), t.at p = some x → t.shapeB = true → p ≠ [] → Lpo g t x
 | [], _, _, _, _, h => absurd rfl h
 | k :: p, .mk v fn args, x, h, hs, _ => by
  simp only [Term.at] at h
  split at h
  ·cases h
  ·cases hg : args[k.toNat]? with
   | none => rw [hg] at h; cases h
   | some y =>
    rw [hg] at h
    have hm := List.mem_of_getElem? hg
    have hfn : fn.toList ≠ [] := fun e => by
     have := shape_var hs e; subst this; simp at hg
    simp only [Term.shapeB, Bool.and_eq_true] at hs
    by_cases hp : p = []
    ·subst hp
     have : y = x := by cases y; simpa [Term.at] using h
     subst this; exact .part hfn hm
    ·exact .under y hfn hm (lpo_at g p y x h (shapeBL_mem' hs.2 y hm) hp)
theorem lpo_putAt (g : Sg) (s : Term) : ∀ (p : List Int) (t x u : Term), t.at p = some x → t.putAt p s = some u → t.shapeB = true → Lpo g x s → Lpo g t u
 | [], t, x, u, h, hu, _, k => by
  have h1 : t = x := by cases t; simpa [Term.at] using h
  have h2 : s = u := by cases t; simpa [Term.putAt] using hu
  subst h1; subst h2; exact k
 | i :: p, .mk v fn args, x, u, h, hu, hs, k => by
  simp only [Term.at] at h
  simp only [Term.putAt] at hu
  split at h
  ·cases h
  ·rename_i hi
   rw [if_neg hi] at hu
   cases hg : args[i.toNat]? with
   | none => rw [hg] at h; cases h
   | some y =>
    rw [hg] at h hu
    simp only [Option.map_eq_some_iff] at hu
    obtain ⟨w, hw, rfl⟩ := hu
    have hm := List.mem_of_getElem? hg
    have hfn : fn.toList ≠ [] := fun e => by
     have := shape_var hs e; subst this; simp at hg
    have hs2 := hs
    simp only [Term.shapeB, Bool.and_eq_true] at hs2
    have hyw := lpo_putAt g s p y x w h hw (shapeBL_mem' hs2.2 y hm) k
    have hlt : i.toNat < args.length := (List.getElem?_eq_some_iff.1 hg).1
    refine .lex i.toNat y w hfn hfn (fun b hb => ?_) rfl (by simp) (fun j hj => ?_) hg (by rw [List.getElem?_set_self hlt]) hyw
    ·rcases List.mem_or_eq_of_mem_set hb with hb | rfl
     ·exact .part hfn hb
     ·exact .under y hfn hm hyw
    ·rw [List.getElem?_set_ne (by omega)]
theorem first_diff : ∀ (a b : List Term), a.length = b.length → a ≠ b → ∃ (i : Nat) (x y : Term), (∀ j : Nat, j < i → a[j]? = b[j]?) ∧ a[i]? = some x ∧ b[i]? = some y ∧ x ≠ y
 | [], [], _, h => absurd rfl h
 | [], _ :: _, h, _ => by simp at h
 | _ :: _, [], h, _ => by simp at h
 | x :: r, y :: s, h, hn => by
  by_cases e : x = y
  ·subst e
   obtain ⟨i, u, w, h1, h2, h3, h4⟩ := first_diff r s (by simpa using h) (fun e => hn (by rw [e]))
   refine ⟨i + 1, u, w, fun j hj => ?_, by simpa using h2, by simpa using h3, h4⟩
   cases j with
   | zero => rfl
   | succ j => simpa using h1 j (by omega)
  ·exact ⟨0, x, y, fun j hj => by omega, rfl, rfl, e⟩
theorem lpo_total (g : Sg) : ∀ (n : Nat) (t u : Term), t.size + u.size ≤ n → t.shapeB = true → u.shapeB = true → t.occ = [] → u.occ = [] → t = u ∨ Lpo g t u ∨ Lpo g u t := by
 intro n
 induction n with
 | zero => intro t u h; have := t.size_pos; omega
 | succ n ih =>
  intro t u hn ht hu ho hou
  obtain ⟨v, f, az⟩ := t
  obtain ⟨w, h, bz⟩ := u
  have n1 : f.toList ≠ [] := fun e => by simp [Term.occ, e] at ho
  have n2 : h.toList ≠ [] := fun e => by simp [Term.occ, e] at hou
  have hv := shapeB_v' ht n1
  have hw := shapeB_v' hu n2
  have hoA : ∀ {l : List Term}, occL l = [] → ∀ x ∈ l, x.occ = [] := by
   intro l
   induction l with
   | nil => intro _ x hx; simp at hx
   | cons y r ih2 =>
    intro hl x hx
    simp only [occL, List.append_eq_nil_iff] at hl
    rcases List.mem_cons.1 hx with rfl | hx
    ·exact hl.1
    ·exact ih2 hl.2 x hx
  have o1 : occL az = [] := by simpa [Term.occ, n1] using ho
  have o2 : occL bz = [] := by simpa [Term.occ, n2] using hou
  have s1 := ht
  have s2 := hu
  simp only [Term.shapeB, Bool.and_eq_true] at s1 s2
  by_cases c1 : ∃ a ∈ az, a = .mk w h bz ∨ Lpo g a (.mk w h bz)
  ·obtain ⟨a, ha, e | k⟩ := c1
   ·subst e; exact .inr (.inl (.part n1 ha))
   ·exact .inr (.inl (.under a n1 ha k))
  by_cases c2 : ∃ b ∈ bz, b = .mk v f az ∨ Lpo g b (.mk v f az)
  ·obtain ⟨b, hb, e | k⟩ := c2
   ·subst e; exact .inr (.inr (.part n2 hb))
   ·exact .inr (.inr (.under b n2 hb k))
  have allA : ∀ a ∈ az, Lpo g (.mk w h bz) a := fun a ha => by
   have := size_mem ha v f
   rcases ih a (.mk w h bz) (by omega) (shapeBL_mem' s1.2 a ha) hu (hoA o1 a ha) hou with e | e | e
   ·exact absurd ⟨a, ha, .inl e⟩ c1
   ·exact absurd ⟨a, ha, .inr e⟩ c1
   ·exact e
  have allB : ∀ b ∈ bz, Lpo g (.mk v f az) b := fun b hb => by
   have := size_mem hb w h
   rcases ih b (.mk v f az) (by omega) (shapeBL_mem' s2.2 b hb) ht (hoA o2 b hb) ho with e | e | e
   ·exact absurd ⟨b, hb, .inl e⟩ c2
   ·exact absurd ⟨b, hb, .inr e⟩ c2
   ·exact e
  rcases SymGt.total g f h az.length bz.length with c | c | ⟨e, l⟩
  ·exact .inr (.inl (.sym n1 n2 allB c))
  ·exact .inr (.inr (.sym n2 n1 allA c))
  ·by_cases hab : az = bz
   ·exact .inl (by rw [hab, hv, hw, bytes_ext e])
   ·obtain ⟨i, x, y, h1, h2, h3, h4⟩ := first_diff az bz l hab
    have sx := size_mem (List.mem_of_getElem? h2) v f
    have sy := size_mem (List.mem_of_getElem? h3) w h
    rcases ih x y (by omega) (shapeBL_mem' s1.2 x (List.mem_of_getElem? h2)) (shapeBL_mem' s2.2 y (List.mem_of_getElem? h3)) (hoA o1 x (List.mem_of_getElem? h2)) (hoA o2 y (List.mem_of_getElem? h3)) with k | k | k
    ·exact absurd k h4
    ·exact .inr (.inl (.lex i x y n1 n2 allB e l h1 h2 h3 k))
    ·exact .inr (.inr (.lex i y x n2 n1 allA e.symm l.symm (fun j hj => (h1 j hj).symm) h3 h2 k))
end Go.Proofs.YtajilkmepjhkdaaGreat.Am

/-
 The table of parts as mathematics: where a term's parts lie. No condition.
-/
namespace Go.Proofs.YtajilkmepjhkdaaGreat.Am
open Go Go.Proofs
set_option linter.unusedSimpArgs false
set_option linter.unusedVariables false
abbrev Laid := List Term × List (List Int)
mutual
def Term.lay : Term → Laid → Laid × Int
 | .mk v fn args, s => (((layL args s []).1.1 ++ [.mk v fn args], (layL args s []).1.2 ++ [(layL args s []).2]), ((layL args s []).1.1.length : Int))
def layL : List Term → Laid → List Int → Laid × List Int
 | [], s, own => (s, own)
 | t :: r, s, own => layL r (t.lay s).1 (own ++ [(t.lay s).2])
end
structure LOk (s : Laid) : Prop where
 len : s.1.length = s.2.length
 own : ∀ (i : Nat) v fn args, s.1[i]? = some (.mk v fn args) → ∃ ns, s.2[i]? = some ns ∧ ns.length = args.length ∧ ∀ (j : Nat) n, ns[j]? = some n → ∃ m : Nat, n = m ∧ m < i ∧ s.1[m]? = args[j]?
def Pre (s s' : Laid) : Prop := ∀ (i : Nat) x, s.1[i]? = some x → s'.1[i]? = some x
theorem Pre.trans {a b c : Laid} (h : Pre a b) (k : Pre b c) : Pre a c := fun i x hx => k i x (h i x hx)
def Tells (s : Laid) (own : List Int) (done : List Term) : Prop := own.length = done.length ∧ ∀ (j : Nat) n, own[j]? = some n → ∃ m : Nat, n = m ∧ m < s.1.length ∧ s.1[m]? = done[j]?
theorem layL_lok (a : List Term) (h : ∀ x ∈ a, ∀ s, LOk s → LOk (x.lay s).1 ∧ Pre s (x.lay s).1 ∧ ∃ m : Nat, (x.lay s).2 = m ∧ (x.lay s).1.1[m]? = some x) :
  ∀ s own done, LOk s → Tells s own done → LOk (layL a s own).1 ∧ Pre s (layL a s own).1 ∧ Tells (layL a s own).1 (layL a s own).2 (done ++ a) := by
 induction a with
 | nil => intro s own done hs ht; simp only [layL, List.append_nil]; exact ⟨hs, fun _ _ h => h, ht⟩
 | cons y r ih =>
  intro s own done hs ht
  obtain ⟨h1, h2, m, hm1, hm2⟩ := h y (by simp) s hs
  simp only [layL]
  have ht2 : Tells (y.lay s).1 (own ++ [(y.lay s).2]) (done ++ [y]) := by
   refine ⟨by simp [ht.1], fun j n hj => ?_⟩
   rw [List.getElem?_append] at hj
   split at hj
   ·rename_i hjl
    obtain ⟨k, rfl, hk, hk2⟩ := ht.2 j n hj
    have hd : (done ++ [y])[j]? = done[j]? := List.getElem?_append_left (by have := ht.1; omega)
    have hs1 : s.1[k]? = some s.1[k] := List.getElem?_eq_getElem hk
    have h3 := h2 k _ hs1
    refine ⟨k, rfl, (List.getElem?_eq_some_iff.1 h3).1, ?_⟩
    rw [h3, hd, ← hk2, hs1]
   ·rename_i hjl
    have : j - own.length = 0 := by
     rcases Nat.eq_zero_or_pos (j - own.length) with e | e
     ·exact e
     ·rw [List.getElem?_eq_none (by simp; omega)] at hj; cases hj
    have hj2 : j = done.length := by have := ht.1; omega
    rw [this] at hj
    simp at hj
    subst hj
    refine ⟨m, hm1, (List.getElem?_eq_some_iff.1 hm2).1, ?_⟩
    rw [hm2, hj2]; simp
  obtain ⟨k1, k2, k3⟩ := ih (fun x hx => h x (by simp [hx])) _ _ _ h1 ht2
  exact ⟨k1, h2.trans k2, by simpa using k3⟩
theorem lay_lok (t : Term) : ∀ s, LOk s → LOk (t.lay s).1 ∧ Pre s (t.lay s).1 ∧ ∃ m : Nat, (t.lay s).2 = m ∧ (t.lay s).1.1[m]? = some t := by
 refine Term.ind (p := fun t => ∀ s, LOk s → LOk (t.lay s).1 ∧ Pre s (t.lay s).1 ∧ ∃ m : Nat, (t.lay s).2 = m ∧ (t.lay s).1.1[m]? = some t) (fun v fn args ih s hs => ?_) t
 obtain ⟨h1, h2, h3⟩ := layL_lok args ih s [] [] hs ⟨rfl, fun j n h => by simp at h⟩
 simp only [Term.lay]
 simp only [List.nil_append] at h3
 generalize layL args s [] = q at h1 h2 h3
 obtain ⟨⟨l, o⟩, ns⟩ := q
 simp only at h1 h2 h3 ⊢
 have hl : l.length = o.length := h1.len
 have hpre : Pre (l, o) (l ++ [.mk v fn args], o ++ [ns]) := fun i x hx => by
  have := (List.getElem?_eq_some_iff.1 hx).1
  simp only at hx this ⊢
  rw [List.getElem?_append_left this]; exact hx
 refine ⟨⟨by simp [hl], fun i v' fn' args' hi => ?_⟩, h2.trans hpre, l.length, rfl, by simp⟩
 simp only at hi ⊢
 rw [List.getElem?_append] at hi
 split at hi
 ·rename_i hil
  obtain ⟨ns', a1, a2, a3⟩ := h1.own i v' fn' args' hi
  simp only at a1 a3
  refine ⟨ns', by rw [List.getElem?_append_left (by omega)]; exact a1, a2, fun j n hj => ?_⟩
  obtain ⟨m, b1, b2, b3⟩ := a3 j n hj
  exact ⟨m, b1, b2, by rw [List.getElem?_append_left (by omega)]; exact b3⟩
 ·rename_i hil
  have h0 : i - l.length = 0 := by
   rcases Nat.eq_zero_or_pos (i - l.length) with e | e
   ·exact e
   ·rw [List.getElem?_eq_none (by simp; omega)] at hi; cases hi
  rw [h0] at hi
  simp only [List.getElem?_cons_zero, Option.some.injEq, Term.mk.injEq] at hi
  obtain ⟨rfl, rfl, rfl⟩ := hi
  have hi2 : i = l.length := by omega
  refine ⟨ns, by rw [hi2, hl]; simp, h3.1, fun j n hj => ?_⟩
  obtain ⟨m, b1, b2, b3⟩ := h3.2 j n hj
  simp only at b2 b3
  exact ⟨m, b1, by omega, by rw [List.getElem?_append_left b2]; exact b3⟩
theorem lok_nil : LOk ([], []) := ⟨rfl, fun i v fn args h => by simp at h⟩
end Go.Proofs.YtajilkmepjhkdaaGreat.Am

/-
 The document's table of parts: what its function does to a pair of rows. No condition.
-/
namespace Go.Proofs.YtajilkmepjhkdaaGreat.Am
open Go Go.Proofs
set_option maxHeartbeats 4000000
set_option linter.unusedSimpArgs false
set_option linter.unusedVariables false
def encO (l : List (List Int)) : List D := l.map fun x => .sl (encI x) x.length false (some (decide (x = [])))
def rowO (l : List (List Int)) : Am.Obj := if l = [] then .vnil else .grow ((encO l).map .d)
def rowOA (o : Oid) (l : List (List Int)) : AV := .osl o 0 l.length 1 l.length
structure LaySt (H : Hp) (o ol oo : Oid) (s : Laid) : Prop where
 o : H o = some (.cells [rowA ol s.1, rowOA oo s.2])
 ol : H ol = some (rowT s.1)
 oo : H oo = some (rowO s.2)
def DoesL (f : FuncId) (args : List AV) (o ol oo : Oid) (x y : Laid) (v : AV) : Prop :=
 ∀ H nx, o.1 < nx → ol.1 < nx → oo.1 < nx → LaySt H o ol oo x → ∃ q : Hp × Nat, acall Tryz.prog plc f args H nx = some (v, q.1, q.2) ∧ nx ≤ q.2 ∧ LaySt q.1 o ol oo y ∧ ∀ p, p.1 < nx → p ≠ o → p ≠ ol → p ≠ oo → q.1 p = H p
theorem DoesL.fn {f : FuncId} {args : List AV} {o ol oo : Oid} {x y : Laid} {v : AV} (h : DoesL f args o ol oo x y v) :
  ∃ (F : Hp → Nat → Hp) (N : Hp → Nat → Nat), ∀ H nx, o.1 < nx → ol.1 < nx → oo.1 < nx → LaySt H o ol oo x → acall Tryz.prog plc f args H nx = some (v, F H nx, N H nx) ∧ nx ≤ N H nx ∧ LaySt (F H nx) o ol oo y ∧ ∀ p, p.1 < nx → p ≠ o → p ≠ ol → p ≠ oo → F H nx p = H p := by
 have h2 : ∀ z : Hp × Nat, ∃ q : Hp × Nat, o.1 < z.2 → ol.1 < z.2 → oo.1 < z.2 → LaySt z.1 o ol oo x → acall Tryz.prog plc f args z.1 z.2 = some (v, q.1, q.2) ∧ z.2 ≤ q.2 ∧ LaySt q.1 o ol oo y ∧ ∀ p, p.1 < z.2 → p ≠ o → p ≠ ol → p ≠ oo → q.1 p = z.1 p := fun z => by
  by_cases h1 : o.1 < z.2 ∧ ol.1 < z.2 ∧ oo.1 < z.2 ∧ LaySt z.1 o ol oo x
  ·obtain ⟨q, hq⟩ := h z.1 z.2 h1.1 h1.2.1 h1.2.2.1 h1.2.2.2
   exact ⟨q, fun _ _ _ _ => hq⟩
  ·exact ⟨default, fun a b c d => absurd ⟨a, b, c, d⟩ h1⟩
 obtain ⟨G, hG⟩ := Classical.skolem.1 h2
 exact ⟨fun H nx => (G (H, nx)).1, fun H nx => (G (H, nx)).2, fun H nx a b c d => hG (H, nx) a b c d⟩
theorem LaySt.upd {H : Hp} {o ol oo : Oid} {s : Laid} (h : LaySt H o ol oo s) {k : Nat} {j : Nat} {x : Am.Obj} (h1 : o.1 < k) (h2 : ol.1 < k) (h3 : oo.1 < k) : LaySt (Am.upd H (k, j) x) o ol oo s :=
 ⟨by rw [upd_old h1]; exact h.o, by rw [upd_old h2]; exact h.ol, by rw [upd_old h3]; exact h.oo⟩
theorem LaySt.upd3 {H : Hp} {o ol oo : Oid} {s : Laid} (h : LaySt H o ol oo s) {nx : Nat} {x y : Am.Obj} (h1 : o.1 < nx) (h2 : ol.1 < nx) (h3 : oo.1 < nx) : LaySt (Am.upd (Am.upd H (nx, 0) x) (nx + 2, 1) y) o ol oo s :=
 (h.upd h1 h2 h3).upd (by omega) (by omega) (by omega)
theorem LaySt.below {H : Hp} {o ol oo : Oid} {s : Laid} (h : LaySt H o ol oo s) {k : Nat} (h1 : o.1 < k) (h2 : ol.1 < k) (h3 : oo.1 < k) : LaySt (Am.below k H) o ol oo s :=
 ⟨by rw [below_lt h1]; exact h.o, by rw [below_lt h2]; exact h.ol, by rw [below_lt h3]; exact h.oo⟩
theorem lay_size : ∀ (t : Term) (s : Laid), (t.lay s).1.1.length = s.1.length + t.size := by
 intro t
 refine Term.ind (p := fun t => ∀ s : Laid, (t.lay s).1.1.length = s.1.length + t.size) (fun v fn args ih s => ?_) t
 have hl : ∀ (a : List Term), (∀ x ∈ a, ∀ s : Laid, (x.lay s).1.1.length = s.1.length + x.size) → ∀ (s : Laid) own, (layL a s own).1.1.length = s.1.length + sizeL a := by
  intro a
  induction a with
  | nil => intro _ s own; simp [layL, sizeL]
  | cons y r ih2 =>
   intro h s own
   simp only [layL, sizeL]
   rw [ih2 (fun z hz => h z (by simp [hz])), h y (by simp)]
   omega
 simp only [Term.lay, List.length_append, List.length_singleton, hl args ih, Term.size]; omega
theorem fresh_ne {o : Oid} {n : Nat} (h : o.1 < n) (k j : Nat) : (n + k, j) ≠ o := fun e => by rw [← e] at h; simp only at h; omega
theorem upd_ne {H : Hp} {o p : Oid} {x : Am.Obj} (h : p ≠ o) : Am.upd H o x p = H p := by simp only [Am.upd]; rw [if_neg h]
theorem len_sizeLw : ∀ (a : List Term), a.length ≤ sizeL a
 | [] => by simp
 | x :: r => by have := x.size_pos; have := len_sizeLw r; simp only [List.length_cons, sizeL]; omega
theorem layL_size (a : List Term) : ∀ (s : Laid) (own : List Int), (layL a s own).1.1.length = s.1.length + sizeL a := by
 induction a with
 | nil => intro s own; simp [layL, sizeL]
 | cons y r ih => intro s own; simp only [layL, sizeL]; rw [ih, lay_size]; omega
theorem layL_ns (a : List Term) : ∀ (s : Laid) (own : List Int), (layL a s own).2.length = own.length + a.length := by
 induction a with
 | nil => intro s own; simp [layL]
 | cons y r ih => intro s own; simp only [layL]; rw [ih]; simp; omega
theorem lay_same (t : Term) : ∀ s : Laid, s.1.length = s.2.length → (t.lay s).1.1.length = (t.lay s).1.2.length := by
 refine Term.ind (p := fun t => ∀ s : Laid, s.1.length = s.2.length → (t.lay s).1.1.length = (t.lay s).1.2.length) (fun v fn args ih s h => ?_) t
 have hl : ∀ (a : List Term), (∀ x ∈ a, ∀ s : Laid, s.1.length = s.2.length → (x.lay s).1.1.length = (x.lay s).1.2.length) → ∀ (s : Laid) own, s.1.length = s.2.length → (layL a s own).1.1.length = (layL a s own).1.2.length := by
  intro a
  induction a with
  | nil => intro _ s own h; simpa [layL] using h
  | cons y r ih2 => intro h s own hs; simp only [layL]; exact ih2 (fun z hz => h z (by simp [hz])) _ _ (h y (by simp) s hs)
 simp only [Term.lay, List.length_append, List.length_singleton, hl args ih s [] h]
theorem layL_same (a : List Term) : ∀ (s : Laid) (own : List Int), s.1.length = s.2.length → (layL a s own).1.1.length = (layL a s own).1.2.length := by
 induction a with
 | nil => intro s own h; simpa [layL] using h
 | cons y r ih => intro s own h; simp only [layL]; exact ih _ _ (lay_same y s h)
def LayEnd (o ol oo : Oid) (nx : Nat) (H : Hp) (v : Int) (fn : ByteArray) (args : List Term) (r : Laid × List Int) (e : Ex) (t : St) : Prop :=
 ∃ H2 nx2, e = .exit 0 ∧ t = ⟨[.ptr o 0 2, .junk, .junk, .ptr (nx, 0) 0 3, .d (.int .i64 0), .osl (nx + 2, 1) 0 r.2.length 1 r.2.length, .d (.int .i64 args.length), .junk, .junk, .junk, .junk, .junk, .junk, .junk, .junk, .junk, .junk, .junk, .junk, .junk, .junk, .junk, .junk, .junk, .junk, .junk, .junk, .junk, .junk, .junk, .junk, .junk, .junk, .junk, .junk, .junk, .junk, .junk, .junk, .junk, .junk, .junk, .junk, .junk, .junk, .junk, .junk, .junk, .junk, .junk, .junk], H2, nx2⟩ ∧ nx + 4 ≤ nx2 ∧ LaySt H2 o ol oo r.1 ∧
  H2 (nx, 0) = some (.cells [.d (.int .i64 v), .d (.str fn), .d (.sl (encL args) args.length false none)]) ∧ H2 (nx + 2, 1) = some (rowI r.2) ∧ ∀ p, p.1 < nx → p ≠ o → p ≠ ol → p ≠ oo → H2 p = H p
theorem lay_loop (o ol oo : Oid) (v : Int) (fn : ByteArray) (args : List Term) (hok : okL args) (hsz : sizeL args ≤ 1048576) (ih : ∀ x ∈ args, ∀ s : Laid, s.1.length = s.2.length → s.1.length + x.size ≤ 1048576 → DoesL 96 [.ptr o 0 2, .d (.agg x.enc)] o ol oo s (x.lay s).1 (.d (.int .i64 (x.lay s).2)))
  (s : Laid) (hsl : s.1.length = s.2.length) (hs0 : s.1.length + sizeL args ≤ 1048576) (H H1 : Hp) (nx : Nat) (h1 : o.1 < nx) (h2 : ol.1 < nx) (h3 : oo.1 < nx) (hs : LaySt H1 o ol oo s) (hb : H1 (nx, 0) = some (.cells [.d (.int .i64 v), .d (.str fn), .d (.sl (encL args) args.length false none)])) (hr : H1 (nx + 2, 1) = some (rowI []))
  (hfr : ∀ p, p.1 < nx → p ≠ o → p ≠ ol → p ≠ oo → H1 p = H p) :
  ∃ e t, aloop Tryz.prog plc b96_0 ⟨[true, false, false, true, true, true, true, false, false, false, false, false, false, false, false, false, false, false, false, false, false, false, false, false, true, true, true, true, true, true, true, true, true, true, true, true, true, true, true, true, true, true, true, true, true, true, true, true, true, true, true], some (nx + 4)⟩ ⟨[.ptr o 0 2, .junk, .junk, .ptr (nx, 0) 0 3, .d (.int .i64 0), .osl (nx + 2, 1) 0 0 1 0, .d (.int .i64 0), .junk, .junk, .junk, .junk, .junk, .junk, .junk, .junk, .junk, .junk, .junk, .junk, .junk, .junk, .junk, .junk, .junk, .junk, .junk, .junk, .junk, .junk, .junk, .junk, .junk, .junk, .junk, .junk, .junk, .junk, .junk, .junk, .junk, .junk, .junk, .junk, .junk, .junk, .junk, .junk, .junk, .junk, .junk, .junk], H1, nx + 4⟩ = some (e, t) ∧ LayEnd o ol oo nx H v fn args (layL args s []) e t := by
 have hn0 := len_sizeLw args
 have hn : args.length ≤ 9223372036854775807 := by omega
 have key := loop_rule (P := Tryz.prog) (pol := plc) (c := b96_0) (m := ⟨[true, false, false, true, true, true, true, false, false, false, false, false, false, false, false, false, false, false, false, false, false, false, false, false, true, true, true, true, true, true, true, true, true, true, true, true, true, true, true, true, true, true, true, true, true, true, true, true, true, true, true], some (nx + 4)⟩)
  (b := nx + 4) (tm := fun (x : Nat × Laid × List Int × Hp) => [.ptr o 0 2, .junk, .junk, .ptr (nx, 0) 0 3, .d (.int .i64 0), .osl (nx + 2, 1) 0 x.2.2.1.length 1 x.2.2.1.length, .d (.int .i64 x.1), .junk, .junk, .junk, .junk, .junk, .junk, .junk, .junk, .junk, .junk, .junk, .junk, .junk, .junk, .junk, .junk, .junk, .junk, .junk, .junk, .junk, .junk, .junk, .junk, .junk, .junk, .junk, .junk, .junk, .junk, .junk, .junk, .junk, .junk, .junk, .junk, .junk, .junk, .junk, .junk, .junk, .junk, .junk, .junk]) (Hf := fun x => x.2.2.2)
  (I := fun x => x.1 ≤ args.length ∧ x.2.2.1.length = x.1 ∧ x.2.1.1.length = x.2.1.2.length ∧ x.2.1.1.length + sizeL (args.drop x.1) ≤ 1048576 ∧ LaySt x.2.2.2 o ol oo x.2.1 ∧ x.2.2.2 (nx, 0) = some (.cells [.d (.int .i64 v), .d (.str fn), .d (.sl (encL args) args.length false none)]) ∧ x.2.2.2 (nx + 2, 1) = some (rowI x.2.2.1) ∧ ∀ p, p.1 < nx → p ≠ o → p ≠ ol → p ≠ oo → x.2.2.2 p = H p)
  (μ := fun x => args.length - x.1) (res := fun x => layL (args.drop x.1) x.2.1 x.2.2.1) (R := LayEnd o ol oo nx H v fn args)
  (fun x nx1 hI => by
   obtain ⟨i, st, own, HH⟩ := x
   obtain ⟨hi, hown, hsame, hsz1, hS, hbx, hrow, hF⟩ := hI
   simp only at hi hown hsame hsz1 hS hbx hrow hF ⊢
   rcases Nat.lt_or_ge i args.length with hl | hl
   ·obtain ⟨v', fn', args', a⟩ := at_ok hn hl
    have hdr : sizeL (args.drop i) = (Term.mk v' fn' args').size + sizeL (args.drop (i + 1)) := by rw [a.dr]; rfl
    obtain ⟨F, N, hFN⟩ := (ih _ a.mem st hsame (by omega)).fn
    simp [Term.enc] at hFN
    have hb1 : own.length ≤ 68719476735 := by omega
    conv => arg 9; arg 4; unfold b96_0
    have hlo1 : ∀ k, o.1 < nx1 + (nx + k) := fun k => by omega
    have hlo2 : ∀ k, ol.1 < nx1 + (nx + k) := fun k => by omega
    have hlo3 : ∀ k, oo.1 < nx1 + (nx + k) := fun k => by omega
    have hFc := fun H nx a b c d => (hFN H nx a b c d).1
    simp [a.lti, a.sz, a.ltm, a.cells, a.le3, plc_raw, a.w, Nat.add_assoc, hbx, hFc, hlo1, hlo2, hlo3, hS]
    obtain ⟨_, hF2, hF3, hF4⟩ := hFN HH (nx1 + (nx + 20)) (hlo1 20) (hlo2 20) (hlo3 20) hS
    have hne : (nx + 2, 1) ≠ o := fresh_ne h1 _ _
    have hne2 : (nx + 2, 1) ≠ ol := fresh_ne h2 _ _
    have hne3 : (nx + 2, 1) ≠ oo := fresh_ne h3 _ _
    have hnb : (nx, 0) ≠ o := fresh_ne h1 0 _
    have hnb2 : (nx, 0) ≠ ol := fresh_ne h2 0 _
    have hnb3 : (nx, 0) ≠ oo := fresh_ne h3 0 _
    have hrow2 : F HH (nx1 + (nx + 20)) (nx + 2, 1) = some (rowI own) := (hF4 _ _ (by omega) hne hne2 hne3).trans hrow
    have hbx2 : F HH (nx1 + (nx + 20)) (nx, 0) = some (.cells [.d (.int .i64 v), .d (.str fn), .d (.sl (encL args) args.length false none)]) := (hF4 _ _ (by omega) hnb hnb2 hnb3).trans hbx
    have happ := append_rowI (id := nx1 + (nx + 18)) (H := upd (F HH (nx1 + (nx + 20))) (nx1 + (nx + 17), 0) (.cells [.d (.int .i64 ((Term.mk v' fn' args').lay st).2)])) (o := (nx + 2, 1)) (o2 := (nx1 + (nx + 17), 0)) (l := own) (x := ((Term.mk v' fn' args').lay st).2) (by rw [upd_old (o := (nx + 2, 1)) (by simp; omega)]; exact hrow2) (by simp [upd]) hb1
    simp [happ, a.w]
    generalize hH9 : Am.upd (below (nx + 4) (Am.upd (F HH (nx1 + (nx + 20))) (nx1 + (nx + 17), 0) (.cells [.d (.int .i64 ((Term.mk v' fn' args').lay st).2)]))) (nx + 2, 1) (rowI (own ++ [((Term.mk v' fn' args').lay st).2])) = H9
    have h9 : ∀ p : Oid, p.1 < nx + 4 → p ≠ (nx + 2, 1) → H9 p = F HH (nx1 + (nx + 20)) p := fun p hp hq => by rw [← hH9, upd_ne hq, below_lt hp, upd_old (by omega)]
    refine .next (i + 1, ((Term.mk v' fn' args').lay st).1, own ++ [((Term.mk v' fn' args').lay st).2], H9) ?_ (by simp) rfl ⟨hl, by simp; omega, lay_same _ _ hsame, ?_, ?_, ?_, ?_, ?_⟩ (by simp; omega) (by simp only [a.dr, layL])
    ·omega
    ·simp only [lay_size]; omega
    ·exact ⟨(h9 _ (by omega) hne.symm).trans hF3.o, (h9 _ (by omega) hne2.symm).trans hF3.ol, (h9 _ (by omega) hne3.symm).trans hF3.oo⟩
    ·exact (h9 _ (by simp) (by simp)).trans hbx2
    ·show H9 (nx + 2, 1) = _
     rw [← hH9]; simp [Am.upd]
    ·intro x y hp e1 e2 e3
     exact (h9 (x, y) (by simp; omega) (fun e => by cases e; omega)).trans ((hF4 x y (by omega) e1 e2 e3).trans (hF (x, y) hp e1 e2 e3))
   ·obtain rfl : i = args.length := Nat.le_antisymm hi hl
    have hr : layL (args.drop args.length) st own = (st, own) := by simp only [List.drop_length, layL]
    simp [b96_0, hbx]
    refine .fin _ _ ?_
    simp only [hr]
    exact ⟨_, _, rfl, rfl, by omega, hS.below (by omega) (by omega) (by omega), (below_lt (by simp)).trans hbx, (below_lt (by simp)).trans hrow, fun p hp e1 e2 e3 => (below_lt (by omega)).trans (hF p hp e1 e2 e3)⟩) (0, s, [], H1) ⟨Nat.zero_le _, rfl, hsl, by simpa using hs0, hs, hb, hr, hfr⟩
 simpa using key
theorem lay_ok (o ol oo : Oid) (d1 : o ≠ ol) (d2 : o ≠ oo) (d3 : ol ≠ oo) (t : Term) : t.ok → ∀ s : Laid, s.1.length = s.2.length → s.1.length + t.size ≤ 1048576 → DoesL 96 [.ptr o 0 2, .d (.agg t.enc)] o ol oo s (t.lay s).1 (.d (.int .i64 (t.lay s).2)) := by
 refine Term.ind (p := fun t => t.ok → ∀ s : Laid, s.1.length = s.2.length → s.1.length + t.size ≤ 1048576 → DoesL 96 [.ptr o 0 2, .d (.agg t.enc)] o ol oo s (t.lay s).1 (.d (.int .i64 (t.lay s).2))) (fun v fn args ih h s hsl hsz => ?_) t
 intro H nx h1 h2 h3 hs
 have hsz2 : s.1.length + sizeL args ≤ 1048576 := by simp only [Term.size] at hsz; omega
 have hne : ∀ k j, (nx + k, j) ≠ o := fun k j => fresh_ne h1 k j
 have hne0 : ∀ j, (nx, j) ≠ o := fun j => fresh_ne h1 0 j
 obtain ⟨e, t, hrun, H2, nx2, rfl, rfl, hnx2, hS2, hb2, hr2, hF2⟩ := lay_loop o ol oo v fn args h.2 (by omega) (fun x hx s hs hz => ih x hx (okL_mem h.2 _ hx) s hs hz) s hsl hsz2 H
  (Am.upd (Am.upd H (nx, 0) (.cells [.d (.int .i64 v), .d (.str fn), .d (.sl (encL args) args.length false none)])) (nx + 2, 1) .vnil) nx h1 h2 h3 (hs.upd3 h1 h2 h3) (by simp [Am.upd]) (by simp [Am.upd, rowI_nil]) (fun p hp _ _ _ => by rw [upd_old (by omega), upd_old (by omega)])
 have ho2 := hS2.o
 have hol2 := hS2.ol
 have hoo2 := hS2.oo
 have hlz := layL_size args s []
 have hls := layL_same args s [] hsl
 have hlr := layL_ns args s []
 simp only [Term.lay]
 generalize layL args s [] = r at *
 obtain ⟨⟨l, own⟩, ns⟩ := r
 simp only at hrun ho2 hol2 hoo2 hlz hls hlr hr2 hS2 ⊢
 have f1 : ∀ k j x H', Am.upd H' (nx2 + k, j) x o = H' o := fun k j x H' => upd_old (by omega) j x H'
 have f2 : ∀ k j x H', Am.upd H' (nx2 + k, j) x ol = H' ol := fun k j x H' => upd_old (by omega) j x H'
 have f3 : ∀ k j x H', Am.upd H' (nx2 + k, j) x oo = H' oo := fun k j x H' => upd_old (by omega) j x H'
 have f4 : ∀ k j x H', Am.upd H' (nx2 + k, j) x (nx + 2, 1) = H' (nx + 2, 1) := fun k j x H' => upd_old (o := (nx + 2, 1)) (by simp; omega) j x H'
 have e1 : ∀ x H', Am.upd H' ol x o = H' o := fun x H' => upd_ne d1
 have e2 : ∀ x H', Am.upd H' oo x o = H' o := fun x H' => upd_ne d2
 have e3 : ∀ x H', Am.upd H' o x ol = H' ol := fun x H' => upd_ne (Ne.symm d1)
 have e4 : ∀ x H', Am.upd H' oo x ol = H' ol := fun x H' => upd_ne d3
 have e5 : ∀ x H', Am.upd H' o x oo = H' oo := fun x H' => upd_ne (Ne.symm d2)
 have e6 : ∀ x H', Am.upd H' ol x oo = H' oo := fun x H' => upd_ne (Ne.symm d3)
 have e7 : ∀ x H', Am.upd H' o x (nx + 2, 1) = H' (nx + 2, 1) := fun x H' => upd_ne (fresh_ne h1 2 1)
 have e8 : ∀ x H', Am.upd H' ol x (nx + 2, 1) = H' (nx + 2, 1) := fun x H' => upd_ne (fresh_ne h2 2 1)
 have e9 : ∀ x H', Am.upd H' oo x (nx + 2, 1) = H' (nx + 2, 1) := fun x H' => upd_ne (fresh_ne h3 2 1)
 have g1 : ∀ k j, ¬ o = (nx2 + k, j) := fun k j => Ne.symm (fresh_ne (by omega) k j)
 have g2 : ∀ k j, ¬ ol = (nx2 + k, j) := fun k j => Ne.symm (fresh_ne (by omega) k j)
 have g3 : ∀ k j, ¬ oo = (nx2 + k, j) := fun k j => Ne.symm (fresh_ne (by omega) k j)
 have hmd := fun H n l => mapD_encI2 H n l
 have htk : ∀ (l : List Int) (f : Int → AV), List.take l.length (List.map f l) = List.map f l := fun l f => List.take_of_length_le (by simp)
 have hw0 : IntKind.i64.wrap 0 = 0 := rfl
 have g4 : ¬ o = (nx + 2, 1) := Ne.symm (fresh_ne h1 2 1)
 have g5 : ¬ ol = (nx + 2, 1) := Ne.symm (fresh_ne h2 2 1)
 have g6 : ¬ oo = (nx + 2, 1) := Ne.symm (fresh_ne h3 2 1)
 suffices hh : ∃ (H' : Hp) (n' : Nat), acall Tryz.prog plc 96 [.ptr o 0 2, .d (.agg (Term.mk v fn args).enc)] H nx = some (.d (.int .i64 l.length), H', n') ∧ nx ≤ n' ∧ LaySt H' o ol oo (l ++ [.mk v fn args], own ++ [ns]) ∧ ∀ p : Oid, p.1 < nx → p ≠ o → p ≠ ol → p ≠ oo → H' p = H p by
  obtain ⟨a, b, h⟩ := hh
  exact ⟨(a, b), h⟩
 cases l with
 | nil =>
  obtain rfl : own = [] := by simpa using hls.symm
  simp [rowA, rowT, rowOA, rowO, encO] at ho2 hol2 hoo2
  cases ns with
  | nil =>
   simp [rowI] at hr2
   apply Exists.intro
   apply Exists.intro
   refine ⟨acall_body code96 ?_, ?_, ?_, ?_⟩
   ·simp [plc_raw, Term.enc, Nat.add_assoc, hrun, ho2, hol2, hoo2, hb2, hr2, appendO, srcCells, srcRaw, growO, kill, f1, f2, f3, f4, e1, e2, e3, e4, e5, e6, e7, e8, e9, g1, g2, g3, g4, g5, g6, d1, d2, d3, d1.symm, d2.symm, d3.symm, hmd, htk, hw0]
    exact ⟨rfl, rfl⟩
   ·omega
   ·refine ⟨?_, ?_, ?_⟩
    ·simp [kill, f1, f2, f3, f4, e1, e2, e3, e4, e5, e6, e7, e8, e9, g1, g2, g3, g4, g5, g6, d1, d2, d3, d1.symm, d2.symm, d3.symm, rowA, rowOA]
    ·simp [kill, f1, f2, f3, f4, e1, e2, e3, e4, e5, e6, e7, e8, e9, g1, g2, g3, g4, g5, g6, d1, d2, d3, d1.symm, d2.symm, d3.symm, rowT, encL, Term.enc]
    ·simp [kill, f1, f2, f3, f4, e1, e2, e3, e4, e5, e6, e7, e8, e9, g1, g2, g3, g4, g5, g6, d1, d2, d3, d1.symm, d2.symm, d3.symm, rowO, encO, encI]
   ·intro p hp q1 q2 q3
    have g9 : ∀ k j, ¬ p = (nx2 + k, j) := fun k j => Ne.symm (fresh_ne (by omega) k j)
    have g8 : ∀ j, ¬ p = (nx + 2, j) := fun j => Ne.symm (fresh_ne hp 2 j)
    simp [kill, upd_ne, q1, q2, q3, g9, g8]
    exact hF2 p hp q1 q2 q3
  | cons n0 nr =>
   simp [rowI, encI] at hr2
   apply Exists.intro
   apply Exists.intro
   refine ⟨acall_body code96 ?_, ?_, ?_, ?_⟩
   ·simp [plc_raw, Term.enc, Nat.add_assoc, hrun, ho2, hol2, hoo2, hb2, hr2, appendO, srcCells, srcRaw, growO, kill, f1, f2, f3, f4, e1, e2, e3, e4, e5, e6, e7, e8, e9, g1, g2, g3, g4, g5, g6, d1, d2, d3, d1.symm, d2.symm, d3.symm, hmd, htk, hw0]
    exact ⟨rfl, rfl⟩
   ·omega
   ·refine ⟨?_, ?_, ?_⟩
    ·simp [kill, f1, f2, f3, f4, e1, e2, e3, e4, e5, e6, e7, e8, e9, g1, g2, g3, g4, g5, g6, d1, d2, d3, d1.symm, d2.symm, d3.symm, rowA, rowOA]
    ·simp [kill, f1, f2, f3, f4, e1, e2, e3, e4, e5, e6, e7, e8, e9, g1, g2, g3, g4, g5, g6, d1, d2, d3, d1.symm, d2.symm, d3.symm, rowT, encL, Term.enc]
    ·simp [kill, f1, f2, f3, f4, e1, e2, e3, e4, e5, e6, e7, e8, e9, g1, g2, g3, g4, g5, g6, d1, d2, d3, d1.symm, d2.symm, d3.symm, rowO, encO, encI]
   ·intro p hp q1 q2 q3
    have g9 : ∀ k j, ¬ p = (nx2 + k, j) := fun k j => Ne.symm (fresh_ne (by omega) k j)
    have g8 : ∀ j, ¬ p = (nx + 2, j) := fun j => Ne.symm (fresh_ne hp 2 j)
    simp [kill, upd_ne, q1, q2, q3, g9, g8]
    exact hF2 p hp q1 q2 q3
 | cons y q =>
  have hE : (encL (y :: q)).length = (q.length + 1) * 3 := by simpa using encL_len (y :: q)
  have hE2 : encL (y :: (q ++ [.mk v fn args])) = encL (y :: q) ++ [.int .i64 v, .str fn, .sl (encL args) args.length false none] := by
   rw [show y :: (q ++ [Term.mk v fn args]) = (y :: q) ++ [Term.mk v fn args] from rfl, encL_append]
   simp [encL, Term.enc]
  generalize hEE : encL (y :: q) = E at *
  have hlt : ¬ ((q.length + 1) * 3 + 3 ≤ (q.length + 1) * 3) := by omega
  simp only [List.length_cons] at hlz hls
  have hle : (q.length + 1) * 3 ≤ 68719476736 := by omega
  have htk2 : List.take ((q.length + 1) * 3) (List.map AV.d E) = List.map AV.d E := List.take_of_length_le (by simp [hE])
  have hpos : (0 : Int) ≤ (q.length : Int) + 1 := by omega
  cases own with
  | nil => simp at hls
  | cons w wr =>
  have hlw : ¬ (wr.length + 1 + 1 ≤ wr.length + 1) := by omega
  have htk3 : ∀ (f : List Int → AV), List.take wr.length (List.map f wr) = List.map f wr := fun f => List.take_of_length_le (by simp)
  have hwl : q.length = wr.length := by simpa using hls
  have hle2 : wr.length ≤ 68719476735 := by omega
  have hww : IntKind.i64.wrap ((wr.length : Int) + 2 - 1) = (wr.length : Int) + 1 := by rw [show (wr.length : Int) + 2 - 1 = (wr.length : Int) + 1 by omega]; exact wrap_i64 (by omega) (by omega)
  have hmul : (wr.length + 1) * 3 + 3 = (wr.length + 2) * 3 := by omega
  rw [hwl] at hE hlt hle htk2 hpos
  have hdr : ∀ a b c : AV, List.drop ((wr.length + 1) * 3 + 3) (List.map AV.d E ++ [a, b, c]) = [] := fun a b c => List.drop_of_length_le (by simp [hE])
  simp [rowA, rowT, rowOA, rowO, encO, hEE] at ho2 hol2 hoo2
  cases ns with
  | nil =>
   simp [rowI] at hr2
   apply Exists.intro
   apply Exists.intro
   refine ⟨acall_body code96 ?_, ?_, ?_, ?_⟩
   ·simp [plc_raw, Term.enc, Nat.add_assoc, hrun, ho2, hol2, hoo2, hb2, hr2, appendO, srcCells, srcRaw, growO, kill, f1, f2, f3, f4, e1, e2, e3, e4, e5, e6, e7, e8, e9, g1, g2, g3, g4, g5, g6, d1, d2, d3, d1.symm, d2.symm, d3.symm, hmd, htk, hw0, hE, hlt, hle, htk2, hpos, hwl, hlw, hle2, htk3, hdr]
    exact ⟨hww, rfl, rfl⟩
   ·omega
   ·refine ⟨?_, ?_, ?_⟩
    ·simp [kill, f1, f2, f3, f4, e1, e2, e3, e4, e5, e6, e7, e8, e9, g1, g2, g3, g4, g5, g6, d1, d2, d3, d1.symm, d2.symm, d3.symm, rowA, rowOA, hwl, hmul]
    ·simp [kill, f1, f2, f3, f4, e1, e2, e3, e4, e5, e6, e7, e8, e9, g1, g2, g3, g4, g5, g6, d1, d2, d3, d1.symm, d2.symm, d3.symm, rowT, hE2, hEE]
    ·simp [kill, f1, f2, f3, f4, e1, e2, e3, e4, e5, e6, e7, e8, e9, g1, g2, g3, g4, g5, g6, d1, d2, d3, d1.symm, d2.symm, d3.symm, rowO, encO, encI]
   ·intro p hp q1 q2 q3
    have g9 : ∀ k j, ¬ p = (nx2 + k, j) := fun k j => Ne.symm (fresh_ne (by omega) k j)
    have g8 : ∀ j, ¬ p = (nx + 2, j) := fun j => Ne.symm (fresh_ne hp 2 j)
    simp [kill, upd_ne, q1, q2, q3, g9, g8]
    exact hF2 p hp q1 q2 q3
  | cons n0 nr =>
   simp [rowI, encI] at hr2
   apply Exists.intro
   apply Exists.intro
   refine ⟨acall_body code96 ?_, ?_, ?_, ?_⟩
   ·simp [plc_raw, Term.enc, Nat.add_assoc, hrun, ho2, hol2, hoo2, hb2, hr2, appendO, srcCells, srcRaw, growO, kill, f1, f2, f3, f4, e1, e2, e3, e4, e5, e6, e7, e8, e9, g1, g2, g3, g4, g5, g6, d1, d2, d3, d1.symm, d2.symm, d3.symm, hmd, htk, hw0, hE, hlt, hle, htk2, hpos, hwl, hlw, hle2, htk3, hdr]
    exact ⟨hww, rfl, rfl⟩
   ·omega
   ·refine ⟨?_, ?_, ?_⟩
    ·simp [kill, f1, f2, f3, f4, e1, e2, e3, e4, e5, e6, e7, e8, e9, g1, g2, g3, g4, g5, g6, d1, d2, d3, d1.symm, d2.symm, d3.symm, rowA, rowOA, hwl, hmul]
    ·simp [kill, f1, f2, f3, f4, e1, e2, e3, e4, e5, e6, e7, e8, e9, g1, g2, g3, g4, g5, g6, d1, d2, d3, d1.symm, d2.symm, d3.symm, rowT, hE2, hEE]
    ·simp [kill, f1, f2, f3, f4, e1, e2, e3, e4, e5, e6, e7, e8, e9, g1, g2, g3, g4, g5, g6, d1, d2, d3, d1.symm, d2.symm, d3.symm, rowO, encO, encI]
   ·intro p hp q1 q2 q3
    have g9 : ∀ k j, ¬ p = (nx2 + k, j) := fun k j => Ne.symm (fresh_ne (by omega) k j)
    have g8 : ∀ j, ¬ p = (nx + 2, j) := fun j => Ne.symm (fresh_ne hp 2 j)
    simp [kill, upd_ne, q1, q2, q3, g9, g8]
    exact hF2 p hp q1 q2 q3
end Go.Proofs.YtajilkmepjhkdaaGreat.Am

/-
 The program's table of parts: a row that grows. No condition.
-/
namespace Go.Proofs.YtajilkmepjhkdaaGreat.Am
open Go Go.Proofs
set_option maxHeartbeats 4000000
set_option maxRecDepth 20000
set_option linter.unusedSimpArgs false
set_option linter.unusedVariables false
def encPz : List (Term × List Int) → List D
 | [] => []
 | (t, ns) :: r => t.enc ++ (.sl (encI ns) ns.length false (some (decide (ns = []))) :: encPz r)
def encPt (s : Laid) : List D := encPz (s.1.zip s.2)
theorem encPz_len : ∀ l : List (Term × List Int), (encPz l).length = l.length * 4
 | [] => rfl
 | (t, ns) :: r => by simp [encPz, Term.enc_len, encPz_len r]; omega
theorem encPz_append : ∀ (a b : List (Term × List Int)), encPz (a ++ b) = encPz a ++ encPz b
 | [], _ => rfl
 | (t, ns) :: r, b => by simp [encPz, encPz_append r b]
theorem encPt_len {s : Laid} (h : s.1.length = s.2.length) : (encPt s).length = s.1.length * 4 := by
 simp [encPt, encPz_len, h]
theorem encPt_snoc {l : List Term} {o : List (List Int)} (h : l.length = o.length) (t : Term) (ns : List Int) : encPt (l ++ [t], o ++ [ns]) = encPt (l, o) ++ (t.enc ++ [.sl (encI ns) ns.length false (some (decide (ns = [])))]) := by
 simp [encPt, List.zip_append h, encPz_append, encPz]
theorem encPz_at : ∀ (l : List (Term × List Int)) (i : Nat) (t : Term) (ns : List Int), l[i]? = some (t, ns) → ((encPz l).drop (i * 4)).take 4 = t.enc ++ [.sl (encI ns) ns.length false (some (decide (ns = [])))]
 | [], i, t, ns, h => by simp at h
 | (u, ms) :: r, 0, t, ns, h => by
  simp at h; obtain ⟨rfl, rfl⟩ := h
  have := u.enc_len
  have h4 : u.enc.take 4 = u.enc := List.take_of_length_le (by omega)
  simp [encPz, List.take_append, this, h4]
 | (u, ms) :: r, i + 1, t, ns, h => by
  have := u.enc_len
  have e := encPz_at r i t ns (by simpa using h)
  have hl : (u.enc ++ [D.sl (encI ms) ms.length false (some (decide (ms = [])))]).length = 4 := by simp [this]
  have hc : encPz ((u, ms) :: r) = (u.enc ++ [D.sl (encI ms) ms.length false (some (decide (ms = [])))]) ++ encPz r := by simp [encPz]
  rw [hc, show (i + 1) * 4 = (u.enc ++ [D.sl (encI ms) ms.length false (some (decide (ms = [])))]).length + i * 4 by rw [hl]; omega, List.drop_append, List.drop_of_length_le (by omega), List.nil_append, show (u.enc ++ [D.sl (encI ms) ms.length false (some (decide (ms = [])))]).length + i * 4 - (u.enc ++ [D.sl (encI ms) ms.length false (some (decide (ms = [])))]).length = i * 4 by omega]
  exact e
def rowV (oo : Option Oid) (n : Nat) : AV := match oo with | none => .d (.sl [] 0 true (some true)) | some o => .osl o 0 n 4 (n * 4)
def RowP (H : Hp) (oo : Option Oid) (s : Laid) : Prop := match oo with | none => s.1 = [] | some o => s.1 ≠ [] ∧ H o = some (.grow ((encPt s).map .d))
theorem RowP.keep {H H' : Hp} {oo : Option Oid} {s : Laid} (h : RowP H oo s) (k : ∀ o, oo = some o → H' o = H o) : RowP H' oo s := by
 cases oo with
 | none => exact h
 | some o => exact ⟨h.1, (k o rfl).trans h.2⟩
theorem append_part {H : Hp} {id : Nat} {oo : Option Oid} {l : List Term} {own : List (List Int)} {o2 o3 : Oid} {v : Int} {fn : ByteArray} {args : List Term} {ns : List Int} (hl : l.length = own.length) (hn : l.length ≤ 1048576) (hs : RowP H oo (l, own))
  (h2 : H o2 = some (.cells [.d (.int .i64 v), .d (.str fn), .d (.sl (encL args) args.length false none), .osl o3 0 ns.length 1 ns.length])) (h3 : H o3 = some (rowI ns)) (d2 : oo ≠ some o2) (d3 : oo ≠ some o3) :
  ∃ H', appendO Tryz.prog H id 90 90 (rowV oo l.length) (.osl o2 0 1 4 4) = some (rowV (some (oo.getD (id, 0))) (l.length + 1), H') ∧ RowP H' (some (oo.getD (id, 0))) (l ++ [.mk v fn args], own ++ [ns]) ∧ ∀ p, p ≠ o2 → p ≠ o3 → p ≠ oo.getD (id, 0) → H' p = H p := by
 have hsrc : ∃ is, srcCells Tryz.prog H 4 90 (.osl o2 0 1 4 4) = some ([.int .i64 v, .str fn, .sl (encL args) args.length false none, .sl (encI ns) ns.length false (some (decide (ns = [])))], 1, is) ∧ ∀ p ∈ is, p = o2 ∨ p = o3 := by
  cases ns with
  | nil => refine ⟨[o2], ?_, by simp⟩; simp [srcCells, srcRaw, h2, h3, rowI, encI]
  | cons x r =>
   have hmd := mapD_encI2 H 4 r
   have htk : List.take r.length (List.map (AV.d ∘ D.int .i64) r) = List.map (AV.d ∘ D.int .i64) r := List.take_of_length_le (by simp)
   refine ⟨[o2, o3], ?_, by simp⟩
   simp [srcCells, srcRaw, h2, h3, rowI, encI, htk, hmd]
 obtain ⟨is, hsrc, his⟩ := hsrc
 have hk : ∀ p, p ≠ o2 → p ≠ o3 → kill H is p = H p := fun p a c => by
  simp only [kill]; rw [if_neg]; exact fun h => by rcases his p h with rfl | rfl <;> contradiction
 cases oo with
 | none =>
  have hl0 : l = [] := hs
  subst hl0
  obtain rfl : own = [] := by simpa using hl.symm
  refine ⟨upd (kill H is) (id, 0) (.grow ((encPt ([.mk v fn args], [ns])).map .d)), ?_, ⟨by simp, by simp⟩, fun p a c d => ?_⟩
  ·simp [appendO, hsrc, rowV, encPt, encPz, Term.enc]
  ·simp only [Option.getD_none] at d
   rw [upd_ne d, hk p a c]
 | some o =>
  obtain ⟨hne, ho⟩ := hs
  have e2 : o ≠ o2 := fun e => d2 (by rw [e])
  have e3 : o ≠ o3 := fun e => d3 (by rw [e])
  have hni : o ∉ is := fun h => by rcases his o h with rfl | rfl <;> contradiction
  have hE : (encPt (l, own)).length = l.length * 4 := encPt_len hl
  have hle : l.length * 4 ≤ 68719476736 := by omega
  have hnl : ¬ (l.length * 4 + 4 ≤ l.length * 4) := by omega
  have htk : List.take (l.length * 4) (List.map AV.d (encPt (l, own))) = List.map AV.d (encPt (l, own)) := List.take_of_length_le (by simp [hE])
  have hnl2 : ¬ ((l.length + 1) * 4 ≤ l.length * 4) := by omega
  have hm4 : l.length * 4 + 4 = (l.length + 1) * 4 := by omega
  refine ⟨upd (kill H is) o (.grow ((encPt (l ++ [.mk v fn args], own ++ [ns])).map .d)), ?_, ⟨by simp, by simp [upd]⟩, fun p a c d => ?_⟩
  ·rw [encPt_snoc hl]
   simp [appendO, hsrc, rowV, ho, hE, hle, hni, growO, hnl, hnl2, htk, Term.enc, hm4]
  ·simp only [Option.getD_some] at d
   rw [upd_ne d, hk p a c]
end Go.Proofs.YtajilkmepjhkdaaGreat.Am

/-
 Loops by one rule, the next object's number being part of the state. No condition.
-/
namespace Go.Proofs.YtajilkmepjhkdaaGreat.Am
open Go Go.Proofs
inductive RoundN {P : Program} {pol : Pol} {c : ACode} {m : Mask} {σ ρ : Type} (N : σ → Nat) (tm : σ → List AV) (Hf : σ → Hp) (I : σ → Prop) (μ : σ → Nat) (res : σ → ρ) (R : ρ → Ex → St → Prop) (s : σ) : Option (Ex × St) → Prop where
 | next (s' : σ) {tm' : List AV} {H' : Hp} {n : Nat} (hn : n = N s') (htm : tm' = tm s') (hH : H' = Hf s') (hI : I s') (hμ : μ s' < μ s) (hres : res s' = res s) : RoundN N tm Hf I μ res R s (aloop P pol c m ⟨tm', H', n⟩)
 | fin (e : Ex) (t : St) (hR : R (res s) e t) : RoundN N tm Hf I μ res R s (some (e, t))
@[congr] theorem RoundN.congr {P : Program} {pol : Pol} {c : ACode} {m : Mask} {σ ρ : Type} {N : σ → Nat} {tm : σ → List AV} {Hf : σ → Hp} {I : σ → Prop} {μ : σ → Nat} {res : σ → ρ} {R : ρ → Ex → St → Prop} {s : σ} {x y : Option (Ex × St)} (h : x = y) :
  RoundN (P := P) (pol := pol) (c := c) (m := m) N tm Hf I μ res R s x = RoundN (P := P) (pol := pol) (c := c) (m := m) N tm Hf I μ res R s y := by rw [h]
theorem loop_ruleN {P : Program} {pol : Pol} {c : ACode} {m : Mask} {σ ρ : Type} {N : σ → Nat} {tm : σ → List AV} {Hf : σ → Hp} {I : σ → Prop} {μ : σ → Nat} {res : σ → ρ} {R : ρ → Ex → St → Prop}
  (h : ∀ s, I s → RoundN (P := P) (pol := pol) (c := c) (m := m) N tm Hf I μ res R s (loopK (aloop P pol) c m (exec P pol (acall P pol) (aloop P pol) c ⟨tm s, Hf s, N s⟩))) :
  ∀ s, I s → ∃ e t, aloop P pol c m ⟨tm s, Hf s, N s⟩ = some (e, t) ∧ R (res s) e t := by
 have key : ∀ n s, μ s < n → I s → ∃ e t, aloop P pol c m ⟨tm s, Hf s, N s⟩ = some (e, t) ∧ R (res s) e t := by
  intro n
  induction n with
  | zero => intro s h; omega
  | succ n ih =>
   intro s hn hI
   have hr := h s hI
   generalize hx : loopK (aloop P pol) c m (exec P pol (acall P pol) (aloop P pol) c ⟨tm s, Hf s, N s⟩) = x at hr
   cases hr with
   | @next s' tm' H' n' hb htm hH hI' hμ hres =>
    obtain ⟨e, t, h1, h2⟩ := ih s' (by omega) hI'
    exact ⟨e, t, aloop_body (by rw [hx, htm, hH, hb, h1]), hres ▸ h2⟩
   | fin e t hR => exact ⟨e, t, aloop_body hx, hR⟩
 exact fun s hI => key (μ s + 1) s (by omega) hI
end Go.Proofs.YtajilkmepjhkdaaGreat.Am

/-
 The program's table of parts: what its function makes. No condition.
-/
namespace Go.Proofs.YtajilkmepjhkdaaGreat.Am
open Go Go.Proofs
set_option maxHeartbeats 4000000
set_option maxRecDepth 20000
set_option linter.unusedSimpArgs false
set_option linter.unusedVariables false
def DoesP (t : Term) (oo : Option Oid) (s : Laid) : Prop :=
 ∀ H nx, (∀ o, oo = some o → o.1 < nx) → RowP H oo s → ∃ q : Hp × Nat × Oid, acall Tryz.prog plc 74 [.d (.agg t.enc), rowV oo s.1.length] H nx = some (.tup [rowV (some q.2.2) (t.lay s).1.1.length, .d (.int .i64 (t.lay s).2)], q.1, q.2.1) ∧ nx ≤ q.2.1 ∧ RowP q.1 (some q.2.2) (t.lay s).1 ∧ q.2.2.1 < q.2.1 ∧
  (∀ o, oo = some o → q.2.2 = o) ∧ (oo = none → nx ≤ q.2.2.1) ∧ ∀ p, p.1 < nx → oo ≠ some p → q.1 p = H p
theorem rowV_some (o : Oid) (n : Nat) : rowV (some o) n = .osl o 0 n 4 (n * 4) := rfl
structure Fol (oo oo' : Option Oid) (b N : Nat) : Prop where
 sm : ∀ o, oo = some o → oo' = some o
 nn : oo = none → ∀ o, oo' = some o → b ≤ o.1
 lt : ∀ o, oo' = some o → o.1 < N
theorem Fol.ne {oo oo' : Option Oid} {b N : Nat} (h : Fol oo oo' b N) {p : Oid} (hp : p.1 < b) (hq : oo ≠ some p) : oo' ≠ some p := by
 cases oo with
 | none => intro e; have := h.nn rfl p e; omega
 | some o => rw [h.sm o rfl]; exact hq
theorem Fol.mono {oo oo' : Option Oid} {b N M : Nat} (h : Fol oo oo' b N) (hN : N ≤ M) : Fol oo oo' b M := ⟨h.sm, h.nn, fun o ho => Nat.lt_of_lt_of_le (h.lt o ho) hN⟩
abbrev laidT (nx : Nat) (oo : Option Oid) (n : Nat) (args : List Term) (i : Nat) : List AV :=
 [.junk, rowV oo n, .junk, .junk, .osl (nx + 1, 1) 0 0 1 0, .d (.int .i64 0), .ptr (nx + 5, 0) 0 4, .junk, .junk, .junk, .junk, .junk, .junk, .d (.sl (encL args) args.length false none), .d (.int .i64 args.length), .d (.int .i64 i), .junk, .junk, .junk, .junk, .junk, .junk, .junk, .junk, .junk, .junk, .junk, .junk, .junk, .junk, .junk, .junk, .junk, .junk, .junk, .junk, .junk, .junk]
structure LaidI (nx : Nat) (oo : Option Oid) (H : Hp) (v : Int) (fn : ByteArray) (args : List Term) (oo' : Option Oid) (st : Laid) (own : List Int) (HH : Hp) (N : Nat) : Prop where
 row : RowP HH oo' st
 fol : Fol oo oo' (nx + 11) N
 cell : HH (nx + 5, 0) = some (.cells [.d (.int .i64 v), .d (.str fn), .d (.sl (encL args) args.length false none), .osl (nx + 6, 4) 0 own.length 1 own.length])
 own : HH (nx + 6, 4) = some (rowI own)
 le : nx + 11 ≤ N
 old : ∀ p, p.1 < nx → oo ≠ some p → HH p = H p
def LaidEnd (nx : Nat) (oo : Option Oid) (H : Hp) (v : Int) (fn : ByteArray) (args : List Term) (r : Laid × List Int) (e : Ex) (t : St) : Prop :=
 ∃ oo' H2 n2, e = .exit 0 ∧ t = ⟨laidT nx oo' r.1.1.length args args.length, H2, n2⟩ ∧ LaidI nx oo H v fn args oo' r.1 r.2 H2 n2
theorem laid_loop (nx : Nat) (oo : Option Oid) (hoo : ∀ o, oo = some o → o.1 < nx) (H : Hp) (v : Int) (fn : ByteArray) (args : List Term) (hok : okL args) (hsz : sizeL args ≤ 1048576)
  (ih : ∀ x ∈ args, ∀ s oo, s.1.length = s.2.length → s.1.length + x.size ≤ 1048576 → DoesP x oo s) (s : Laid) (hsl : s.1.length = s.2.length) (hs0 : s.1.length + sizeL args ≤ 1048576) (H1 : Hp) (hS : LaidI nx oo H v fn args oo s [] H1 (nx + 11)) :
  ∃ e t, aloop Tryz.prog plc b74_0 ⟨[false, true, false, false, true, true, true, false, false, false, false, false, false, true, true, true, false, false, false, false, false, false, false, false, false, false, false, false, false, false, false, false, true, true, true, true, true, true], none⟩ ⟨laidT nx oo s.1.length args 0, H1, nx + 11⟩ = some (e, t) ∧ LaidEnd nx oo H v fn args (layL args s []) e t := by
 have hn0 := len_sizeLw args
 have hn : args.length ≤ 9223372036854775807 := by omega
 have key := loop_ruleN (P := Tryz.prog) (pol := plc) (c := b74_0) (m := ⟨[false, true, false, false, true, true, true, false, false, false, false, false, false, true, true, true, false, false, false, false, false, false, false, false, false, false, false, false, false, false, false, false, true, true, true, true, true, true], none⟩)
  (N := fun (x : Nat × Option Oid × Laid × List Int × Hp × Nat) => x.2.2.2.2.2) (tm := fun x => laidT nx x.2.1 x.2.2.1.1.length args x.1) (Hf := fun x => x.2.2.2.2.1)
  (I := fun x => x.1 ≤ args.length ∧ x.2.2.2.1.length = x.1 ∧ x.2.2.1.1.length = x.2.2.1.2.length ∧ x.2.2.1.1.length + sizeL (args.drop x.1) ≤ 1048576 ∧ LaidI nx oo H v fn args x.2.1 x.2.2.1 x.2.2.2.1 x.2.2.2.2.1 x.2.2.2.2.2)
  (μ := fun x => args.length - x.1) (res := fun x => layL (args.drop x.1) x.2.2.1 x.2.2.2.1) (R := LaidEnd nx oo H v fn args)
  (fun x hI => by
   obtain ⟨i, oo1, st, own, HH, N⟩ := x
   obtain ⟨hi, hown, hsame, hsz1, hL⟩ := hI
   simp only at hi hown hsame hsz1 hL ⊢
   have hle := hL.le
   rcases Nat.lt_or_ge i args.length with hl | hl
   ·obtain ⟨v', fn', args', a⟩ := at_ok hn hl
    have hdr : sizeL (args.drop i) = (Term.mk v' fn' args').size + sizeL (args.drop (i + 1)) := by rw [a.dr]; rfl
    have hc := ih _ a.mem st oo1 hsame (by omega)
    simp only [DoesP, Term.enc] at hc
    have hb1 : own.length ≤ 68719476735 := by omega
    obtain ⟨⟨H2, N2, o2⟩, h1, h2, h3, h4, h5, h6, h7⟩ := hc (upd (upd HH (N + 3, 3) .vnil) (N + 3, 0) (.cells [.d (.int .i64 v'), .d (.str fn'), .d (.sl (encL args') args'.length false none)])) (N + 14) (fun o ho => by have := hL.fol.lt o ho; omega)
     (hL.row.keep fun o ho => by have := hL.fol.lt o ho; rw [upd_old (by omega), upd_old (by omega)])
    simp only at h1 h2 h3 h4 h5 h6 h7
    have e5 : H2 (nx + 5, 0) = _ := (h7 (nx + 5, 0) (by simp; omega) (hL.fol.ne (by simp) (fun e => by have := hoo _ e; simp at this; omega))).trans ((upd_old (by simp; omega) _ _ _).trans ((upd_old (by simp; omega) _ _ _).trans hL.cell))
    have e6 : H2 (nx + 6, 4) = _ := (h7 (nx + 6, 4) (by simp; omega) (hL.fol.ne (by simp) (fun e => by have := hoo _ e; simp at this; omega))).trans ((upd_old (by simp; omega) _ _ _).trans ((upd_old (by simp; omega) _ _ _).trans hL.own))
    have happ := append_rowI (id := N2 + 4) (H := upd H2 (N2 + 3, 0) (.cells [.d (.int .i64 ((Term.mk v' fn' args').lay st).2)])) (o := (nx + 6, 4)) (o2 := (N2 + 3, 0)) (l := own) (x := ((Term.mk v' fn' args').lay st).2) (by rw [upd_old (o := (nx + 6, 4)) (by simp; omega)]; exact e6) (by simp [upd]) hb1
    have g1 : ∀ x, upd H2 (N2 + 3, 0) x (nx + 5, 0) = H2 (nx + 5, 0) := fun x => upd_old (by simp; omega) _ _ _
    have hw := a.w
    conv => arg 9; arg 4; unfold b74_0
    simp [a.lti, a.sz, a.ltm, a.cells, a.le3, plc_raw, hw, Nat.add_assoc, h1, rowV_some, g1, e5, happ]
    have hf2 : Fol oo (some o2) (nx + 11) (N2 + 9) := by
     refine ⟨fun o ho => by rw [h5 o (hL.fol.sm o ho)], fun ho o ho2 => ?_, fun o ho => by cases ho; omega⟩
     cases ho2
     cases hq : oo1 with
     | none => have := h6 hq; omega
     | some o' => rw [h5 o' hq]; exact hL.fol.nn ho o' hq
    have h9 : ∀ x y z, ∀ p : Oid, p ≠ (nx + 5, 0) → p ≠ (nx + 6, 4) → p.1 < N2 → upd (upd (upd H2 (N2 + 3, 0) x) (nx + 6, 4) y) (nx + 5, 0) z p = H2 p := fun x y z p a c d => by
     rw [upd_ne a, upd_ne c, upd_old (by omega)]
    have ho5 : o2 ≠ (nx + 5, 0) := fun e => hf2.ne (p := (nx + 5, 0)) (by simp) (fun e => by have := hoo _ e; simp at this; omega) (by rw [e])
    have ho6 : o2 ≠ (nx + 6, 4) := fun e => hf2.ne (p := (nx + 6, 4)) (by simp) (fun e => by have := hoo _ e; simp at this; omega) (by rw [e])
    refine .next (i + 1, some o2, ((Term.mk v' fn' args').lay st).1, own ++ [((Term.mk v' fn' args').lay st).2], _, N2 + 9) rfl (by simp [rowV_some]) rfl ⟨hl, by simp; omega, lay_same _ _ hsame, by simp only [lay_size]; omega, ⟨?_, hf2, ?_, ?_, ?_, ?_⟩⟩ (by simp; omega) (by simp only [a.dr, layL])
    ·exact h3.keep fun o ho => by cases ho; exact h9 _ _ _ _ ho5 ho6 h4
    ·simp only [List.length_append, List.length_singleton]; exact upd_same _ _ _
    ·exact (upd_ne (by simp)).trans (upd_same _ _ _)
    ·show nx + 11 ≤ N2 + 9; omega
    ·intro p hp hq
     have hp5 : p ≠ (nx + 5, 0) := fun e => by rw [e] at hp; simp at hp; omega
     have hp6 : p ≠ (nx + 6, 4) := fun e => by rw [e] at hp; simp at hp; omega
     refine (h9 _ _ _ _ hp5 hp6 (by omega)).trans ((h7 p (by omega) (hL.fol.ne (by omega) hq)).trans ?_)
     rw [upd_old (by omega), upd_old (by omega)]
     exact hL.old p hp hq
   ·obtain rfl : i = args.length := Nat.le_antisymm hi hl
    have hr : layL (args.drop args.length) st own = (st, own) := by simp only [List.drop_length, layL]
    simp [b74_0]
    refine .fin _ _ ?_
    simp only [hr]
    exact ⟨oo1, _, _, rfl, rfl, hL.row, hL.fol.mono (by omega), hL.cell, hL.own, by omega, hL.old⟩) (0, oo, s, [], H1, nx + 11) ⟨Nat.zero_le _, rfl, hsl, by simpa using hs0, hS⟩
 simpa using key
theorem laid_ok (t : Term) : t.ok → ∀ (s : Laid) (oo : Option Oid), s.1.length = s.2.length → s.1.length + t.size ≤ 1048576 → DoesP t oo s := by
 refine Term.ind (p := fun t => t.ok → ∀ (s : Laid) (oo : Option Oid), s.1.length = s.2.length → s.1.length + t.size ≤ 1048576 → DoesP t oo s) (fun v fn args ih h s oo hsl hsz => ?_) t
 intro H nx hoo hrow
 have hsz2 : s.1.length + sizeL args ≤ 1048576 := by simp only [Term.size] at hsz; omega
 obtain ⟨e, t, hrun, oo', H2, n2, rfl, rfl, hL⟩ := laid_loop nx oo hoo H v fn args h.2 (by omega) (fun x hx s oo hs hz => ih x hx (okL_mem h.2 _ hx) s oo hs hz) s hsl hsz2
  (Am.upd (Am.upd (Am.upd (Am.upd (Am.upd (Am.upd (Am.upd H (nx, 0) (.cells [.d (.int .i64 v), .d (.str fn), .d (.sl (encL args) args.length false none)])) (nx + 1, 1) .vnil) (nx + 5, 3) .vnil) (nx + 5, 4) .vnil) (nx + 5, 0) (.cells [.d (.int .i64 0), .d (.str (ByteArray.mk #[])), .osl (nx + 5, 3) 0 0 1 0, .osl (nx + 5, 4) 0 0 1 0])) (nx + 6, 4) .vnil)
   (nx + 5, 0) (.cells [.d (.int .i64 v), .d (.str fn), .d (.sl (encL args) args.length false none), .osl (nx + 6, 4) 0 0 1 0]))
  ⟨hrow.keep fun o ho => by have := hoo o ho; rw [upd_old (by omega), upd_old (by omega), upd_old (by omega), upd_old (by omega), upd_old (by omega), upd_old (by omega), upd_old (by omega)],
   ⟨fun o ho => ho, fun ho o ho2 => (by rw [ho] at ho2; cases ho2), fun o ho => by have := hoo o ho; omega⟩, upd_same _ _ _, (upd_ne (by simp)).trans (upd_same _ _ _), Nat.le_refl _,
   fun p hp hq => by rw [upd_old (by omega), upd_old (by omega), upd_old (by omega), upd_old (by omega), upd_old (by omega), upd_old (by omega), upd_old (by omega)]⟩
 have hlz := layL_size args s []
 have hls := layL_same args s [] hsl
 have hlr := layL_ns args s []
 simp only [Term.lay]
 generalize layL args s [] = r at *
 obtain ⟨⟨l, own⟩, ns⟩ := r
 simp only at hrun hlz hls hlr hL ⊢
 have ho5 : oo' ≠ some (n2 + 2, 0) := fun e => by have := hL.fol.lt _ e; simp at this; omega
 have ho6 : oo' ≠ some (nx + 6, 4) := hL.fol.ne (by simp) fun e => by have := hoo _ e; simp at this; omega
 have hle := hL.le
 obtain ⟨H3, h1, h2, h3⟩ := append_part (id := n2 + 3) (H := Am.upd H2 (n2 + 2, 0) (.cells [.d (.int .i64 v), .d (.str fn), .d (.sl (encL args) args.length false none), .osl (nx + 6, 4) 0 ns.length 1 ns.length])) (o2 := (n2 + 2, 0)) (o3 := (nx + 6, 4)) (oo := oo') (l := l) (own := own) (ns := ns) (v := v) (fn := fn) (args := args) hls (by omega)
  (hL.row.keep fun o ho => by have := hL.fol.lt o ho; rw [upd_old (by omega)]) (upd_same _ _ _) ((upd_old (by simp; omega) _ _ _).trans hL.own) ho5 ho6
 refine ⟨(H3, n2 + 8, oo'.getD (n2 + 3, 0)), acall_body code74 ?_, by simp only; omega, h2, ?_, ?_, ?_, ?_⟩
 ·simp [laidT] at hrun
  have hc := hL.cell
  cases oo' with
  | none =>
   have hl0 : l = [] := hL.row
   subst hl0
   simp [rowV] at hrun h1
   simp [plc_raw, Term.enc, Nat.add_assoc, hrun, hc, h1, rowV]
  | some o =>
   simp [rowV] at hrun h1
   simp [plc_raw, Term.enc, Nat.add_assoc, hrun, hc, h1, rowV]
 ·cases oo' with
  | none => simp only [Option.getD_none]; omega
  | some o => have := hL.fol.lt o rfl; simp only [Option.getD_some]; omega
 ·intro o ho
  rw [hL.fol.sm o ho]; rfl
 ·intro ho
  cases oo' with
  | none => simp only [Option.getD_none]; omega
  | some o => have := hL.fol.nn ho o rfl; simp only [Option.getD_some]; omega
 ·intro p hp hq
  have hp6 : p ≠ (nx + 6, 4) := fun e => by rw [e] at hp; simp at hp; omega
  refine (h3 p (fun e => by rw [e] at hp; simp at hp; omega) hp6 ?_).trans ((upd_old (by omega) _ _ _).trans (hL.old p hp hq))
  cases hq2 : oo' with
  | none => exact fun e => by rw [e] at hp; simp at hp; omega
  | some o => exact fun e => hL.fol.ne (p := p) (by omega) hq (by rw [hq2, e]; rfl)
end Go.Proofs.YtajilkmepjhkdaaGreat.Am

/-
 A map from pairs of numbers to numbers. No condition.
-/
namespace Go.Proofs.YtajilkmepjhkdaaGreat.Am
open Go Go.Proofs
set_option maxHeartbeats 4000000
set_option linter.unusedSimpArgs false
set_option linter.unusedVariables false
abbrev PM := List ((Int × Int) × Int)
def keyD (a c : Int) : D := .agg [.int .i64 a, .int .i64 c]
def encMp : Nat → PM → List (D × AV × Nat)
 | _, [] => []
 | i, ((a, c), v) :: r => (keyD a c, .d (.int .i64 v), i) :: encMp (i + 1) r
def mkM (M : PM) : Am.Obj := .mp (true, [.int .i64, .int .i64]) (encMp 0 M) M.length
def getM : PM → Int → Int → Int
 | [], _, _ => 0
 | ((a, c), v) :: r, x, y => if x = a ∧ y = c then v else getM r x y
def setM : PM → Int → Int → Int → PM
 | [], x, y, v => [((x, y), v)]
 | ((a, c), w) :: r, x, y, v => if x = a ∧ y = c then ((x, y), v) :: r else ((a, c), w) :: setM r x y v
theorem get_set_same (x y v : Int) : ∀ M : PM, getM (setM M x y v) x y = v
 | [] => by simp [setM, getM]
 | ((a, c), w) :: r => by
  by_cases h : x = a ∧ y = c
  ·simp [setM, getM, h]
  ·simp only [setM, if_neg h, getM]; exact get_set_same x y v r
theorem get_set_ne {x y x' y' : Int} (v : Int) (h : ¬ (x' = x ∧ y' = y)) : ∀ M : PM, getM (setM M x y v) x' y' = getM M x' y'
 | [] => by simp [setM, getM, h]
 | ((a, c), w) :: r => by
  by_cases h2 : x = a ∧ y = c
  ·obtain ⟨rfl, rfl⟩ := h2
   simp [setM, getM, h]
  ·simp only [setM, if_neg h2, getM]; rw [get_set_ne v h r]
theorem encMp_len : ∀ (i : Nat) (m : PM), (encMp i m).length = m.length
 | _, [] => rfl
 | i, ((a, c), v) :: r => by simp [encMp, encMp_len]
theorem eqK (x y a c : Int) : eqD (keyD x y) (keyD a c) = decide (x = a ∧ y = c) := by
 simp [keyD, eqD, eqL, eq1, Bool.decide_and]
theorem findM_spec (x y v : Int) : ∀ (M : PM) (i : Nat),
  (∃ j w, findK (keyD x y) (encMp i M) i = some (i + j, .d (.int .i64 w), i + j) ∧ getM M x y = w ∧ (encMp i M).set j (keyD x y, .d (.int .i64 v), i + j) = encMp i (setM M x y v) ∧ (setM M x y v).length = M.length) ∨
  (findK (keyD x y) (encMp i M) i = none ∧ getM M x y = 0 ∧ encMp i M ++ [(keyD x y, .d (.int .i64 v), i + M.length)] = encMp i (setM M x y v) ∧ (setM M x y v).length = M.length + 1)
 | [], i => .inr ⟨rfl, rfl, by simp [encMp, setM], rfl⟩
 | ((a, c), w) :: r, i => by
  by_cases h : x = a ∧ y = c
  ·obtain ⟨rfl, rfl⟩ := h
   exact .inl ⟨0, w, by simp [encMp, findK, keyD, eqD, eqL, eq1], by simp [getM], by simp [encMp, setM], by simp [setM]⟩
  ·have he : eqD (keyD x y) (keyD a c) = false := by rw [eqK]; simpa using h
   rcases findM_spec x y v r (i + 1) with ⟨j, w', h1, h2, h3, h4⟩ | ⟨h1, h2, h3, h4⟩
   ·refine .inl ⟨j + 1, w', ?_, ?_, ?_, ?_⟩
    ·simp only [encMp, findK, he, Bool.false_eq_true, if_false, h1]
     simp; omega
    ·simp only [getM, if_neg h]; exact h2
    ·simp only [encMp, List.set_cons_succ, setM, if_neg h]
     rw [show i + (j + 1) = i + 1 + j by omega, h3]
    ·simp [setM, if_neg h, h4]
   ·refine .inr ⟨?_, ?_, ?_, ?_⟩
    ·simp only [encMp, findK, he, Bool.false_eq_true, if_false, h1]
    ·simp only [getM, if_neg h]; exact h2
    ·simp only [encMp, List.cons_append, List.length_cons, setM, if_neg h]
     rw [show i + (r.length + 1) = i + 1 + r.length by omega, h3]
    ·simp [setM, if_neg h, h4]
theorem lookM {H : Hp} {o : Oid} {M : PM} (h : H o = some (mkM M)) (x y : Int) : lookupO Tryz.prog H 93 (.map o) (.d (.agg [.int .i64 x, .int .i64 y])) false = some (.d (.int .i64 (getM M x y))) := by
 have h1 : findK (.agg [.int .i64 x, .int .i64 y]) (encMp 0 M) 0 = findK (keyD x y) (encMp 0 M) 0 := rfl
 rcases findM_spec x y 0 M 0 with ⟨j, w, h2, h3, _, _⟩ | ⟨h2, h3, _, _⟩ <;> simp [lookupO, entriesOf, h, mkM, h1, h2, h3, -findK]
theorem updM {H : Hp} {o : Oid} {M : PM} (h : H o = some (mkM M)) (x y v : Int) : mapUpdateO Tryz.prog H 93 (.map o) (.d (.agg [.int .i64 x, .int .i64 y])) (.d (.int .i64 v)) = some (upd H o (mkM (setM M x y v))) := by
 rcases findM_spec x y v M 0 with ⟨j, w, h2, _, h4, h5⟩ | ⟨h2, _, h4, h5⟩
 ·simp only [Nat.zero_add, keyD] at h2 h4
  simp [mapUpdateO, mapO, h, mkM, h2, h5, -findK]
  rw [← h4]
 ·simp only [Nat.zero_add, keyD] at h2 h4
  simp [mapUpdateO, mapO, h, mkM, h2, h5, -findK]
  rw [← h4]
end Go.Proofs.YtajilkmepjhkdaaGreat.Am

/-
 A search among numbers by a function that runs on the objects. No condition.
-/
namespace Go.Proofs.YtajilkmepjhkdaaGreat.Am
open Go Go.Proofs
set_option maxHeartbeats 4000000
set_option maxRecDepth 20000
set_option linter.unusedSimpArgs false
set_option linter.unusedVariables false
def Asks (f : FuncId) (caps : List AV) (b : Nat) (I : Hp → Prop) (n : Int) (p : Bool) : Prop :=
 ∀ H nx, b ≤ nx → I H → ∃ q : Hp × Nat, acall Tryz.prog plc f (.d (.int .i64 n) :: caps) H nx = some (.d (.bool p), q.1, q.2) ∧ nx ≤ q.2 ∧ I q.1
theorem Asks.fn {f : FuncId} {caps : List AV} {b : Nat} {I : Hp → Prop} {n : Int} {p : Bool} (h : Asks f caps b I n p) :
  ∃ (F : Hp → Nat → Hp) (N : Hp → Nat → Nat), ∀ H nx, b ≤ nx → I H → acall Tryz.prog plc f (.d (.int .i64 n) :: caps) H nx = some (.d (.bool p), F H nx, N H nx) ∧ nx ≤ N H nx ∧ I (F H nx) := by
 have h2 : ∀ z : Hp × Nat, ∃ q : Hp × Nat, b ≤ z.2 → I z.1 → acall Tryz.prog plc f (.d (.int .i64 n) :: caps) z.1 z.2 = some (.d (.bool p), q.1, q.2) ∧ z.2 ≤ q.2 ∧ I q.1 := fun z => by
  by_cases h1 : b ≤ z.2 ∧ I z.1
  ·obtain ⟨q, hq⟩ := h z.1 z.2 h1.1 h1.2
   exact ⟨q, fun _ _ => hq⟩
  ·exact ⟨default, fun a b => absurd ⟨a, b⟩ h1⟩
 obtain ⟨G, hG⟩ := Classical.skolem.1 h2
 exact ⟨fun H nx => (G (H, nx)).1, fun H nx => (G (H, nx)).2, fun H nx a b => hG (H, nx) a b⟩
def Old (b : Nat) (I : Hp → Prop) : Prop := ∀ H H', (∀ p : Oid, p.1 < b → H' p = H p) → I H → I H'
theorem Old.below {b k : Nat} {I : Hp → Prop} (h : Old b I) (hk : b ≤ k) {H : Hp} (hI : I H) : I (below k H) := h H _ (fun p hp => below_lt (by omega)) hI
theorem Old.upd {b k : Nat} {I : Hp → Prop} (h : Old b I) (hk : b ≤ k) {H : Hp} (hI : I H) (j : Nat) (x : Am.Obj) : I (Am.upd H (k, j) x) := h H _ (fun p hp => upd_old (by omega) j x H) hI
abbrev idxT (cs : D) (f : FuncId) (caps : List AV) (n i : Nat) : List AV := [.d cs, .fn f caps, .junk, .junk, .d (.int .i64 0), .junk, .junk, .d (.int .i64 n), .d (.int .i64 i), .junk, .junk, .junk, .junk, .junk, .junk, .junk, .junk, .junk, .junk]
def IdxEnd (cs : D) (f : FuncId) (caps : List AV) (n b : Nat) (I : Hp → Prop) (r : Bool) (e : Ex) (t : St) : Prop :=
 if r then ∃ k : Nat, e = .ret ∧ t.tm[4]? = some (.d (.int .i64 k)) ∧ b ≤ t.nx ∧ I t.hp
 else ∃ H' n', e = .exit 0 ∧ t = ⟨idxT cs f caps n n, H', n'⟩ ∧ b ≤ n' ∧ I H'
theorem idxI_ok (f : FuncId) (hf : f = 76 ∨ f = 78) (caps : List AV) (b : Nat) (I : Hp → Prop) (hI : Old b I) (ns : List Int) (hn : ns.length ≤ 9223372036854775807) (nl : Option Bool) (p : Int → Bool) (h : ∀ n ∈ ns, Asks f caps b I n (p n)) :
  ∀ H nx, b ≤ nx → I H → ∃ (k : Int) (q : Hp × Nat), acall Tryz.prog plc 89 [.d (.sl (encI ns) ns.length false nl), .fn f caps] H nx = some (.d (.int .i64 k), q.1, q.2) ∧ nx ≤ q.2 ∧ I q.1 ∧ decide (0 ≤ k) = ns.any p := by
 intro H nx hb hH
 have hloop := loop_rule (P := Tryz.prog) (pol := plc) (c := b89_0) (m := ⟨[true, true, false, false, true, false, false, true, true, false, false, false, false, false, false, false, false, false, false], some (nx + 4)⟩)
  (b := nx + 4) (tm := fun (x : Nat × Hp) => idxT (.sl (encI ns) ns.length false nl) f caps ns.length x.1) (Hf := fun x => x.2)
  (I := fun x => x.1 ≤ ns.length ∧ I x.2) (μ := fun x => ns.length - x.1) (res := fun x => (ns.drop x.1).any p) (R := IdxEnd (.sl (encI ns) ns.length false nl) f caps ns.length nx I)
  (fun x nx1 hx => by
   obtain ⟨i, HH⟩ := x
   obtain ⟨hi, hHH⟩ := hx
   simp only at hi hHH ⊢
   rcases Nat.lt_or_ge i ns.length with hl | hl
   ·have hg : ns[i]? = some ns[i] := List.getElem?_eq_getElem hl
    obtain ⟨F, N, hFN⟩ := (h _ (List.mem_of_getElem? hg)).fn
    have hdr : ns.drop i = ns[i] :: ns.drop (i + 1) := List.drop_eq_getElem_cons hl
    generalize hy : ns[i] = y at *
    have hli : (i : Int) < (ns.length : Int) := by omega
    have hw : IntKind.i64.wrap ((i : Int) + 1) = (i : Int) + 1 := wrap_i64 (by omega) (by omega)
    have hel : (encI ns).length = ns.length := by simp [encI]
    have he : ∀ h : i < (encI ns).length, (encI ns)[i]'h = .int .i64 y := fun h => by simp [encI, hy]
    have hbk : ∀ k, b ≤ nx1 + (nx + k) := fun k => by omega
    have hFc := fun H nx a c => (hFN H nx a c).1
    have hle : 1 ≤ ns.length - i := by omega
    have hF2 := hFN HH (nx1 + (nx + 13)) (hbk 13) hHH
    conv => arg 9; arg 4; unfold b89_0
    rcases hf with rfl | rfl
    ·cases hp : p y
     ·rw [hp] at hFc
      simp [hli, hl, hel, he, hw, plc_raw, Nat.add_assoc, hFc, hbk, hHH, hle]
      refine .next (i + 1, below (nx + 4) (F HH (nx1 + (nx + 13)))) ?_ (by simp) rfl ⟨hl, hI.below (by omega) hF2.2.2⟩ (by simp only; omega) (by simp only [hdr, List.any_cons, hp]; rfl)
      have := hF2.2.1; omega
     ·rw [hp] at hFc
      simp [hli, hl, hel, he, hw, plc_raw, Nat.add_assoc, hFc, hbk, hHH, hle]
      refine .fin _ _ ?_
      have := hF2.2.1
      simp only [hdr, List.any_cons, hp, Bool.true_or, IdxEnd, if_true]
      exact ⟨i, trivial, rfl, by omega, hI.below (by omega) hF2.2.2⟩
    ·cases hp : p y
     ·rw [hp] at hFc
      simp [hli, hl, hel, he, hw, plc_raw, Nat.add_assoc, hFc, hbk, hHH, hle]
      refine .next (i + 1, below (nx + 4) (F HH (nx1 + (nx + 13)))) ?_ (by simp) rfl ⟨hl, hI.below (by omega) hF2.2.2⟩ (by simp only; omega) (by simp only [hdr, List.any_cons, hp]; rfl)
      have := hF2.2.1; omega
     ·rw [hp] at hFc
      simp [hli, hl, hel, he, hw, plc_raw, Nat.add_assoc, hFc, hbk, hHH, hle]
      refine .fin _ _ ?_
      have := hF2.2.1
      simp only [hdr, List.any_cons, hp, Bool.true_or, IdxEnd, if_true]
      exact ⟨i, trivial, rfl, by omega, hI.below (by omega) hF2.2.2⟩
   ·obtain rfl : i = ns.length := Nat.le_antisymm hi hl
    simp [b89_0]
    refine .fin _ _ ?_
    simp only [List.drop_length, List.any_nil, IdxEnd, Bool.false_eq_true, if_false]
    exact ⟨_, _, trivial, rfl, by omega, hI.below (by omega) hHH⟩) (0, H) ⟨Nat.zero_le _, hH⟩
 obtain ⟨e, t, hrun, hR⟩ := hloop
 simp at hrun hR
 cases hq : ns.any p
 ·simp only [hq, IdxEnd, Bool.false_eq_true, if_false] at hR
  obtain ⟨H', n', rfl, rfl, h1, h2⟩ := hR
  refine ⟨-1, (H', n' + 1), acall_body code89 ?_, by simp only; omega, h2, by simp⟩
  simp [idxT] at hrun
  simp [hrun]
 ·simp only [hq, IdxEnd, if_true] at hR
  obtain ⟨k, rfl, hv, h1, h2⟩ := hR
  refine ⟨k, (t.hp, t.nx), acall_body code89 ?_, h1, h2, by simp⟩
  simp [idxT] at hrun
  simp [hrun, hv]
theorem hasI_ok (f : FuncId) (hf : f = 76 ∨ f = 78) (caps : List AV) (b : Nat) (I : Hp → Prop) (hI : Old b I) (ns : List Int) (hn : ns.length ≤ 9223372036854775807) (nl : Option Bool) (p : Int → Bool) (h : ∀ n ∈ ns, Asks f caps b I n (p n)) :
  ∀ H nx, b ≤ nx → I H → ∃ q : Hp × Nat, acall Tryz.prog plc 77 [.d (.sl (encI ns) ns.length false nl), .fn f caps] H nx = some (.d (.bool (ns.any p)), q.1, q.2) ∧ nx ≤ q.2 ∧ I q.1 := by
 intro H nx hb hH
 obtain ⟨k, q, h1, h2, h3, h4⟩ := idxI_ok f hf caps b I hI ns hn nl p h H (nx + 6) (by omega) hH
 refine ⟨q, acall_body code77 ?_, by omega, h3⟩
 rcases hf with rfl | rfl <;> simp [plc_raw, Nat.add_assoc, h1, h4]
end Go.Proofs.YtajilkmepjhkdaaGreat.Am

/-
 The numbers of a term's variables, rising: what the document's functions compute. No condition.
-/
namespace Go.Proofs.YtajilkmepjhkdaaGreat.Am
open Go Go.Proofs
set_option maxHeartbeats 4000000
set_option linter.unusedSimpArgs false
def withGo (n : Int) : Bool → List Int → List Int → List Int
 | inn, out, [] => if inn then out else out ++ [n]
 | inn, out, x :: r =>
  if inn = false ∧ n ≤ x then withGo n true ((out ++ [n]) ++ if x = n then [] else [x]) r else withGo n inn (out ++ if x = n then [] else [x]) r
def WithEnd (l : List Int) (b : Bool) (nl : Option Bool) (n : Int) (r : List Int) (e : Ex) (t : St) : Prop :=
 ∃ inn out, AtExit 0 [.d (.sl (encI l) l.length b nl), .d (.int .i64 n), .junk, .junk, .osl (0, 1) 0 0 1 0, .osl (1, 1) 0 out.length 1 out.length, .d (.bool inn), .d (.int .i64 l.length), .junk, .junk, .junk, .junk, .junk, .junk, .junk, .junk, .junk, .junk, .junk, .junk, .junk, .junk, .junk, .junk, .junk, .junk, .junk, .junk, .junk, .junk, .junk, .junk, .junk, .junk, .junk, .junk, .junk, .junk, .junk, .junk, .junk, .junk, .junk, .junk, .junk, .junk, .junk, .junk] (upd (upd (fun _ => none) (0, 1) .vnil) (1, 1) (rowI out)) e t ∧ out.length ≤ l.length + 1 ∧ r = if inn then out else out ++ [n]
theorem with_ok (l : List Int) (hl : l.length ≤ 68719476000) (b : Bool) (nl : Option Bool) (n : Int) : pcl Cp 104 [.sl (encI l) l.length b nl, .int .i64 n] = some (.sl (encI (withGo n false [] l)) (withGo n false [] l).length false (some (decide (withGo n false [] l = [])))) := by
 have hloop := loop_rule (P := Tryz.prog) (pol := plc) (c := b104_0) (m := ⟨[true, true, false, false, true, true, true, true, false, false, false, false, false, false, false, false, false, false, false, false, false, false, false, false, false, false, false, false, false, false, false, false, false, false, false, false, false, false, false, false, false, true, true, true, true, true, true, true], some 4⟩)
  (b := 4) (tm := fun (s : Nat × Bool × List Int) => [.d (.sl (encI l) l.length b nl), .d (.int .i64 n), .junk, .junk, .osl (0, 1) 0 0 1 0, .osl (1, 1) 0 s.2.2.length 1 s.2.2.length, .d (.bool s.2.1), .d (.int .i64 s.1), .junk, .junk, .junk, .junk, .junk, .junk, .junk, .junk, .junk, .junk, .junk, .junk, .junk, .junk, .junk, .junk, .junk, .junk, .junk, .junk, .junk, .junk, .junk, .junk, .junk, .junk, .junk, .junk, .junk, .junk, .junk, .junk, .junk, .junk, .junk, .junk, .junk, .junk, .junk, .junk])
  (Hf := fun s => upd (upd (fun _ => none) (0, 1) .vnil) (1, 1) (rowI s.2.2))
  (I := fun s => s.1 ≤ l.length ∧ s.2.2.length ≤ s.1 + if s.2.1 then 1 else 0) (μ := fun s => l.length - s.1) (res := fun s => withGo n s.2.1 s.2.2 (l.drop s.1))
  (R := fun r e t => WithEnd l b nl n r e t)
  (fun s nx hi => by
   obtain ⟨i, inn, out⟩ := s
   obtain ⟨hi, ho⟩ := hi
   simp only at hi ho ⊢
   rcases Nat.lt_or_ge i l.length with hl2 | hl2
   ·have hw : IntKind.i64.wrap ((i : Int) + 1) = (i : Int) + 1 := wrap_i64 (by omega) (by omega)
    have hb1 : out.length ≤ 68719476735 := by split at ho <;> omega
    obtain ⟨x, hx⟩ : ∃ x, l[i] = x := ⟨_, rfl⟩
    have hdr := List.drop_eq_getElem_cons hl2
    rw [hx] at hdr
    have ha2 := fun (H : Hp) (id : Nat) (o o2 : Oid) (y : Int) (h : H o = some (rowI (out ++ [n]))) (h2 : H o2 = some (.cells [.d (.int .i64 y)])) (hb : out.length + 1 ≤ 68719476735) => append_rowI (id := id) h h2 (by simpa using hb)
    simp only [List.length_append, List.length_singleton] at ha2
    by_cases hin : inn = false ∧ n ≤ x
    ·obtain ⟨rfl, hge⟩ := hin
     have hb2 : out.length + 1 ≤ 68719476735 := by simp at ho; omega
     by_cases he : x = n
     ·conv => arg 9; arg 4; unfold b104_0
      simp [hl2, hw, append_rowI, hb1, hx, hge, he]
      refine .next (i + 1, true, out ++ [n]) (by omega) (by simp) rfl ⟨hl2, by simp at ho ⊢; omega⟩ (by simp; omega) ?_
      simp [hdr, withGo, hge, he]
     ·conv => arg 9; arg 4; unfold b104_0
      simp [hl2, hw, append_rowI, ha2, hb1, hb2, hx, hge, he]
      refine .next (i + 1, true, out ++ [n] ++ [x]) (by omega) (by simp) (by simp) ⟨hl2, by simp at ho ⊢; omega⟩ (by simp; omega) ?_
      simp [hdr, withGo, hge, he]
    ·by_cases he : x = n
     ·cases inn
      ·simp at hin
       conv => arg 9; arg 4; unfold b104_0
       simp [hl2, hw, append_rowI, ha2, hb1, hx, hin, he]
       omega
      ·conv => arg 9; arg 4; unfold b104_0
       simp [hl2, hw, append_rowI, ha2, hb1, hx, he]
       refine .next (i + 1, true, out) (by omega) (by simp) rfl ⟨hl2, by simp at ho ⊢; omega⟩ (by simp; omega) ?_
       simp [hdr, withGo, he]
     ·cases inn
      ·simp at hin
       have hin2 : ¬ n ≤ x := by omega
       conv => arg 9; arg 4; unfold b104_0
       simp [hl2, hw, append_rowI, ha2, hb1, hx, hin2, he]
       refine .next (i + 1, false, out ++ [x]) (by omega) (by simp) (by simp) ⟨hl2, by simp at ho ⊢; omega⟩ (by simp; omega) ?_
       simp [hdr, withGo, he, hin2]
      ·conv => arg 9; arg 4; unfold b104_0
       simp [hl2, hw, append_rowI, ha2, hb1, hx, he]
       refine .next (i + 1, true, out ++ [x]) (by omega) (by simp) (by simp) ⟨hl2, by simp at ho ⊢; omega⟩ (by simp; omega) ?_
       simp [hdr, withGo, he]
   ·obtain rfl : i = l.length := Nat.le_antisymm hi hl2
    simp [b104_0]
    refine .fin _ _ ⟨inn, out, .mk, by split at ho <;> omega, by simp [withGo]⟩) (0, false, []) ⟨Nat.zero_le _, Nat.le_refl _⟩
 obtain ⟨e, t, hrun, inn, out, ⟨rfl, nx, rfl⟩, hout, hr⟩ := hloop
 refine pcl_body code104 ?_
 simp [rowI_nil] at hrun hr
 rw [hr]
 have hre := fun (H : Hp) (h : H (1, 1) = some (rowI (out ++ [n]))) => reify_rowI h 5
 have hre2 := fun (H : Hp) (h : H (1, 1) = some (rowI out)) => reify_rowI h 5
 simp only [List.length_append, List.length_singleton] at hre
 have hb1 : out.length ≤ 68719476735 := by omega
 cases inn
 ·simp [hrun, append_rowI, hb1, -datK_some]
  rw [datK_some]
  have h := hre (upd (upd (upd (upd (fun x => none) (0, 1) Obj.vnil) (1, 1) (rowI out)) (nx + 2 + 1 + 1, 0) (.cells [.d (.int .i64 n)])) (1, 1) (rowI (out ++ [n]))) (by simp)
  obtain ⟨x, hx, hx2⟩ := Option.map_eq_some_iff.1 h
  simp only [] at hx2 ⊢
  rw [hx]
  simp [hx2]
 ·simp [hrun, -datK_some]
  rw [datK_some]
  obtain ⟨x, hx, hx2⟩ := Option.map_eq_some_iff.1 (hre2 (upd (upd (fun x => none) (0, 1) Obj.vnil) (1, 1) (rowI out)) (by simp))
  rw [hx]
  simp [hx2]
end Go.Proofs.YtajilkmepjhkdaaGreat.Am

/-
 The numbers of a term's variables: what the document's functions compute. No condition.
-/
namespace Go.Proofs.YtajilkmepjhkdaaGreat.Am
open Go Go.Proofs
set_option maxHeartbeats 4000000
set_option linter.unusedSimpArgs false
set_option linter.unusedVariables false
mutual
def Term.varsW : Term → List Int → List Int
 | .mk v fn args, l => varsWL (if fn.toList = [] then withGo v false [] l else l) args
def varsWL (l : List Int) : List Term → List Int
 | [] => l
 | t :: r => varsWL (t.varsW l) r
end
theorem withGo_len (n : Int) : ∀ (l : List Int) (inn : Bool) (out : List Int), (withGo n inn out l).length ≤ out.length + l.length + if inn then 0 else 1
 | [], inn, out => by cases inn <;> simp [withGo]
 | x :: r, inn, out => by
  simp only [withGo]
  split
  ·rename_i h
   have := withGo_len n r true (out ++ [n] ++ if x = n then [] else [x])
   rw [h.1]
   refine Nat.le_trans this ?_
   split <;> simp <;> omega
  ·have := withGo_len n r inn (out ++ if x = n then [] else [x])
   refine Nat.le_trans this ?_
   split <;> simp <;> omega
theorem varsW_len (t : Term) : ∀ l, (t.varsW l).length ≤ l.length + t.size := by
 refine Term.ind (p := fun t => ∀ l, (t.varsW l).length ≤ l.length + t.size) (fun v fn args ih l => ?_) t
 have hl : ∀ (a : List Term), (∀ x ∈ a, ∀ l, (x.varsW l).length ≤ l.length + x.size) → ∀ l, (varsWL l a).length ≤ l.length + sizeL a := by
  intro a
  induction a with
  | nil => intro _ l; simp [varsWL]
  | cons x r ih2 =>
   intro h l
   have h1 := h x (by simp) l
   have h2 := ih2 (fun z hz => h z (by simp [hz])) (x.varsW l)
   simp only [varsWL, sizeL]; omega
 have h1 := hl args ih (if fn.toList = [] then withGo v false [] l else l)
 have h2 := withGo_len v l false []
 simp only [Term.varsW, Term.size]
 split at h1
 ·rename_i hv; rw [if_pos hv]; simp at h2; omega
 ·rename_i hv; rw [if_neg hv]; omega
theorem encI_nil : encI [] = [] := rfl
def Fl (l : List Int) (b : Bool) (nl : Option Bool) : Prop := b = false ∨ (l = [] ∧ b = true ∧ nl = some true)
def VarsEnd (v : Int) (fn : ByteArray) (args : List Term) (r : List Int) (e : Ex) (t : St) : Prop :=
 ∃ b' nl', Fl r b' nl' ∧ AtExit 0 [.d (.sl (encI r) r.length b' nl'), .junk, .junk, .ptr (0, 0) 0 3, .osl (1, 1) 0 0 1 0, .d (.int .i64 args.length), .junk, .junk, .junk, .junk, .junk, .junk, .junk, .junk, .junk, .junk, .junk, .junk, .junk, .junk, .junk, .junk, .junk, .junk, .junk, .junk, .junk, .junk] (upd (upd (fun _ => none) (0, 0) (.cells [.d (.int .i64 v), .d (.str fn), .d (.sl (encL args) args.length false none)])) (1, 1) .vnil) e t
theorem vars_ok (t : Term) : t.ok → ∀ l b nl, Fl l b nl → l.length + t.size ≤ 68719476000 → ∃ nl', pcl Cp 102 [.sl (encI l) l.length b nl, .agg t.enc] = some (.sl (encI (t.varsW l)) (t.varsW l).length false nl') := by
 refine Term.ind (p := fun t => t.ok → ∀ l b nl, Fl l b nl → l.length + t.size ≤ 68719476000 → ∃ nl', pcl Cp 102 [.sl (encI l) l.length b nl, .agg t.enc] = some (.sl (encI (t.varsW l)) (t.varsW l).length false nl')) (fun v fn args ih h l b nl hfl hsz => ?_) t
 have hn := h.1
 have hloop := fun (k : Nat) (hk : 2 ≤ k) (l : List Int) (b : Bool) (nl : Option Bool) (hfl : Fl l b nl) (hs : l.length + sizeL args ≤ 68719476000) =>
  loop_rule (P := Tryz.prog) (pol := plc) (c := b102_0) (m := ⟨[true, false, false, true, true, true, false, false, false, false, false, false, false, false, false, false, false, false, false, false, false, false, false, false, false, false, false, true], some k⟩)
   (b := k) (tm := fun (s : Nat × List Int × Bool × Option Bool) => [.d (.sl (encI s.2.1) s.2.1.length s.2.2.1 s.2.2.2), .junk, .junk, .ptr (0, 0) 0 3, .osl (1, 1) 0 0 1 0, .d (.int .i64 s.1), .junk, .junk, .junk, .junk, .junk, .junk, .junk, .junk, .junk, .junk, .junk, .junk, .junk, .junk, .junk, .junk, .junk, .junk, .junk, .junk, .junk, .junk])
   (Hf := fun _ => upd (upd (fun x => none) (0, 0) (.cells [.d (.int .i64 v), .d (.str fn), .d (.sl (encL args) args.length false none)])) (1, 1) .vnil)
   (I := fun s => s.1 ≤ args.length ∧ Fl s.2.1 s.2.2.1 s.2.2.2 ∧ s.2.1.length + sizeL (args.drop s.1) ≤ 68719476000) (μ := fun s => args.length - s.1) (res := fun s => varsWL s.2.1 (args.drop s.1))
   (R := VarsEnd v fn args)
   (fun s nx hi => by
    obtain ⟨i, l, b, nl⟩ := s
    obtain ⟨hi, hfl, hs⟩ := hi
    simp only at hi hfl hs ⊢
    rcases Nat.lt_or_ge i args.length with hl2 | hl2
    ·obtain ⟨v', fn', args', a⟩ := at_ok hn hl2
     rw [a.dr] at hs
     simp only [sizeL] at hs
     obtain ⟨nl', hc⟩ := ih _ a.mem (okL_mem h.2 _ a.mem) l b nl hfl (by omega)
     simp [Term.enc] at hc
     have hlen := varsW_len (.mk v' fn' args') l
     conv => arg 9; arg 4; unfold b102_0
     have hk0 : 0 < k := by omega
     have hk1 : 1 < k := by omega
     simp [a.lti, a.sz, a.ltm, a.cells, a.le3, plc_raw, a.w, hc, hk0, hk1]
     refine .next (i + 1, (Term.mk v' fn' args').varsW l, false, nl') (by omega) (by simp) rfl ⟨hl2, .inl rfl, by simp only; omega⟩ (by simp; omega) ?_
     simp only [a.dr, varsWL]
    ·obtain rfl : i = args.length := Nat.le_antisymm hi hl2
     have hk0 : 0 < k := by omega
     have hk1 : 1 < k := by omega
     simp [b102_0, hk0, hk1]
     refine .fin _ _ ⟨b, nl, ?_, ?_⟩
     ·simpa [varsWL] using hfl
     ·simp only [List.drop_length, varsWL]; exact .mk) (0, l, b, nl) ⟨Nat.zero_le _, hfl, by simpa using hs⟩
 simp only [Term.size] at hsz
 by_cases hv : fn.toList = []
 ·have hwith := with_ok l (by omega) b nl v
  have hwl := withGo_len v l false []
  simp at hwl
  generalize hl2 : withGo v false [] l = l2 at hwith hwl
  obtain ⟨e, t, hrun, hend⟩ := hloop 11 (by omega) l2 false (some (decide (l2 = []))) (.inl rfl) (by omega)
  simp only [List.drop_zero] at hend
  simp only [Term.varsW, hv, hl2, if_true]
  generalize varsWL l2 args = r at hend ⊢
  obtain ⟨b', nl', hfl2, rfl, nx, rfl⟩ := hend
  simp at hrun hwith
  rcases hfl2 with rfl | ⟨rfl, rfl, rfl⟩
  ·refine ⟨nl', pcl_body code102 ?_⟩
   simp [plc_raw, Term.enc, hv, hwith, hrun]
  ·refine ⟨some true, pcl_body code102 ?_⟩
   simp [encI_nil] at hrun
   simp [plc_raw, Term.enc, hv, hwith, hrun, encI_nil]
 ·obtain ⟨e, t, hrun, hend⟩ := hloop 6 (by omega) l b nl hfl (by omega)
  simp only [List.drop_zero] at hend
  simp only [Term.varsW, hv, if_false]
  generalize varsWL l args = r at hend ⊢
  obtain ⟨b', nl', hfl2, rfl, nx, rfl⟩ := hend
  simp at hrun
  rcases hfl2 with rfl | ⟨rfl, rfl, rfl⟩
  ·refine ⟨nl', pcl_body code102 ?_⟩
   simp [plc_raw, Term.enc, hv, hrun]
  ·refine ⟨some true, pcl_body code102 ?_⟩
   simp [encI_nil] at hrun
   simp [plc_raw, Term.enc, hv, hrun, encI_nil]
theorem rVars_ok (t : Term) (h : t.ok) (hs : t.size ≤ 68719476000) : ∃ nl', pcl Cp 98 [.agg t.enc] = some (.sl (encI (t.varsW [])) (t.varsW []).length false nl') := by
 obtain ⟨nl', hc⟩ := vars_ok t h [] true (some true) (.inr ⟨rfl, rfl, rfl⟩) (by simpa using hs)
 refine ⟨nl', pcl_body code98 ?_⟩
 generalize t.varsW [] = r at hc ⊢
 obtain ⟨v, fn, args⟩ := t
 simp [Term.enc, encI_nil] at hc ⊢
 simp [plc_raw, hc, encI_nil]
end Go.Proofs.YtajilkmepjhkdaaGreat.Am

/-
 The document's order of Knuth and Bendix: weights, counts, symbols. No condition.
-/
namespace Go.Proofs.YtajilkmepjhkdaaGreat.Am
open Go Go.Proofs
set_option maxHeartbeats 4000000
set_option linter.unusedSimpArgs false
set_option linter.unusedVariables false
def RwEnd (g : Sg) (v : Int) (fn : ByteArray) (args : List Term) (r : Int) (e : Ex) (t : St) : Prop :=
 AtExit 0 [.junk, .junk, .ptr (0, 0) 0 2, .ptr (1, 0) 0 3, .d (.int .i64 0), .d (.int .i64 r), .junk, .d (.int .i64 args.length), .junk, .junk, .junk, .junk, .junk, .junk, .junk, .junk, .junk, .junk, .junk, .junk, .junk, .junk, .junk, .junk, .junk, .junk, .junk, .junk, .junk, .junk, .junk, .junk, .junk, .junk, .junk, .junk, .junk, .junk, .junk, .junk, .junk, .junk, .junk, .junk, .junk, .junk, .junk, .junk, .junk, .junk, .junk, .junk, .junk, .junk, .junk, .junk, .junk, .junk, .junk, .junk, .junk, .junk, .junk, .junk] (upd (upd (fun _ => none) (0, 0) (.cells [.d (.sl (encS g.names) g.names.length false none), .d (.sl (encI g.weights) g.weights.length false none)])) (1, 0) (.cells [.d (.int .i64 v), .d (.str fn), .d (.sl (encL args) args.length false none)])) e t
theorem sizeL_drop {a : List Term} {i : Nat} {v : Int} {fn : ByteArray} {args : List Term} (h : At a i v fn args) : sizeL (a.drop i) = (Term.mk v fn args).size + sizeL (a.drop (i + 1)) := by rw [h.dr]; rfl
theorem rweight_ok (g : Sg) (hg : g.ok) (t : Term) : t.ok → t.size ≤ 1048576 → pcl Cp 100 [.agg g.enc, .agg t.enc] = some (.int .i64 (t.wt g)) := by
 refine Term.ind (p := fun t => t.ok → t.size ≤ 1048576 → pcl Cp 100 [.agg g.enc, .agg t.enc] = some (.int .i64 (t.wt g))) (fun v fn args ih h hsz => ?_) t
 have hn := h.1
 simp only [Term.size] at hsz
 have hloop := fun (k : Nat) (hk : 2 ≤ k) (acc : Int) (h0 : 0 ≤ acc) (h1 : acc ≤ 1000) =>
  loop_rule (P := Tryz.prog) (pol := plc) (c := b100_0) (m := ⟨[false, false, true, true, true, true, false, true, false, false, false, false, false, false, false, false, false, false, false, false, false, false, false, false, false, false, false, false, false, false, false, false, false, false, false, false, false, false, false, false, false, false, false, false, false, false, false, false, false, false, false, false, false, false, false, false, false, false, false, false, false, false, false, true], some k⟩)
   (b := k) (tm := fun (s : Nat × Int) => [.junk, .junk, .ptr (0, 0) 0 2, .ptr (1, 0) 0 3, .d (.int .i64 0), .d (.int .i64 s.2), .junk, .d (.int .i64 s.1), .junk, .junk, .junk, .junk, .junk, .junk, .junk, .junk, .junk, .junk, .junk, .junk, .junk, .junk, .junk, .junk, .junk, .junk, .junk, .junk, .junk, .junk, .junk, .junk, .junk, .junk, .junk, .junk, .junk, .junk, .junk, .junk, .junk, .junk, .junk, .junk, .junk, .junk, .junk, .junk, .junk, .junk, .junk, .junk, .junk, .junk, .junk, .junk, .junk, .junk, .junk, .junk, .junk, .junk, .junk, .junk])
   (Hf := fun _ => upd (upd (fun x => none) (0, 0) (.cells [.d (.sl (encS g.names) g.names.length false none), .d (.sl (encI g.weights) g.weights.length false none)])) (1, 0) (.cells [.d (.int .i64 v), .d (.str fn), .d (.sl (encL args) args.length false none)]))
   (I := fun s => s.1 ≤ args.length ∧ 0 ≤ s.2 ∧ s.2 + 1000 * sizeL (args.drop s.1) ≤ 4000000000) (μ := fun s => args.length - s.1) (res := fun s => s.2 + wtL g (args.drop s.1))
   (R := RwEnd g v fn args)
   (fun s nx hi => by
    obtain ⟨i, acc⟩ := s
    obtain ⟨hi, h0, hs⟩ := hi
    simp only at hi h0 hs ⊢
    have hk0 : 0 < k := by omega
    have hk1 : 1 < k := by omega
    rcases Nat.lt_or_ge i args.length with hl2 | hl2
    ·obtain ⟨v', fn', args', a⟩ := at_ok hn hl2
     rw [sizeL_drop a] at hs
     have hm := sizeL_mem a.mem
     have hc := ih _ a.mem (okL_mem h.2 _ a.mem) (by omega)
     have hw := wt_range g (.mk v' fn' args')
     have hwr : IntKind.i64.wrap (acc + (Term.mk v' fn' args').wt g) = acc + (Term.mk v' fn' args').wt g := wrap_small (by omega) (by omega)
     simp [Term.enc, Sg.enc] at hc
     conv => arg 9; arg 4; unfold b100_0
     simp [a.lti, a.sz, a.ltm, a.cells, a.le3, plc_raw, a.w, hc, hk0, hk1, hwr]
     refine .next (i + 1, acc + (Term.mk v' fn' args').wt g) (by omega) (by simp) rfl ⟨hl2, by simp only; omega, by simp only; omega⟩ (by simp; omega) ?_
     simp only [a.dr, wtL]; omega
    ·obtain rfl : i = args.length := Nat.le_antisymm hi hl2
     simp [b100_0, hk0, hk1]
     refine .fin _ _ ?_
     simp only [List.drop_length, wtL, Int.add_zero]
     exact .mk) (0, acc) ⟨Nat.zero_le _, h0, by simp; omega⟩
 have hat := rat_ok g.names g.weights hg.1 fn
 have hr := of_range g fn
 have hfin := fun (k : Nat) (hk : 2 ≤ k) (acc : Int) (he : g.of fn = acc) => hloop k hk acc (by omega) (by omega)
 clear hloop ih
 refine pcl_body code100 ?_
 simp only [Term.wt]
 have h1 : g.of fn = 1 → datK (finK Tryz.prog [.tmp 4] (exec Tryz.prog plc (acall Tryz.prog plc) (aloop Tryz.prog plc) (.seq .skip .skip) ⟨[], fun _ => none, 0⟩)) = none → True := fun _ _ => trivial
 clear h1
 rcases idxS_lt (ns := g.names) (s := fn) with hi | ⟨k, hi, hk⟩
 ·have hg1 : g.of fn = 1 := by simp [Sg.of, hi]
  obtain ⟨e, t, hrun, rfl, nx, rfl⟩ := hfin 40 (by omega) 1 hg1
  simp at hrun
  rw [hi] at hat
  by_cases hv : fn.toList = [] <;> simp [Term.enc, Sg.enc, plc_raw, hat, hv, hrun, hg1]
 ·rw [hi] at hat
  by_cases hv : fn.toList = []
  ·have hg1 : g.of fn = 1 := by simp [Sg.of, hv]
   obtain ⟨e, t, hrun, rfl, nx, rfl⟩ := hfin 40 (by omega) 1 hg1
   simp at hrun
   simp [Term.enc, Sg.enc, plc_raw, hat, hv, hrun, hg1]
  ·by_cases hw : k < g.weights.length
   ·have hw2 : (k : Int) < g.weights.length := by omega
    by_cases hlo : g.weights[k] < 1
    ·have hg1 : g.of fn = 1 := by simp [Sg.of, hi, hw, hlo]
     obtain ⟨e, t, hrun, rfl, nx, rfl⟩ := hfin 40 (by omega) 1 hg1
     simp at hrun
     have hlo2 : ¬ 1 ≤ g.weights[k] := by omega
     simp [Term.enc, Sg.enc, plc_raw, hat, hv, hrun, hg1, hw, hw2, hlo2]
    ·by_cases hhi : 1000 < g.weights[k]
     ·have hg1 : g.of fn = 1 := by simp [Sg.of, hi, hw, hlo, hhi]
      obtain ⟨e, t, hrun, rfl, nx, rfl⟩ := hfin 40 (by omega) 1 hg1
      simp at hrun
      have hlo2 : 1 ≤ g.weights[k] := by omega
      have hhi2 : ¬ g.weights[k] ≤ 1000 := by omega
      simp [Term.enc, Sg.enc, plc_raw, hat, hv, hrun, hg1, hw, hw2, hlo2, hhi2]
     ·have hg1 : g.of fn = g.weights[k] := by
       have : ¬ ((g.weights.length : Int) ≤ k) := by omega
       have : ¬ g.weights.length ≤ k := by omega
       have : ¬ (k : Int) < 0 := by omega
       simp [Sg.of, hi, hv, hw, hlo, hhi, *]
      obtain ⟨e, t, hrun, rfl, nx, rfl⟩ := hfin 46 (by omega) _ hg1
      simp at hrun
      have hlo2 : 1 ≤ g.weights[k] := by omega
      have hhi2 : g.weights[k] ≤ 1000 := by omega
      simp [Term.enc, Sg.enc, plc_raw, hat, hv, hrun, hg1, hw, hw2, hlo2, hhi2]
   ·have hw2 : ¬ (k : Int) < g.weights.length := by omega
    have hg1 : g.of fn = 1 := by
     have : (g.weights.length : Int) ≤ k := by omega
     simp [Sg.of, hi, this]
    obtain ⟨e, t, hrun, rfl, nx, rfl⟩ := hfin 40 (by omega) 1 hg1
    simp at hrun
    simp [Term.enc, Sg.enc, plc_raw, hat, hv, hrun, hg1, hw, hw2]
def RcEnd (x v : Int) (fn : ByteArray) (args : List Term) (r : Int) (e : Ex) (t : St) : Prop :=
 AtExit 0 [.junk, .d (.int .i64 x), .ptr (0, 0) 0 3, .junk, .d (.int .i64 0), .d (.int .i64 r), .d (.int .i64 args.length), .junk, .junk, .junk, .junk, .junk, .junk, .junk, .junk, .junk, .junk, .junk, .junk, .junk, .junk, .junk, .junk, .junk, .junk, .junk, .junk, .junk, .junk, .junk, .junk, .junk, .junk] (upd (fun _ => none) (0, 0) (.cells [.d (.int .i64 v), .d (.str fn), .d (.sl (encL args) args.length false none)])) e t
theorem occL_drop {a : List Term} {i : Nat} {v : Int} {fn : ByteArray} {args : List Term} (h : At a i v fn args) : occL (a.drop i) = (Term.mk v fn args).occ ++ occL (a.drop (i + 1)) := by rw [h.dr]; rfl
theorem occL_len : ∀ (a : List Term), (occL a).length ≤ sizeL a
 | [] => by simp [occL, sizeL]
 | x :: r => by
  have h1 := occ_len x
  have h2 := occL_len r
  simp only [occL, sizeL, List.length_append]; omega
theorem rcount_ok (x : Int) (t : Term) : t.ok → t.size ≤ 1048576 → pcl Cp 99 [.agg t.enc, .int .i64 x] = some (.int .i64 (t.occ.count x)) := by
 refine Term.ind (p := fun t => t.ok → t.size ≤ 1048576 → pcl Cp 99 [.agg t.enc, .int .i64 x] = some (.int .i64 (t.occ.count x))) (fun v fn args ih h hsz => ?_) t
 have hn := h.1
 simp only [Term.size] at hsz
 have hloop := fun (k : Nat) (hk : 2 ≤ k) (acc : Nat) (h1 : acc ≤ 1) =>
  loop_rule (P := Tryz.prog) (pol := plc) (c := b99_0) (m := ⟨[false, true, true, false, true, true, true, false, false, false, false, false, false, false, false, false, false, false, false, false, false, false, false, false, false, false, false, false, false, false, false, false, true], some k⟩)
   (b := k) (tm := fun (s : Nat × Nat) => [.junk, .d (.int .i64 x), .ptr (0, 0) 0 3, .junk, .d (.int .i64 0), .d (.int .i64 s.2), .d (.int .i64 s.1), .junk, .junk, .junk, .junk, .junk, .junk, .junk, .junk, .junk, .junk, .junk, .junk, .junk, .junk, .junk, .junk, .junk, .junk, .junk, .junk, .junk, .junk, .junk, .junk, .junk, .junk])
   (Hf := fun _ => upd (fun x => none) (0, 0) (.cells [.d (.int .i64 v), .d (.str fn), .d (.sl (encL args) args.length false none)]))
   (I := fun s => s.1 ≤ args.length ∧ s.2 + sizeL (args.drop s.1) ≤ 4000000000) (μ := fun s => args.length - s.1) (res := fun s => ((s.2 + (occL (args.drop s.1)).count x : Nat) : Int))
   (R := RcEnd x v fn args)
   (fun s nx hi => by
    obtain ⟨i, acc⟩ := s
    obtain ⟨hi, hs⟩ := hi
    simp only at hi hs ⊢
    have hk0 : 0 < k := by omega
    have hk1 : 1 < k := by omega
    rcases Nat.lt_or_ge i args.length with hl2 | hl2
    ·obtain ⟨v', fn', args', a⟩ := at_ok hn hl2
     rw [sizeL_drop a] at hs
     have hm := sizeL_mem a.mem
     have hc := ih _ a.mem (okL_mem h.2 _ a.mem) (by omega)
     have hw : (Term.mk v' fn' args').occ.count x ≤ (Term.mk v' fn' args').size := Nat.le_trans List.count_le_length (occ_len _)
     have hwr : IntKind.i64.wrap ((acc : Int) + ((Term.mk v' fn' args').occ.count x : Int)) = ((acc + (Term.mk v' fn' args').occ.count x : Nat) : Int) := by rw [wrap_small (by omega) (by omega)]; omega
     generalize hcc : (Term.mk v' fn' args').occ.count x = cc at hc hw hwr
     simp [Term.enc, Sg.enc] at hc
     conv => arg 9; arg 4; unfold b99_0
     simp only [Int.natCast_add] at hwr
     simp [a.lti, a.sz, a.ltm, a.cells, a.le3, plc_raw, a.w, hc, hk0, hk1, hwr]
     refine .next (i + 1, acc + cc) (by omega) (by simp) rfl ⟨hl2, by simp only; omega⟩ (by simp; omega) ?_
     simp only [occL_drop a, List.count_append, hcc]; omega
    ·obtain rfl : i = args.length := Nat.le_antisymm hi hl2
     simp [b99_0, hk0, hk1]
     refine .fin _ _ ?_
     simp only [List.drop_length, occL, List.count_nil, Nat.add_zero]
     exact .mk) (0, acc) ⟨Nat.zero_le _, by simp; omega⟩
 refine pcl_body code99 ?_
 clear ih
 by_cases hv : fn.toList = []
 ·by_cases hx : v = x
  ·subst hx
   obtain ⟨e, t, hrun, rfl, nx, rfl⟩ := hloop 14 (by omega) 1 (by omega)
   simp at hrun
   simp [Term.enc, plc_raw, hv, hrun, Term.occ]
   omega
  ·obtain ⟨e, t, hrun, rfl, nx, rfl⟩ := hloop 13 (by omega) 0 (by omega)
   simp at hrun
   have hc : ([v] : List Int).count x = 0 := List.count_eq_zero.2 (by simpa using fun e => hx e.symm)
   simp [Term.enc, plc_raw, hv, hrun, Term.occ, hx]
 ·obtain ⟨e, t, hrun, rfl, nx, rfl⟩ := hloop 13 (by omega) 0 (by omega)
  simp at hrun
  simp [Term.enc, plc_raw, hv, hrun, Term.occ]
def Sg.symR (g : Sg) (f1 f2 : ByteArray) (n1 n2 : Nat) : Bool := if f1.toList = f2.toList then decide (n2 < n1) else g.aboveR f1 f2
theorem rsymbol_ok (g : Sg) (hg : g.ok) (v1 : Int) (f1 : ByteArray) (a1 : List Term) (v2 : Int) (f2 : ByteArray) (a2 : List Term) :
  pcl Cp 101 [.agg g.enc, .agg (Term.mk v1 f1 a1).enc, .agg (Term.mk v2 f2 a2).enc] = some (.bool (g.symR f1 f2 a1.length a2.length)) := by
 have hab := rabove_ok g hg f1 f2
 refine pcl_body code101 ?_
 unfold Sg.symR
 simp [Sg.enc] at hab
 by_cases hf : f1.toList = f2.toList
 ·simp [Term.enc, Sg.enc, plc_raw, hf]
 ·simp [Term.enc, Sg.enc, plc_raw, hf, hab]
end Go.Proofs.YtajilkmepjhkdaaGreat.Am

/-
 The document's path order: what is told of two parts, with a table of those ahead of them. No condition.
-/
namespace Go.Proofs.YtajilkmepjhkdaaGreat.Am
open Go Go.Proofs
set_option maxHeartbeats 4000000
set_option maxRecDepth 20000
set_option linter.unusedSimpArgs false
set_option linter.unusedVariables false
structure Cell (cs : List D) (i : Nat) (x : D) : Prop where
 get : cs[i]? = some x
 lt : i < cs.length
 e : ∀ h : i < cs.length, cs[i]'h = x
 tk : (cs.drop i).take 1 = [x]
 le : 1 ≤ cs.length - i
 lti : (i : Int) < (cs.length : Int)
 np : ¬ cs.length ≤ i
theorem cell_ok {cs : List D} {i : Nat} {x : D} (h : cs[i]? = some x) : Cell cs i x := by
 have h1 := (List.getElem?_eq_some_iff.1 h)
 refine ⟨h, h1.1, fun _ => h1.2, ?_, by have := h1.1; omega, by have := h1.1; omega, by have := h1.1; omega⟩
 rw [List.drop_eq_getElem_cons h1.1, h1.2]; rfl
theorem encO_len (l : List (List Int)) : (encO l).length = l.length := by simp [encO]
theorem encO_at {l : List (List Int)} {i : Nat} {x : List Int} (h : l[i]? = some x) : Cell (encO l) i (.sl (encI x) x.length false (some (decide (x = [])))) := cell_ok (by simp [encO, h])
theorem encI_at {l : List Int} {i : Nat} {x : Int} (h : l[i]? = some x) : Cell (encI l) i (.int .i64 x) := cell_ok (by simp [encI, h])
theorem encI_len' (l : List Int) : (encI l).length = l.length := by simp [encI]
abbrev partsD (s : Laid) : D := .dptr [.sl (encL s.1) s.1.length false (some false), .sl (encO s.2) s.2.length false (some false)]
abbrev tabD (tab : List D) (n : Nat) : D := .sl tab n false (some false)
abbrev oneH (g : Sg) (v1 : Int) (f1 : ByteArray) (a1 : List Term) (v2 : Int) (f2 : ByteArray) (a2 : List Term) : Hp :=
 upd (upd (upd (upd (upd (upd (upd (fun _ => none) (0, 0) (.cells [.d (.sl (encS g.names) g.names.length false none), .d (.sl (encI g.weights) g.weights.length false none)]))
  (16, 3) .vnil) (16, 0) (.cells [.d (.int .i64 0), .d (.str (ByteArray.mk #[])), .osl (16, 3) 0 0 1 0])) (17, 3) .vnil) (17, 0) (.cells [.d (.int .i64 0), .d (.str (ByteArray.mk #[])), .osl (17, 3) 0 0 1 0]))
  (16, 0) (.cells [.d (.int .i64 v1), .d (.str f1), .d (.sl (encL a1) a1.length false none)])) (17, 0) (.cells [.d (.int .i64 v2), .d (.str f2), .d (.sl (encL a2) a2.length false none)])
def AtExitN (b j : Nat) (tm : List AV) (H : Hp) (e : Ex) (st : St) : Prop := e = .exit j ∧ ∃ nx, b ≤ nx ∧ st = ⟨tm, H, nx⟩
noncomputable section
open Classical
def lpoB (g : Sg) (x y : Term) : Bool := decide (Lpo g x y)
def Tab (g : Sg) (s r : Laid) (tab : List D) (i k : Nat) : Prop := tab.length = s.1.length ∧ ∀ (a c : Nat) x y, s.1[a]? = some x → r.1[c]? = some y → (a < i ∨ a = i ∧ c < k) → ∃ cs, tab[a]? = some (.sl cs r.1.length false (some false)) ∧ cs.length = r.1.length ∧ cs[c]? = some (.bool (lpoB g x y))
def oneT (g : Sg) (s r : Laid) (tab : List D) (i k : Nat) (j : Int) : List AV := [.junk, .d (partsD s), .d (partsD r), .d (tabD tab s.1.length), .d (.int .i64 i), .d (.int .i64 k), .ptr (0, 0) 0 2, .junk, .junk, .junk, .junk, .junk, .d (.bool false), .ptr (16, 0) 0 3, .ptr (17, 0) 0 3, .d (.int .i64 j), .junk, .junk, .junk, .junk, .junk, .junk, .junk, .junk, .junk, .junk, .junk, .junk, .junk, .junk, .junk, .junk, .junk, .junk, .junk, .junk, .junk, .junk, .junk, .junk, .junk, .junk, .junk, .junk, .junk, .junk, .junk, .junk, .junk, .junk, .junk, .junk, .junk, .junk, .junk, .junk, .junk, .junk, .junk, .junk, .junk, .junk, .junk, .junk, .junk, .junk, .junk, .junk, .junk, .junk, .junk, .junk, .junk, .junk, .junk, .junk, .junk, .junk, .junk, .junk, .junk, .junk, .junk, .junk, .junk, .junk, .junk, .junk, .junk, .junk, .junk, .junk, .junk, .junk, .junk, .junk, .junk, .junk, .junk, .junk, .junk, .junk, .junk, .junk, .junk, .junk, .junk, .junk, .junk, .junk, .junk, .junk, .junk, .junk, .junk, .junk, .junk, .junk, .junk, .junk, .junk, .junk, .junk, .junk, .junk, .junk, .junk, .junk, .junk, .junk, .junk, .junk, .junk, .junk, .junk, .junk, .junk, .junk, .junk, .junk, .junk, .junk, .junk, .junk, .junk, .junk, .junk, .junk, .junk, .junk, .junk, .junk, .junk, .junk, .junk, .junk, .junk, .junk, .junk, .junk, .junk, .junk, .junk, .junk, .junk, .junk, .junk, .junk, .junk, .junk]
def under (g : Sg) (a1 : List Term) (t : Term) : Bool := decide (∃ x ∈ a1, x = t ∨ Lpo g x t)
def OneEnd1 (g : Sg) (s r : Laid) (tab : List D) (i k n : Nat) (H : Hp) (b : Bool) (e : Ex) (t : St) : Prop :=
 if b then e = .ret ∧ t.tm[12]? = some (.d (.bool true)) else AtExitN 24 0 [.junk, .d (partsD s), .d (partsD r), .d (tabD tab s.1.length), .d (.int .i64 i), .d (.int .i64 k), .ptr (0, 0) 0 2, .junk, .junk, .junk, .junk, .junk, .d (.bool false), .ptr (16, 0) 0 3, .ptr (17, 0) 0 3, .d (.int .i64 n), .junk, .junk, .junk, .junk, .junk, .junk, .junk, .junk, .junk, .junk, .junk, .junk, .junk, .junk, .junk, .junk, .junk, .junk, .junk, .junk, .junk, .junk, .junk, .junk, .junk, .junk, .junk, .junk, .junk, .junk, .junk, .junk, .junk, .junk, .junk, .junk, .junk, .junk, .junk, .junk, .junk, .junk, .junk, .junk, .junk, .junk, .junk, .junk, .junk, .junk, .junk, .junk, .junk, .junk, .junk, .junk, .junk, .junk, .junk, .junk, .junk, .junk, .junk, .junk, .junk, .junk, .junk, .junk, .junk, .junk, .junk, .junk, .junk, .junk, .junk, .junk, .junk, .junk, .junk, .junk, .junk, .junk, .junk, .junk, .junk, .junk, .junk, .junk, .junk, .junk, .junk, .junk, .junk, .junk, .junk, .junk, .junk, .junk, .junk, .junk, .junk, .junk, .junk, .junk, .junk, .junk, .junk, .junk, .junk, .junk, .junk, .junk, .junk, .junk, .junk, .junk, .junk, .junk, .junk, .junk, .junk, .junk, .junk, .junk, .junk, .junk, .junk, .junk, .junk, .junk, .junk, .junk, .junk, .junk, .junk, .junk, .junk, .junk, .junk, .junk, .junk, .junk, .junk, .junk, .junk, .junk, .junk, .junk, .junk, .junk, .junk, .junk, .junk, .junk] H e t
theorem one_loop1 (g : Sg) (s r : Laid) (tab : List D) (i k : Nat) (v1 : Int) (f1 : ByteArray) (a1 : List Term) (v2 : Int) (f2 : ByteArray) (a2 : List Term) (hs : LOk s) (hi : s.1[i]? = some (.mk v1 f1 a1)) (hk : r.1[k]? = some (.mk v2 f2 a2)) (hsz : s.1.length ≤ 9223372036854775807) (hlen : a1.length ≤ 9223372036854775807) (ha1 : okL a1) (ht : (Term.mk v2 f2 a2).ok) (hT : Tab g s r tab i k) :
  ∃ e t, aloop Tryz.prog plc b97_2 ⟨[false, true, true, true, true, true, true, false, false, false, false, false, true, true, true, true, false, true, true, false, false, false, false, false, false, false, false, false, false, false, false, false, false, false, false, false, false, false, false, false, false, false, false, false, false, false, false, false, false, false, false, false, false, false, false, false, false, false, false, false, false, false, false, false, false, false, false, false, false, false, false, false, false, false, false, false, true, true, true, true, true, true, true, true, true, true, true, true, true, true, true, true, true, true, true, true, true, true, true, true, true, true, true, true, true, true, true, true, true, true, true, true, true, true, true, true, true, true, true, true, true, true, true, true, true, true, true, true, true, true, true, true, true, true, true, true, true, true, true, true, true, true, true, true, true, true, true, true, true, true, true, true, true, true, true, true, true, true, true, true, true, true, true, true, true, true, true, true, true, true], some 24⟩ ⟨[.junk, .d (partsD s), .d (partsD r), .d (tabD tab s.1.length), .d (.int .i64 i), .d (.int .i64 k), .ptr (0, 0) 0 2, .junk, .junk, .junk, .junk, .junk, .d (.bool false), .ptr (16, 0) 0 3, .ptr (17, 0) 0 3, .d (.int .i64 0), .junk, .junk, .junk, .junk, .junk, .junk, .junk, .junk, .junk, .junk, .junk, .junk, .junk, .junk, .junk, .junk, .junk, .junk, .junk, .junk, .junk, .junk, .junk, .junk, .junk, .junk, .junk, .junk, .junk, .junk, .junk, .junk, .junk, .junk, .junk, .junk, .junk, .junk, .junk, .junk, .junk, .junk, .junk, .junk, .junk, .junk, .junk, .junk, .junk, .junk, .junk, .junk, .junk, .junk, .junk, .junk, .junk, .junk, .junk, .junk, .junk, .junk, .junk, .junk, .junk, .junk, .junk, .junk, .junk, .junk, .junk, .junk, .junk, .junk, .junk, .junk, .junk, .junk, .junk, .junk, .junk, .junk, .junk, .junk, .junk, .junk, .junk, .junk, .junk, .junk, .junk, .junk, .junk, .junk, .junk, .junk, .junk, .junk, .junk, .junk, .junk, .junk, .junk, .junk, .junk, .junk, .junk, .junk, .junk, .junk, .junk, .junk, .junk, .junk, .junk, .junk, .junk, .junk, .junk, .junk, .junk, .junk, .junk, .junk, .junk, .junk, .junk, .junk, .junk, .junk, .junk, .junk, .junk, .junk, .junk, .junk, .junk, .junk, .junk, .junk, .junk, .junk, .junk, .junk, .junk, .junk, .junk, .junk, .junk, .junk, .junk, .junk, .junk, .junk], oneH g v1 f1 a1 v2 f2 a2, 24⟩ = some (e, t) ∧ OneEnd1 g s r tab i k a1.length (oneH g v1 f1 a1 v2 f2 a2) (under g a1 (.mk v2 f2 a2)) e t := by
 obtain ⟨ns, hO, hnl, hns⟩ := hs.own i v1 f1 a1 hi
 have hkl := (List.getElem?_eq_some_iff.1 hk).1
 have key := loop_rule (P := Tryz.prog) (pol := plc) (c := b97_2) (m := ⟨[false, true, true, true, true, true, true, false, false, false, false, false, true, true, true, true, false, true, true, false, false, false, false, false, false, false, false, false, false, false, false, false, false, false, false, false, false, false, false, false, false, false, false, false, false, false, false, false, false, false, false, false, false, false, false, false, false, false, false, false, false, false, false, false, false, false, false, false, false, false, false, false, false, false, false, false, true, true, true, true, true, true, true, true, true, true, true, true, true, true, true, true, true, true, true, true, true, true, true, true, true, true, true, true, true, true, true, true, true, true, true, true, true, true, true, true, true, true, true, true, true, true, true, true, true, true, true, true, true, true, true, true, true, true, true, true, true, true, true, true, true, true, true, true, true, true, true, true, true, true, true, true, true, true, true, true, true, true, true, true, true, true, true, true, true, true, true, true, true, true], some 24⟩)
  (b := 24) (tm := fun (j : Nat) => [.junk, .d (partsD s), .d (partsD r), .d (tabD tab s.1.length), .d (.int .i64 i), .d (.int .i64 k), .ptr (0, 0) 0 2, .junk, .junk, .junk, .junk, .junk, .d (.bool false), .ptr (16, 0) 0 3, .ptr (17, 0) 0 3, .d (.int .i64 j), .junk, .junk, .junk, .junk, .junk, .junk, .junk, .junk, .junk, .junk, .junk, .junk, .junk, .junk, .junk, .junk, .junk, .junk, .junk, .junk, .junk, .junk, .junk, .junk, .junk, .junk, .junk, .junk, .junk, .junk, .junk, .junk, .junk, .junk, .junk, .junk, .junk, .junk, .junk, .junk, .junk, .junk, .junk, .junk, .junk, .junk, .junk, .junk, .junk, .junk, .junk, .junk, .junk, .junk, .junk, .junk, .junk, .junk, .junk, .junk, .junk, .junk, .junk, .junk, .junk, .junk, .junk, .junk, .junk, .junk, .junk, .junk, .junk, .junk, .junk, .junk, .junk, .junk, .junk, .junk, .junk, .junk, .junk, .junk, .junk, .junk, .junk, .junk, .junk, .junk, .junk, .junk, .junk, .junk, .junk, .junk, .junk, .junk, .junk, .junk, .junk, .junk, .junk, .junk, .junk, .junk, .junk, .junk, .junk, .junk, .junk, .junk, .junk, .junk, .junk, .junk, .junk, .junk, .junk, .junk, .junk, .junk, .junk, .junk, .junk, .junk, .junk, .junk, .junk, .junk, .junk, .junk, .junk, .junk, .junk, .junk, .junk, .junk, .junk, .junk, .junk, .junk, .junk, .junk, .junk, .junk, .junk, .junk, .junk, .junk, .junk, .junk, .junk, .junk]) (Hf := fun _ => oneH g v1 f1 a1 v2 f2 a2)
  (I := fun j => j ≤ a1.length) (μ := fun j => a1.length - j) (res := fun j => under g (a1.drop j) (.mk v2 f2 a2)) (R := OneEnd1 g s r tab i k a1.length (oneH g v1 f1 a1 v2 f2 a2))
  (fun j nx hj => by
   have c1 := encO_at hO
   have q1 := c1.lt
   have q2 := c1.lti
   rw [encO_len] at q1 q2
   rcases Nat.lt_or_ge j a1.length with hl | hl
   ·obtain ⟨n, hn2⟩ : ∃ n, ns[j]? = some n := ⟨ns[j]'(by omega), by simp [hnl, hl]⟩
    obtain ⟨m, rfl, hmi, hm⟩ := hns j n hn2
    obtain ⟨v', fn', args', x⟩ := at_ok hlen hl
    rw [List.getElem?_eq_getElem hl, x.get] at hm
    have hml := (List.getElem?_eq_some_iff.1 hm)
    obtain ⟨v'', fn'', args'', y⟩ := at_ok hsz hml.1
    have hyx : Term.mk v'' fn'' args'' = Term.mk v' fn' args' := by rw [← y.get]; exact hml.2
    injection hyx with e1 e2 e3; subst e1; subst e2; subst e3
    have c2 := encI_at hn2
    have hlt : (j : Int) < (a1.length : Int) := by omega
    have hw : IntKind.i64.wrap ((j : Int) + 1) = (j : Int) + 1 := wrap_i64 (by omega) (by omega)
    have hcall := rsame_ok _ (okL_mem ha1 _ x.mem) _ ht
    simp [Term.enc] at hcall
    obtain ⟨cs, t1, t2, t3⟩ := hT.2 m k _ _ hm hk (.inl hmi)
    have d1 := cell_ok t1
    have d2 := cell_ok t3
    have d3 := d1.lt
    rw [hT.1] at d3
    have d4 : (m : Int) < (s.1.length : Int) := by omega
    have d5 : (k : Int) < (r.1.length : Int) := by omega
    have hres : under g (a1.drop j) (.mk v2 f2 a2) = ((Term.mk v'' fn'' args'').sameB (.mk v2 f2 a2) || lpoB g (.mk v'' fn'' args'') (.mk v2 f2 a2) || under g (a1.drop (j + 1)) (.mk v2 f2 a2)) := by
     rw [x.dr]
     have hsb := sameB_eq (.mk v'' fn'' args'') (.mk v2 f2 a2)
     unfold under lpoB
     rw [Bool.eq_iff_iff]
     simp only [decide_eq_true_eq, Bool.or_eq_true, hsb, List.mem_cons, exists_eq_or_imp]
    conv => arg 9; arg 4; unfold b97_2
    cases hb1 : (Term.mk v'' fn'' args'').sameB (.mk v2 f2 a2)
    ·rw [hb1] at hcall hres
     cases hb2 : lpoB g (.mk v'' fn'' args'') (.mk v2 f2 a2)
     ·simp [plc_raw, c1.get, c1.e, c1.tk, c1.le, encO_len, q1, q2, c2.get, c2.e, c2.tk, c2.le, encI_len', hl, hlt, hnl, y.lti, y.sz, y.ltm, y.cells, y.le3, hcall, d1.get, d1.e, d1.tk, d1.le, d2.get, d2.e, d2.tk, d2.le, hT.1, t2, hml.1, hkl, d4, d5, hw, hb2]
      refine .next (j + 1) (by omega) (by simp) rfl hl (by omega) ?_
      rw [hres, hb2]; rfl
     ·simp [plc_raw, c1.get, c1.e, c1.tk, c1.le, encO_len, q1, q2, c2.get, c2.e, c2.tk, c2.le, encI_len', hl, hlt, hnl, y.lti, y.sz, y.ltm, y.cells, y.le3, hcall, d1.get, d1.e, d1.tk, d1.le, d2.get, d2.e, d2.tk, d2.le, hT.1, t2, hml.1, hkl, d4, d5, hw, hb2]
      refine .fin _ _ ?_
      rw [hres, hb2]
      exact ⟨rfl, rfl⟩
    ·rw [hb1] at hcall hres
     simp [plc_raw, c1.get, c1.e, c1.tk, c1.le, encO_len, q1, q2, c2.get, c2.e, c2.tk, c2.le, encI_len', hl, hlt, hnl, y.lti, y.sz, y.ltm, y.cells, y.le3, hcall, d1.get, d1.e, d1.tk, d1.le, d2.get, d2.e, d2.tk, d2.le, hT.1, t2, hml.1, hkl, d4, d5, hw]
     refine .fin _ _ ?_
     rw [hres]
     exact ⟨rfl, rfl⟩
   ·obtain rfl : j = a1.length := Nat.le_antisymm hj hl
    have hres : under g (a1.drop a1.length) (.mk v2 f2 a2) = false := by simp [under]
    simp [b97_2, plc_raw, c1.get, c1.e, c1.tk, c1.le, encO_len, q1, q2, hnl]
    refine .fin _ _ ?_
    rw [hres]
    exact ⟨rfl, _, by omega, rfl⟩) 0 (Nat.zero_le _)
 exact key
def lpoOver (g : Sg) (x : Term) (a2 : List Term) : Bool := decide (∀ b ∈ a2, Lpo g x b)
abbrev oneT2 (s r : Laid) (tab : List D) (i k : Nat) (n : Nat) : List AV := [.junk, .d (partsD s), .d (partsD r), .d (tabD tab s.1.length), .d (.int .i64 i), .d (.int .i64 k), .ptr (0, 0) 0 2, .junk, .junk, .junk, .junk, .junk, .d (.bool false), .ptr (16, 0) 0 3, .ptr (17, 0) 0 3, .junk, .junk, .d (.int .i64 n), .junk, .junk, .junk, .junk, .junk, .junk, .junk, .junk, .junk, .junk, .junk, .junk, .junk, .junk, .junk, .junk, .junk, .junk, .junk, .junk, .junk, .junk, .junk, .junk, .junk, .junk, .junk, .junk, .junk, .junk, .junk, .junk, .junk, .junk, .junk, .junk, .junk, .junk, .junk, .junk, .junk, .junk, .junk, .junk, .junk, .junk, .junk, .junk, .junk, .junk, .junk, .junk, .junk, .junk, .junk, .junk, .junk, .junk, .junk, .junk, .junk, .junk, .junk, .junk, .junk, .junk, .junk, .junk, .junk, .junk, .junk, .junk, .junk, .junk, .junk, .junk, .junk, .junk, .junk, .junk, .junk, .junk, .junk, .junk, .junk, .junk, .junk, .junk, .junk, .junk, .junk, .junk, .junk, .junk, .junk, .junk, .junk, .junk, .junk, .junk, .junk, .junk, .junk, .junk, .junk, .junk, .junk, .junk, .junk, .junk, .junk, .junk, .junk, .junk, .junk, .junk, .junk, .junk, .junk, .junk, .junk, .junk, .junk, .junk, .junk, .junk, .junk, .junk, .junk, .junk, .junk, .junk, .junk, .junk, .junk, .junk, .junk, .junk, .junk, .junk, .junk, .junk, .junk, .junk, .junk, .junk, .junk, .junk, .junk, .junk, .junk, .junk]
def OneEnd2 (s r : Laid) (tab : List D) (i k n : Nat) (H : Hp) (b : Bool) (e : Ex) (t : St) : Prop :=
 if b then AtExitN 24 2 (oneT2 s r tab i k n) H e t else e = .ret ∧ t.tm[12]? = some (.d (.bool false))
theorem one_loop2 (N : Nat) (hN : 24 ≤ N) (g : Sg) (s r : Laid) (tab : List D) (i k : Nat) (v1 : Int) (f1 : ByteArray) (a1 : List Term) (v2 : Int) (f2 : ByteArray) (a2 : List Term) (hr : LOk r) (hi : s.1[i]? = some (.mk v1 f1 a1)) (hk : r.1[k]? = some (.mk v2 f2 a2)) (hlen : a2.length ≤ 9223372036854775807) (hT : Tab g s r tab i k) :
  ∃ e t, aloop Tryz.prog plc b97_1 ⟨[false, true, true, true, true, true, true, false, false, false, false, false, true, true, true, false, false, true, true, false, false, false, false, false, false, false, false, false, false, false, false, false, false, false, false, false, false, false, false, false, false, false, false, false, false, false, false, false, false, false, false, false, false, false, false, false, false, false, false, false, false, false, false, false, false, false, false, false, false, false, false, false, false, false, false, false, false, false, false, false, false, false, false, false, false, false, false, false, false, false, false, false, false, false, false, false, false, false, false, false, false, false, false, false, false, false, false, false, true, true, true, true, true, true, true, true, true, true, true, true, true, true, true, true, true, true, true, true, true, true, true, true, true, true, true, true, true, true, true, true, true, true, true, true, true, true, true, true, true, true, true, true, true, true, true, true, true, true, true, true, true, true, true, true, true, true, true, true, true, true], some N⟩ ⟨oneT2 s r tab i k 0, oneH g v1 f1 a1 v2 f2 a2, N⟩ = some (e, t) ∧ OneEnd2 s r tab i k a2.length (oneH g v1 f1 a1 v2 f2 a2) (lpoOver g (.mk v1 f1 a1) a2) e t := by
 obtain ⟨ns, hO, hnl, hns⟩ := hr.own k v2 f2 a2 hk
 have hil := (List.getElem?_eq_some_iff.1 hi).1
 have key := loop_rule (P := Tryz.prog) (pol := plc) (c := b97_1) (m := ⟨[false, true, true, true, true, true, true, false, false, false, false, false, true, true, true, false, false, true, true, false, false, false, false, false, false, false, false, false, false, false, false, false, false, false, false, false, false, false, false, false, false, false, false, false, false, false, false, false, false, false, false, false, false, false, false, false, false, false, false, false, false, false, false, false, false, false, false, false, false, false, false, false, false, false, false, false, false, false, false, false, false, false, false, false, false, false, false, false, false, false, false, false, false, false, false, false, false, false, false, false, false, false, false, false, false, false, false, false, true, true, true, true, true, true, true, true, true, true, true, true, true, true, true, true, true, true, true, true, true, true, true, true, true, true, true, true, true, true, true, true, true, true, true, true, true, true, true, true, true, true, true, true, true, true, true, true, true, true, true, true, true, true, true, true, true, true, true, true, true, true], some N⟩)
  (b := N) (tm := fun (j : Nat) => oneT2 s r tab i k j) (Hf := fun _ => oneH g v1 f1 a1 v2 f2 a2)
  (I := fun j => j ≤ a2.length) (μ := fun j => a2.length - j) (res := fun j => lpoOver g (.mk v1 f1 a1) (a2.drop j)) (R := OneEnd2 s r tab i k a2.length (oneH g v1 f1 a1 v2 f2 a2))
  (fun j nx hj => by
   have n0 : 0 < N := by omega
   have n1 : 16 < N := by omega
   have n2 : 17 < N := by omega
   have c1 := encO_at hO
   have q1 := c1.lt
   have q2 := c1.lti
   rw [encO_len] at q1 q2
   rcases Nat.lt_or_ge j a2.length with hl | hl
   ·obtain ⟨n, hn2⟩ : ∃ n, ns[j]? = some n := ⟨ns[j]'(by omega), by simp [hnl, hl]⟩
    obtain ⟨m, rfl, hmi, hm⟩ := hns j n hn2
    obtain ⟨v', fn', args', x⟩ := at_ok hlen hl
    rw [List.getElem?_eq_getElem hl, x.get] at hm
    have hml := (List.getElem?_eq_some_iff.1 hm)
    have c2 := encI_at hn2
    have hlt : (j : Int) < (a2.length : Int) := by omega
    have hw : IntKind.i64.wrap ((j : Int) + 1) = (j : Int) + 1 := wrap_i64 (by omega) (by omega)
    obtain ⟨cs, t1, t2, t3⟩ := hT.2 i m _ _ hi hm (.inr ⟨rfl, hmi⟩)
    have d1 := cell_ok t1
    have d2 := cell_ok t3
    have d4 : (i : Int) < (s.1.length : Int) := by omega
    have d5 : (m : Int) < (r.1.length : Int) := by have := hml.1; omega
    have hres : lpoOver g (.mk v1 f1 a1) (a2.drop j) = (lpoB g (.mk v1 f1 a1) (.mk v' fn' args') && lpoOver g (.mk v1 f1 a1) (a2.drop (j + 1))) := by
     rw [x.dr]
     unfold lpoOver lpoB
     rw [Bool.eq_iff_iff]
     simp only [decide_eq_true_eq, Bool.and_eq_true, List.mem_cons, forall_eq_or_imp]
    conv => arg 9; arg 4; unfold b97_1
    cases hb2 : lpoB g (.mk v1 f1 a1) (.mk v' fn' args')
    ·simp [plc_raw, n0, n1, n2, c1.get, c1.e, c1.tk, c1.le, encO_len, q1, q2, c2.get, c2.e, c2.tk, c2.le, encI_len', hl, hlt, hnl, d1.get, d1.e, d1.tk, d1.le, d2.get, d2.e, d2.tk, d2.le, hT.1, t2, hml.1, hil, d4, d5, hw, hb2]
     refine .fin _ _ ?_
     rw [hres, hb2]
     exact ⟨rfl, rfl⟩
    ·simp [plc_raw, n0, n1, n2, c1.get, c1.e, c1.tk, c1.le, encO_len, q1, q2, c2.get, c2.e, c2.tk, c2.le, encI_len', hl, hlt, hnl, d1.get, d1.e, d1.tk, d1.le, d2.get, d2.e, d2.tk, d2.le, hT.1, t2, hml.1, hil, d4, d5, hw, hb2]
     refine .next (j + 1) (by omega) (by simp) rfl hl (by omega) ?_
     rw [hres, hb2]; rfl
   ·obtain rfl : j = a2.length := Nat.le_antisymm hj hl
    have hres : lpoOver g (.mk v1 f1 a1) (a2.drop a2.length) = true := by simp [lpoOver]
    simp [b97_1, plc_raw, n0, n1, n2, c1.get, c1.e, c1.tk, c1.le, encO_len, q1, q2, hnl]
    refine .fin _ _ ?_
    rw [hres]
    exact ⟨rfl, _, by omega, rfl⟩) 0 (Nat.zero_le _)
 exact key
def firstGt (g : Sg) : List Term → List Term → Option Bool
 | t :: r, u :: q => if t.sameB u then firstGt g r q else some (lpoB g t u)
 | _, _ => none
abbrev oneT3 (s r : Laid) (tab : List D) (i k : Nat) (n : Nat) : List AV := [.junk, .d (partsD s), .d (partsD r), .d (tabD tab s.1.length), .d (.int .i64 i), .d (.int .i64 k), .junk, .junk, .junk, .junk, .junk, .junk, .d (.bool false), .ptr (16, 0) 0 3, .ptr (17, 0) 0 3, .junk, .junk, .junk, .d (.int .i64 n), .junk, .junk, .junk, .junk, .junk, .junk, .junk, .junk, .junk, .junk, .junk, .junk, .junk, .junk, .junk, .junk, .junk, .junk, .junk, .junk, .junk, .junk, .junk, .junk, .junk, .junk, .junk, .junk, .junk, .junk, .junk, .junk, .junk, .junk, .junk, .junk, .junk, .junk, .junk, .junk, .junk, .junk, .junk, .junk, .junk, .junk, .junk, .junk, .junk, .junk, .junk, .junk, .junk, .junk, .junk, .junk, .junk, .junk, .junk, .junk, .junk, .junk, .junk, .junk, .junk, .junk, .junk, .junk, .junk, .junk, .junk, .junk, .junk, .junk, .junk, .junk, .junk, .junk, .junk, .junk, .junk, .junk, .junk, .junk, .junk, .junk, .junk, .junk, .junk, .junk, .junk, .junk, .junk, .junk, .junk, .junk, .junk, .junk, .junk, .junk, .junk, .junk, .junk, .junk, .junk, .junk, .junk, .junk, .junk, .junk, .junk, .junk, .junk, .junk, .junk, .junk, .junk, .junk, .junk, .junk, .junk, .junk, .junk, .junk, .junk, .junk, .junk, .junk, .junk, .junk, .junk, .junk, .junk, .junk, .junk, .junk, .junk, .junk, .junk, .junk, .junk, .junk, .junk, .junk, .junk, .junk, .junk, .junk, .junk, .junk, .junk]
def OneEnd3 (s r : Laid) (tab : List D) (i k n : Nat) (H : Hp) (b : Option Bool) (e : Ex) (t : St) : Prop :=
 match b with
 | none => AtExitN 24 4 (oneT3 s r tab i k n) H e t
 | some b => e = .ret ∧ t.tm[12]? = some (.d (.bool b))
theorem one_loop3 (N : Nat) (hN : 24 ≤ N) (g : Sg) (s r : Laid) (tab : List D) (i k : Nat) (v1 : Int) (f1 : ByteArray) (a1 : List Term) (v2 : Int) (f2 : ByteArray) (a2 : List Term) (hs : LOk s) (hr : LOk r) (hi : s.1[i]? = some (.mk v1 f1 a1)) (hk : r.1[k]? = some (.mk v2 f2 a2)) (hlen : a1.length ≤ 9223372036854775807) (h12 : a2.length = a1.length) (ha1 : okL a1) (ha2 : okL a2) (hT : Tab g s r tab i k) :
  ∃ e t, aloop Tryz.prog plc b97_0 ⟨[false, true, true, true, true, true, false, false, false, false, false, false, true, true, true, false, false, false, true, false, false, false, false, false, false, false, false, false, false, false, false, false, false, false, false, false, false, false, false, false, false, false, false, false, false, false, false, false, false, false, false, false, false, false, false, false, false, false, false, false, false, false, false, false, false, false, false, false, false, false, false, false, false, false, false, false, false, false, false, false, false, false, false, false, false, false, false, false, false, false, false, false, false, false, false, false, false, false, false, false, false, false, false, false, false, false, false, false, false, false, false, false, false, false, false, false, false, false, false, false, false, false, false, false, false, false, false, false, false, false, false, false, false, false, false, false, false, false, false, false, false, false, false, false, false, false, false, false, false, false, false, false, false, false, false, false, false, false, false, false, false, false, false, false, false, false, false, false, false, false], some N⟩ ⟨oneT3 s r tab i k 0, oneH g v1 f1 a1 v2 f2 a2, N⟩ = some (e, t) ∧ OneEnd3 s r tab i k a1.length (oneH g v1 f1 a1 v2 f2 a2) (firstGt g a1 a2) e t := by
 obtain ⟨ns, hO, hnl, hns⟩ := hs.own i v1 f1 a1 hi
 obtain ⟨ms, hO', hnl', hns'⟩ := hr.own k v2 f2 a2 hk
 have key := loop_rule (P := Tryz.prog) (pol := plc) (c := b97_0) (m := ⟨[false, true, true, true, true, true, false, false, false, false, false, false, true, true, true, false, false, false, true, false, false, false, false, false, false, false, false, false, false, false, false, false, false, false, false, false, false, false, false, false, false, false, false, false, false, false, false, false, false, false, false, false, false, false, false, false, false, false, false, false, false, false, false, false, false, false, false, false, false, false, false, false, false, false, false, false, false, false, false, false, false, false, false, false, false, false, false, false, false, false, false, false, false, false, false, false, false, false, false, false, false, false, false, false, false, false, false, false, false, false, false, false, false, false, false, false, false, false, false, false, false, false, false, false, false, false, false, false, false, false, false, false, false, false, false, false, false, false, false, false, false, false, false, false, false, false, false, false, false, false, false, false, false, false, false, false, false, false, false, false, false, false, false, false, false, false, false, false, false, false], some N⟩)
  (b := N) (tm := fun (j : Nat) => oneT3 s r tab i k j) (Hf := fun _ => oneH g v1 f1 a1 v2 f2 a2)
  (I := fun j => j ≤ a1.length) (μ := fun j => a1.length - j) (res := fun j => firstGt g (a1.drop j) (a2.drop j)) (R := OneEnd3 s r tab i k a1.length (oneH g v1 f1 a1 v2 f2 a2))
  (fun j nx hj => by
   have n0 : 0 < N := by omega
   have n1 : 16 < N := by omega
   have n2 : 17 < N := by omega
   rcases Nat.lt_or_ge j a1.length with hl | hl
   ·have c1 := encO_at hO
    have q1 := c1.lt
    have q2 := c1.lti
    rw [encO_len] at q1 q2
    have c1' := encO_at hO'
    have q1' := c1'.lt
    have q2' := c1'.lti
    rw [encO_len] at q1' q2'
    have hl' : j < a2.length := by omega
    obtain ⟨n, hn2⟩ : ∃ n, ns[j]? = some n := ⟨ns[j]'(by omega), by simp [hnl, hl]⟩
    obtain ⟨m, rfl, hmi, hm⟩ := hns j n hn2
    obtain ⟨v', fn', args', x⟩ := at_ok hlen hl
    rw [List.getElem?_eq_getElem hl, x.get] at hm
    obtain ⟨n', hn2'⟩ : ∃ n, ms[j]? = some n := ⟨ms[j]'(by omega), by simp [hnl', hl']⟩
    obtain ⟨m', rfl, hmi', hm'⟩ := hns' j n' hn2'
    obtain ⟨w', gn', brgs', y⟩ := at_ok (ts := a2) (by omega) hl'
    rw [List.getElem?_eq_getElem hl', y.get] at hm'
    have hml := (List.getElem?_eq_some_iff.1 hm)
    have hml' := (List.getElem?_eq_some_iff.1 hm')
    have c2 := encI_at hn2
    have c2' := encI_at hn2'
    have hlt : (j : Int) < (a1.length : Int) := by omega
    have hw : IntKind.i64.wrap ((j : Int) + 1) = (j : Int) + 1 := wrap_i64 (by omega) (by omega)
    have hcall := rsame_ok _ (okL_mem ha1 _ x.mem) _ (okL_mem ha2 _ y.mem)
    simp [Term.enc] at hcall
    obtain ⟨cs, t1, t2, t3⟩ := hT.2 m m' _ _ hm hm' (.inl hmi)
    have d1 := cell_ok t1
    have d2 := cell_ok t3
    have d4 : (m : Int) < (s.1.length : Int) := by have := hml.1; omega
    have d5 : (m' : Int) < (r.1.length : Int) := by have := hml'.1; omega
    have bsz := y.sz
    have bltm := y.ltm
    have ble3 := y.le3
    rw [h12] at bsz bltm ble3
    have hres : firstGt g (a1.drop j) (a2.drop j) = if (Term.mk v' fn' args').sameB (.mk w' gn' brgs') then firstGt g (a1.drop (j + 1)) (a2.drop (j + 1)) else some (lpoB g (.mk v' fn' args') (.mk w' gn' brgs')) := by
     rw [x.dr, y.dr]; rfl
    conv => arg 9; arg 4; unfold b97_0
    cases hb1 : (Term.mk v' fn' args').sameB (.mk w' gn' brgs')
    ·rw [hb1] at hcall hres
     simp [plc_raw, n0, n1, n2, c1.get, c1.e, c1.tk, c1.le, c1'.get, c1'.e, c1'.tk, c1'.le, encO_len, q1, q2, q1', q2', c2.get, c2.e, c2.tk, c2.le, c2'.get, c2'.e, c2'.tk, c2'.le, encI_len', hl, hlt, hnl, hnl', h12, x.lti, x.sz, x.ltm, x.cells, x.le3, bsz, bltm, y.cells, ble3, hcall, d1.get, d1.e, d1.tk, d1.le, d2.get, d2.e, d2.tk, d2.le, hT.1, t2, hml.1, hml'.1, d4, d5, hw]
     refine .fin _ _ ?_
     rw [hres]
     exact ⟨rfl, rfl⟩
    ·rw [hb1] at hcall hres
     simp [plc_raw, n0, n1, n2, c1.get, c1.e, c1.tk, c1.le, encO_len, q1, q2, encI_len', hl, hlt, h12, x.lti, x.sz, x.ltm, x.cells, x.le3, bsz, bltm, y.cells, ble3, hcall, hw]
     refine .next (j + 1) (by omega) (by simp) (by simp [oneH, h12]) hl (by omega) ?_
     rw [hres]; rfl
   ·obtain rfl : j = a1.length := Nat.le_antisymm hj hl
    have hres : firstGt g (a1.drop a1.length) (a2.drop a1.length) = none := by simp [firstGt]
    simp [b97_0, plc_raw, n0, n1, n2]
    refine .fin _ _ ?_
    rw [hres]
    exact ⟨rfl, _, by omega, rfl⟩) 0 (Nat.zero_le _)
 exact key
end
end Go.Proofs.YtajilkmepjhkdaaGreat.Am


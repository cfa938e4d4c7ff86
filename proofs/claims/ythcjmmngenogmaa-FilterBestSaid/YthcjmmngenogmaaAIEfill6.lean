import Derived.Test.YthcjmmngenogmaaAIEfilC
import Derived.Test.YthcjmmngenogmaaAIEfill1
namespace Go.Proofs.YthcjmmngenogmaaW.AI.E
open Go Go.Proofs.YthcjmmngenogmaaW.AI
set_option maxRecDepth 100000
set_option linter.unusedSimpArgs false
set_option linter.unusedVariables false
set_option linter.unusedSectionVars false
abbrev frB : Int := 1099511627776
/-- A span about a time that goes on with the clock. -/
def Ob (now : Int) (s : Sp) : Prop := (0 ≤ s.1 ∧ s.1 ≤ now) ∧ (frB + s.1 - 1048576 < s.2.1 ∧ s.2.1 ≤ frB + s.1) ∧ (frB + s.1 ≤ s.2.2 ∧ s.2.2 < frB + s.1 + 1048576)
section
variable {now raw t f : Int}
theorem ob_may {s : Sp} (h : Ob now s) (hr : now ≤ 200000000000) : mayS s.1 s.2.1 s.2.2 = true := by
  unfold Ob frB at h
  exact mayS_iff.2 ⟨⟨by omega, by omega⟩, by omega, by omega, by omega⟩
theorem ob_can {s : Sp} (h : Ob now s) (hn : now ≤ raw) (hr : raw ≤ 200000000000) : canA raw s :=
  ⟨ob_may h (by omega), by unfold Ob at h; omega, by omega⟩
theorem ob_age {s : Sp} (t1 : 1 ≤ t) (t2 : t ≤ 1000000000) (f1 : 0 ≤ f) (f2 : f ≤ 500000) (h : Ob now s) (hn : now ≤ raw) (hr : raw ≤ 200000000000) : (age1 t f raw s).1 = raw ∧ hasS (age1 t f raw s).1 (age1 t f raw s).2.1 (age1 t f raw s).2.2 (frB + raw) = true := by
  have hc := ob_can h hn hr
  have hk := age_ok t1 t2 f1 f2 hc
  refine ⟨rfl, ?_⟩
  have ha := age_rg (K := 2000000000000) t1 t2 f1 f2 (by decide) (s := s) (raw := raw) (by unfold Rg; unfold Ob frB at h; omega) hc.2.1 (by omega)
  unfold Ob frB at h
  unfold hasS
  rw [hk.1]
  have e1 : (age1 t f raw s).2.1 = bro (s.2.1 + downV t f (raw - s.1)) := rfl
  have e2 : (age1 t f raw s).2.2 = bro (s.2.2 + upV t f (raw - s.1)) := rfl
  rw [e1, e2, bro_id (by omega) (by omega), bro_id (by omega) (by omega)]
  simp only [Bool.true_and, Bool.and_eq_true, decide_eq_true_eq]
  unfold frB
  omega
/-- The filter and what it has taken. -/
structure BT (t f now : Int) (F : FS) (T : List Sp) : Prop where
  L : F.L = T.reverse.take 8
  ob : ∀ s ∈ T, Ob now s
  u : -1 ≤ F.used
  ht : F.t = t
  hf : F.f = f
  t1 : 1 ≤ t
  t2 : t ≤ 1000000000
  f1 : 0 ≤ f
  f2 : f ≤ 500000
variable {F : FS} {T : List Sp}
theorem BT.mem (b : BT t f now F T) {s : Sp} (h : s ∈ F.L) : s ∈ T := by
  rw [b.L] at h
  exact List.mem_reverse.1 (List.mem_of_mem_take h)
theorem BT.later (b : BT t f now F T) {n' : Int} (h : now ≤ n') : BT t f n' F T :=
  ⟨b.L, fun s hs => by have := b.ob s hs; unfold Ob at this ⊢; omega, b.u, b.ht, b.hf, b.t1, b.t2, b.f1, b.f2⟩
theorem BT.ne (b : BT t f now F T) (hT : T ≠ []) : F.L ≠ [] := by
  rw [b.L]
  intro e
  have := congrArg List.length e
  rw [List.length_take, List.length_reverse] at this
  have h0 : 0 < T.length := List.length_pos_iff.2 hT
  simp only [List.length_nil] at this
  omega
theorem BT.can (b : BT t f now F T) (hT : T ≠ []) (hn : now ≤ raw) (hr : raw ≤ 200000000000) : canL F raw :=
  ⟨b.ne hT, fun s hs => ob_can (b.ob s (b.mem hs)) hn hr⟩
theorem BT.get (b : BT t f now F T) {k : Nat} (hk : k < T.length) (h8 : T.length ≤ k + 8) : F.L[T.length - 1 - k]? = T[k]? := by
  rw [b.L, List.getElem?_take_of_lt (by omega), List.getElem?_reverse (by omega)]
  congr 1
  omega
theorem BT.len (b : BT t f now F T) : F.L.length = min 8 T.length := by
  rw [b.L, List.length_take, List.length_reverse]
theorem BT.put (b : BT t f now F T) {s : Sp} (hs : Ob now s) (hn : s.1 = now) (hr : now ≤ 200000000000) :
    (putF F s = (35, heldF F) ∧ T ≠ [] ∧ BT t f now (heldF F) T) ∨ (putF F s = (0, addF F s) ∧ BT t f now (addF F s) (T ++ [s])) := by
  have hb : ¬ badP F s := by
    rintro (e | ⟨u, e1, e2⟩)
    · rw [ob_may hs hr] at e; cases e
    · have := b.ob u (b.mem (List.mem_of_getElem? e1))
      unfold Ob at this
      omega
  unfold putF
  rw [if_neg hb]
  by_cases c : jmpF F s ∧ F.held = false
  · rw [if_pos c]
    left
    refine ⟨rfl, ?_, ⟨b.L, b.ob, b.u, b.ht, b.hf, b.t1, b.t2, b.f1, b.f2⟩⟩
    rintro rfl
    exact c.1.1.1 (by rw [b.L]; rfl)
  · rw [if_neg c]
    right
    refine ⟨rfl, ⟨?_, fun u hu => ?_, b.u, b.ht, b.hf, b.t1, b.t2, b.f1, b.f2⟩⟩
    · unfold addF
      simp only [List.reverse_append, List.reverse_cons, List.reverse_nil, List.nil_append, List.singleton_append, List.take_succ_cons]
      rw [b.L, List.take_take]
      rfl
    · rcases List.mem_append.1 hu with h | h
      · exact b.ob u h
      · simp at h; subst h; exact hs
theorem BT.best (b : BT t f now F T) (hT : T ≠ []) (hn : now ≤ raw) (hr : raw ≤ 200000000000) : (bestS (ageL F raw)).1 = raw ∧ hasS (bestS (ageL F raw)).1 (bestS (ageL F raw)).2.1 (bestS (ageL F raw)).2.2 (frB + raw) = true := by
  have hc := b.can hT hn hr
  have hs := src_at hc
  rw [best_src hc, b.ht, b.hf]
  exact ob_age b.t1 b.t2 b.f1 b.f2 (b.ob _ (b.mem (List.mem_of_getElem? hs))) hn hr
theorem wAt_age {i : Nat} {s : Sp} (h : F.L[i]? = some s) (raw : Int) : wAt (ageL F raw) i = wS (age1 F.t F.f raw s) := by
  unfold wAt
  rw [List.getElem?_map, h]
  rfl
theorem BT.narrow (b : BT t f now F T) (hn : now ≤ raw) (hr : raw ≤ 200000000000) {k : Nat} {s : Sp} (hs : T[k]? = some s) (h8 : T.length ≤ k + 8) : ¬ wS (age1 t f raw s) < wS (bestS (ageL F raw)) := by
  have hk := (List.getElem?_eq_some_iff.1 hs).1
  have hT : T ≠ [] := by rintro rfl; simp at hk
  have hc := b.can hT hn hr
  have hg := b.get hk h8
  rw [hs] at hg
  have h0 : 0 < (ageL F raw).length := List.length_pos_iff.2 (ageL_ne hc)
  have hl := b.len
  have := (bestN_min (A := ageL F raw) h0).1 (T.length - 1 - k) (by rw [ageL_len]; have := (List.getElem?_eq_some_iff.1 hg).1; omega)
  rw [ageL_len, wAt_age hg, wAt_age (src_at hc), b.ht, b.hf] at this
  rw [best_src hc, b.ht, b.hf]
  omega
/-- The At of the last one that is aged to the same, and is newer. -/
def atT (t f raw used : Int) (u : Sp) (T : List Sp) : Nat → Int
  | 0 => -1
  | k + 1 => match T[k]? with
    | some s => if age1 t f raw s = u ∧ used < s.1 then s.1 else atT t f raw used u T k
    | none => atT t f raw used u T k
theorem BT.at (b : BT t f now F T) (hT : T ≠ []) (hn : now ≤ raw) (hr : raw ≤ 200000000000) (hu : ¬ (srcS F raw).1 ≤ F.used) : atT t f raw F.used (bestS (ageL F raw)) T T.length = (srcS F raw).1 := by
  have hc := b.can hT hn hr
  have hs := src_at hc
  have hbs := best_src hc
  rw [b.ht, b.hf] at hbs
  have hl := b.len
  have h0 : 0 < (ageL F raw).length := List.length_pos_iff.2 (ageL_ne hc)
  have hmin := (bestN_min (A := ageL F raw) h0).2
  rw [ageL_len] at hmin
  obtain ⟨i0, hi0⟩ : ∃ i, bestN (ageL F raw) F.L.length = i := ⟨_, rfl⟩
  rw [hi0] at hs hmin
  have hi := (List.getElem?_eq_some_iff.1 hs).1
  obtain ⟨k0, hk0⟩ : ∃ k, T.length - 1 - i0 = k := ⟨_, rfl⟩
  have hTk : T[k0]? = some (srcS F raw) := by
    have := b.get (k := k0) (by omega) (by omega)
    rw [show T.length - 1 - k0 = i0 by omega, hs] at this
    exact this.symm
  have key : ∀ d, k0 + 1 + d ≤ T.length → atT t f raw F.used (bestS (ageL F raw)) T (k0 + 1 + d) = (srcS F raw).1 := by
    intro d
    induction d with
    | zero =>
      intro _
      simp only [Nat.add_zero, atT, hTk]
      rw [if_pos ⟨hbs.symm, by omega⟩]
    | succ d ih =>
      intro hd
      have ih := ih (by omega)
      obtain ⟨s, hs'⟩ : ∃ s, T[k0 + 1 + d]? = some s := ⟨_, List.getElem?_eq_getElem (by omega)⟩
      rw [show k0 + 1 + (d + 1) = (k0 + 1 + d) + 1 by omega]
      simp only [atT, hs']
      rw [if_neg, ih]
      rintro ⟨e, _⟩
      have hg := b.get (k := k0 + 1 + d) (by omega) (by omega)
      rw [hs'] at hg
      have := hmin (T.length - 1 - (k0 + 1 + d)) (by omega)
      rw [wAt_age hg, wAt_age hs, b.ht, b.hf, e, hbs] at this
      omega
  have := key (T.length - 1 - k0) (by omega)
  rw [show k0 + 1 + (T.length - 1 - k0) = T.length by omega] at this
  exact this
theorem BT.use (b : BT t f now F T) (hT : T ≠ []) (hn : now ≤ raw) (hr : raw ≤ 200000000000) :
    ((srcS F raw).1 ≤ F.used → useO F raw = ((0, 0, 0), false, F)) ∧
    (¬ (srcS F raw).1 ≤ F.used → useO F raw = (bestS (ageL F raw), true, useF F (srcS F raw).1) ∧ BT t f now (useF F (srcS F raw).1) T ∧ useO (useF F (srcS F raw).1) raw = ((0, 0, 0), false, useF F (srcS F raw).1) ∧ 0 ≤ (srcS F raw).1) := by
  have hc := b.can hT hn hr
  unfold useO
  refine ⟨fun h => if_neg fun e => e.2 h, fun h => ?_⟩
  have hsu : srcS (useF F (srcS F raw).1) raw = srcS F raw := rfl
  have hob := b.ob _ (b.mem (List.mem_of_getElem? (src_at hc)))
  have h0 : 0 ≤ (srcS F raw).1 := by unfold Ob at hob; omega
  refine ⟨if_pos ⟨hc, h⟩, ⟨b.L, b.ob, by show -1 ≤ (srcS F raw).1; omega, b.ht, b.hf, b.t1, b.t2, b.f1, b.f2⟩, if_neg fun e => e.2 ?_, h0⟩
  rw [hsu]
  exact Int.le_refl _
end
end Go.Proofs.YthcjmmngenogmaaW.AI.E

import Derived.Test.YtcpiohklljppaaaAIDcmbd
namespace Go.Proofs.YtcpiohklljppaaaW.AI.D
open Go Go.Proofs.YtcpiohklljppaaaW.AI
set_option maxRecDepth 100000
set_option linter.unusedSimpArgs false
set_option linter.unusedVariables false
set_option linter.unusedSectionVars false
-- ------------------------------------------------------------------ spans turned round and moved
def Fit (s : Sp) : Prop := s.1 = 0 ∧ 0 ≤ s.2.1 ∧ s.2.1 ≤ s.2.2 ∧ s.2.2 ≤ 1152921504606846975
def nx (L : List Sp) (k i : Nat) : Sp := (L[(k + i) % L.length]?).getD (0, 0, 0)
def mv (d : Int) (i : Nat) (s : Sp) : Sp := ((i : Int), s.2.1 + d, s.2.2 + d)
def mvL (L : List Sp) (k : Nat) (d : Int) : List Sp := (List.range L.length).map fun i => mv d i (nx L k i)
theorem nx_get {L : List Sp} (h0 : L ≠ []) (k i : Nat) : L[(k + i) % L.length]? = some (nx L k i) := by
  have h := List.length_pos_iff.2 h0
  have := Nat.mod_lt (k + i) h
  unfold nx
  rw [List.getElem?_eq_getElem this]
  rfl
theorem nx_mem {L : List Sp} (h0 : L ≠ []) (k i : Nat) : nx L k i ∈ L := List.mem_of_getElem? (nx_get h0 k i)
theorem mvL_len (L : List Sp) (k : Nat) (d : Int) : (mvL L k d).length = L.length := by simp [mvL]
theorem mvL_get {L : List Sp} {k i : Nat} {d : Int} (h : i < L.length) : (mvL L k d)[i]? = some (mv d i (nx L k i)) := by simp [mvL, h]
theorem mvL_mem {L : List Sp} {k : Nat} {d : Int} {s : Sp} (h0 : L ≠ []) (h : s ∈ mvL L k d) : ∃ i, i < L.length ∧ s = mv d i (nx L k i) ∧ nx L k i ∈ L := by
  unfold mvL at h
  obtain ⟨i, hi, rfl⟩ := List.mem_map.1 h
  exact ⟨i, List.mem_range.1 hi, rfl, nx_mem h0 k i⟩
theorem rot_eq {L : List Sp} {k : Nat} (hk : k < L.length) : (List.range L.length).map (nx L k) = L.drop k ++ L.take k := by
  apply List.ext_getElem?
  intro i
  have h0 : L ≠ [] := by intro e; rw [e] at hk; simp at hk
  by_cases hi : i < L.length
  · rw [List.getElem?_map, List.getElem?_range hi, Option.map_some, ← nx_get h0 k i]
    by_cases c : k + i < L.length
    · rw [Nat.mod_eq_of_lt c, List.getElem?_append_left (by simp; omega), List.getElem?_drop]
    · rw [List.getElem?_append_right (by simp; omega), List.getElem?_take]
      have e : (k + i) % L.length = k + i - L.length := by
        rw [Nat.mod_eq_sub_mod (by omega), Nat.mod_eq_of_lt (by omega)]
      simp only [List.length_drop]
      rw [if_pos (by omega), e]
      congr 1
      omega
  · rw [List.getElem?_eq_none (by simp; omega), List.getElem?_eq_none (by simp; omega)]
theorem rot_sum {L : List Sp} {k : Nat} (hk : k < L.length) (f : Sp → Int) : ((List.range L.length).map fun i => f (nx L k i)).sum = (L.map f).sum := by
  have e : (List.range L.length).map (fun i => f (nx L k i)) = ((List.range L.length).map (nx L k)).map f := by rw [List.map_map]; rfl
  rw [e, rot_eq hk, List.map_append, List.sum_append]
  have h : (L.map f).sum = ((L.take k).map f).sum + ((L.drop k).map f).sum := by rw [← List.sum_append, ← List.map_append, List.take_append_drop]
  omega
theorem mv_sum {L : List Sp} {k : Nat} {d : Int} (hk : k < L.length) (f g : Sp → Int) (h : ∀ i s, s ∈ L → g (mv d i s) = f s) : ((mvL L k d).map g).sum = (L.map f).sum := by
  have h0 : L ≠ [] := by intro e; rw [e] at hk; simp at hk
  rw [← rot_sum hk f]
  unfold mvL
  rw [List.map_map]
  congr 1
  apply List.map_congr_left
  intro i hi
  exact h i _ (nx_mem h0 k i)
section
variable {d : Int} {i : Nat} {s : Sp}
theorem mv_may (h : Fit s) (hd : 0 ≤ d ∧ d ≤ 1152921504606846975) (hi : i ≤ 16) : mayB (mv d i s) = true := by
  obtain ⟨_, h1, h2, h3⟩ := h
  exact mayS_iff.2 ⟨⟨by show (0 : Int) ≤ (i : Int); omega, by show (i : Int) ≤ 4611686018427387904; omega⟩, by show 0 ≤ s.2.1 + d; omega, by show s.2.1 + d ≤ s.2.2 + d; omega, by show s.2.2 + d ≤ 4611686018427387904; omega⟩
theorem mv_wS (h : Fit s) (hd : 0 ≤ d ∧ d ≤ 1152921504606846975) (hi : i ≤ 16) : wS (mv d i s) = wS s := by
  rw [wS_of (mv_may h hd hi), wS_of (fit_may h)]
  show s.2.2 + d - (s.2.1 + d) = _
  omega
theorem mv_mS (h : Fit s) (hd : 0 ≤ d ∧ d ≤ 1152921504606846975) (hi : i ≤ 16) : mS (mv d i s) = mS s + d := by
  rw [mS_of (mv_may h hd hi), mS_of (fit_may h)]
  show s.2.1 + d + (s.2.2 + d - (s.2.1 + d)) / 2 = _
  have : s.2.2 + d - (s.2.1 + d) = s.2.2 - s.2.1 := by omega
  rw [this]
  omega
theorem mv_wt (W : Int) (h : Fit s) (hd : 0 ≤ d ∧ d ≤ 1152921504606846975) (hi : i ≤ 16) : wt1 W (mv d i s) = wt1 W s := by unfold wt1; rw [mv_wS h hd hi]
theorem mv_cm (lo hi' : Int) (h : Fit s) (hd : 0 ≤ d ∧ d ≤ 1152921504606846975) (hi : i ≤ 16) : cmS (lo + d) (hi' + d) (mv d i s) = cmS lo hi' s + d := by
  unfold cmS clamp
  rw [mv_mS h hd hi]
  by_cases c1 : mS s < lo
  · rw [if_pos c1, if_pos (by omega)]
  · rw [if_neg c1, if_neg (by omega)]
    by_cases c2 : hi' < mS s
    · rw [if_pos c2, if_pos (by omega)]
    · rw [if_neg c2, if_neg (by omega)]
end
theorem wid_iff (L : List Sp) (z : Int) : wid L ≤ z ↔ 0 ≤ z ∧ ∀ s ∈ L, wS s + 1 ≤ z := by
  unfold wid
  suffices ∀ (L : List Sp) (m : Int), L.foldl (fun m s => if m < wS s + 1 then wS s + 1 else m) m ≤ z ↔ m ≤ z ∧ ∀ s ∈ L, wS s + 1 ≤ z from this L 0
  intro L
  induction L with
  | nil => intro m; simp
  | cons x L ih =>
    intro m
    simp only [List.foldl_cons]
    rw [ih]
    simp only [List.mem_cons, forall_eq_or_imp]
    constructor
    · rintro ⟨h1, h2⟩
      split at h1 <;> exact ⟨by omega, by omega, h2⟩
    · rintro ⟨h1, h2, h3⟩
      refine ⟨?_, h3⟩
      split <;> omega
section
variable {L : List Sp} {k : Nat} {d : Int}
theorem mv_wid (hk : k < L.length) (hF : ∀ s ∈ L, Fit s) (hd : 0 ≤ d ∧ d ≤ 1152921504606846975) (h16 : L.length ≤ 16) : wid (mvL L k d) = wid L := by
  have h0 : L ≠ [] := by intro e; rw [e] at hk; simp at hk
  have key : ∀ z, wid (mvL L k d) ≤ z ↔ wid L ≤ z := by
    intro z
    rw [wid_iff, wid_iff]
    refine and_congr_right fun _ => ⟨fun h s hs => ?_, fun h s hs => ?_⟩
    · obtain ⟨j, hj, rfl⟩ := List.getElem_of_mem hs
      have hjn : nx L k ((j + L.length - k) % L.length) = L[j] := by
        unfold nx
        have e : (k + (j + L.length - k) % L.length) % L.length = j := by
          rw [Nat.add_mod_mod, show k + (j + L.length - k) = j + L.length by omega, Nat.add_mod_right, Nat.mod_eq_of_lt hj]
        rw [e, List.getElem?_eq_getElem hj]
        rfl
      have hm := Nat.mod_lt (j + L.length - k) (show 0 < L.length by omega)
      have := h _ (List.mem_of_getElem? (mvL_get (k := k) (d := d) hm))
      rw [hjn, mv_wS (hF _ hs) hd (by omega)] at this
      exact this
    · obtain ⟨i, hi, rfl, hm⟩ := mvL_mem h0 hs
      rw [mv_wS (hF _ hm) hd (by omega)]
      exact h _ hm
  exact Int.le_antisymm ((key _).2 (Int.le_refl _)) ((key _).1 (Int.le_refl _))
/-- The sum over moved spans, where the index is small. -/
theorem mv_sum' (hk : k < L.length) (f g : Sp → Int) (h : ∀ i s, s ∈ L → i < L.length → g (mv d i s) = f s) : ((mvL L k d).map g).sum = (L.map f).sum := by
  have h0 : L ≠ [] := by intro e; rw [e] at hk; simp at hk
  rw [← rot_sum hk f]
  unfold mvL
  rw [List.map_map]
  congr 1
  apply List.map_congr_left
  intro i hi
  exact h i _ (nx_mem h0 k i) (List.mem_range.1 hi)
theorem mv_all (hk : k < L.length) (hF : ∀ s ∈ L, Fit s) (hd : 0 ≤ d ∧ d ≤ 1152921504606846975) (h16 : L.length ≤ 16) : allP (mvL L k d) = allP L := by
  unfold allP
  rw [mv_wid hk hF hd h16]
  exact mv_sum' hk _ _ fun i s hs hi => mv_wt _ (hF s hs) hd (by omega)
theorem mv_mean (hk : k < L.length) (hF : ∀ s ∈ L, Fit s) (hd : 0 ≤ d ∧ d ≤ 1152921504606846975) (h16 : L.length ≤ 16) (lo hi : Int) : meanP (mvL L k d) (lo + d) (hi + d) = meanP L lo hi + d := by
  unfold meanP
  rw [mv_sum' hk (q2S L lo hi) (q2S (mvL L k d) (lo + d) (hi + d)) fun i s hs hi' => ?_]
  · omega
  · unfold q2S
    rw [mv_all hk hF hd h16, mv_wid hk hF hd h16, mv_wt _ (hF s hs) hd (by omega), mv_cm _ _ (hF s hs) hd (by omega)]
    congr 1
    omega
theorem mv_jit (hk : k < L.length) (hF : ∀ s ∈ L, Fit s) (hd : 0 ≤ d ∧ d ≤ 1152921504606846975) (h16 : L.length ≤ 16) (lo hi : Int) : jitP (mvL L k d) (lo + d) (hi + d) = jitP L lo hi := by
  unfold jitP
  refine mv_sum' hk (q3S L lo hi) (q3S (mvL L k d) (lo + d) (hi + d)) fun i s hs hi' => ?_
  unfold q3S
  rw [mv_all hk hF hd h16, mv_wid hk hF hd h16, mv_wt _ (hF s hs) hd (by omega), mv_cm _ _ (hF s hs) hd (by omega), mv_mean hk hF hd h16]
  congr 2
  omega
theorem wts_get {i : Nat} {s : Sp} (h : L[i]? = some s) : (wts L)[i]? = some (wt1 (wid L) s) := by simp [wts, h]
theorem mv_wts (hk : k < L.length) (hF : ∀ s ∈ L, Fit s) (hd : 0 ≤ d ∧ d ≤ 1152921504606846975) (h16 : L.length ≤ 16) {i : Nat} (hi : i < L.length) : (wts (mvL L k d))[i]? = some (wt1 (wid L) (nx L k i)) := by
  have h0 : L ≠ [] := by intro e; rw [e] at hk; simp at hk
  rw [wts_get (mvL_get hi), mv_wid hk hF hd h16, mv_wt _ (hF _ (nx_mem h0 k i)) hd (by omega)]
theorem mvL_may (hk : k < L.length) (hF : ∀ s ∈ L, Fit s) (hd : 0 ≤ d ∧ d ≤ 1152921504606846975) (h16 : L.length ≤ 16) : (mvL L k d).all mayB = true := by
  have h0 : L ≠ [] := by intro e; rw [e] at hk; simp at hk
  refine List.all_eq_true.2 fun s hs => ?_
  obtain ⟨i, hi, rfl, hm⟩ := mvL_mem h0 hs
  exact mv_may (hF _ hm) hd (by omega)
end
theorem double {s : Sp} {lo hi : Int} (h : lo ≤ hi) : 0 ≤ meanP [s] lo hi - meanP [s, s] lo hi ∧ meanP [s] lo hi - meanP [s, s] lo hi ≤ 1 := by
  have hw := wt1_in (L := [s, s]) (s := s) (by simp)
  rw [(single lo hi).1]
  have e : meanP [s, s] lo hi = lo + 2 * ((cmS lo hi s - lo) / 2) := by
    simp only [meanP, q2S, allP, List.map_cons, List.map_nil, List.sum_cons, List.sum_nil, mdv, Bool.false_eq_true, if_false, Int.add_zero]
    have e1 : (cmS lo hi s - lo) * wt1 (wid [s, s]) s / (wt1 (wid [s, s]) s + wt1 (wid [s, s]) s) = (cmS lo hi s - lo) / 2 := by
      rw [show wt1 (wid [s, s]) s + wt1 (wid [s, s]) s = 2 * wt1 (wid [s, s]) s by omega]
      exact Int.mul_ediv_mul_of_pos_left _ _ (by omega)
    rw [e1]
    omega
  rw [e]
  omega
end Go.Proofs.YtcpiohklljppaaaW.AI.D

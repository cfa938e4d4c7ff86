import Derived.Test.YtimlhgpjmjmjhaaAIBplaceE
import Derived.Test.YtimlhgpjmjmjhaaAIInt
namespace Go.Proofs.YtimlhgpjmjmjhaaW.AI.B
open Go Go.Proofs.YtimlhgpjmjmjhaaW.AI Go.Proofs.YtimlhgpjmjmjhaaW.AI.Oct Go.RowKit
set_option maxRecDepth 100000
set_option linter.unusedSimpArgs false
set_option linter.unusedVariables false
set_option linter.unusedSectionVars false
theorem index_g {h : AHeap} {x : AV} {L : List Int} (hg : Good h) (u : IV .i64 h x L) (hl : L.length < 1000000) : ∃ i : Int, (L.all okS = true → i = -1) ∧ (L.all okS = false → 0 ≤ i) ∧ W CP 78 [x, .fn 72 []] h = some (.int .i64 i, h, []) := by
  have e := fun n h => width1_c n h
  cases hall : L.all okS with
  | true =>
    refine ⟨-1, fun _ => rfl, fun h => (by cases h), ?_⟩
    refine W_bothB (m := M78) (fun g => IV .i64 g x L) (fun _ => rfl) rfl rfl rfl good_gl (fun h0 => ?_) (fun g hg u => ?_) hg u
    · simp only [AV.lts, Bool.and_eq_true] at h0
      exact u.gl h0.1
    have nx := u.na
    have lx := u.len
    obtain ⟨n, hn⟩ : ∃ n, L.length = n := ⟨_, rfl⟩
    rw [hn] at lx hl
    simp (maxDischargeDepth := 9) -implicitDefEqProofs only [push_cast, simprocAttr, M78, nx, lx]
    refine wp_kRes (wp_kSeq (wp_kBlock ?_))
    refine wp_loop (fun k a h' ws => ∃ i : Nat, k = n - i ∧ i ≤ n ∧ a = [(0, x), (1, .fn 72 []), (7, .int .i64 (n : Int)), (8, .int .i64 (i : Int))] ∧ h' = g ∧ ws = []) n ?_ ?_
    · refine ⟨0, by omega, by omega, ?_, rfl, rfl⟩
      simp (maxDischargeDepth := 9) -implicitDefEqProofs only [push_cast, simprocAttr, nx]; try rfl
    · rintro k aa h' ws ⟨i, rfl, hi, rfl, rfl, rfl⟩
      have v1 : IntKind.i64.wrap ((i : Int) + 1) = (i : Int) + 1 := wr_i64 _ (by omega) (by omega)
      by_cases hlt : i < n
      · have hlt' : (i : Int) < (n : Int) := by omega
        obtain ⟨d, hd⟩ : ∃ d, L[i]? = some d := ⟨_, List.getElem?_eq_getElem (by omega)⟩
        have hok : okS d = true := List.all_eq_true.1 hall d (List.mem_of_getElem? hd)
        have ex := fun h => e d h
        rw [hok] at ex
        obtain ⟨p, ea1, ea2, _⟩ := u.at hd
        simp (maxDischargeDepth := 9) -implicitDefEqProofs only [push_cast, simprocAttr, hlt, hlt', v1, nx, ↓uia_eq, ea1, ↓uld_eq 14, ea2, ex, Bool.not_true]
        refine loop_next (n - (i + 1)) (by omega) ⟨i + 1, rfl, by omega, ?_, rfl, rfl⟩
        simp (maxDischargeDepth := 9) -implicitDefEqProofs only [push_cast, simprocAttr, nx]; try simp
      · have hnl : ¬ (i : Int) < (n : Int) := by omega
        simp (maxDischargeDepth := 9) -implicitDefEqProofs only [push_cast, simprocAttr, hnl]
        exact quietB
  | false =>
    obtain ⟨j, hj, hbad, hgood⟩ : ∃ j : Nat, ∃ hj : j < L.length, okS L[j] = false ∧ ∀ i, i < j → ∀ x, L[i]? = some x → okS x = true := by
      have h1 : ¬ L.all okS = true := by rw [hall]; simp
      rw [List.all_eq_true] at h1
      obtain ⟨x, hx⟩ := Classical.not_forall.1 h1
      obtain ⟨hx1, hx2⟩ := Classical.not_imp.1 hx
      have hlt : L.findIdx (fun n => !okS n) < L.length := List.findIdx_lt_length.2 ⟨x, hx1, by simpa using hx2⟩
      refine ⟨L.findIdx (fun n => !okS n), hlt, ?_, fun i hi y hy => ?_⟩
      · have := List.findIdx_getElem (p := fun n => !okS n) (xs := L) (w := hlt)
        simpa using this
      · have h2 := List.not_of_lt_findIdx (p := fun n => !okS n) (xs := L) hi
        obtain ⟨hi', rfl⟩ := List.getElem?_eq_some_iff.1 hy
        simpa using h2
    refine ⟨(j : Int), fun h => (by cases h), fun _ => by omega, ?_⟩
    refine W_bothB (m := M78) (fun g => IV .i64 g x L) (fun _ => rfl) rfl rfl rfl good_gl (fun h0 => ?_) (fun g hg u => ?_) hg u
    · simp only [AV.lts, Bool.and_eq_true] at h0
      exact u.gl h0.1
    have nx := u.na
    have lx := u.len
    obtain ⟨n, hn⟩ : ∃ n, L.length = n := ⟨_, rfl⟩
    rw [hn] at lx hl
    simp (maxDischargeDepth := 9) -implicitDefEqProofs only [push_cast, simprocAttr, M78, nx, lx]
    refine wp_kRes (wp_kSeq (wp_kBlock ?_))
    refine wp_loop (fun k a h' ws => ∃ i : Nat, k = n - i ∧ i ≤ j ∧ a = [(0, x), (1, .fn 72 []), (7, .int .i64 (n : Int)), (8, .int .i64 (i : Int))] ∧ h' = g ∧ ws = []) n ?_ ?_
    · refine ⟨0, by omega, by omega, ?_, rfl, rfl⟩
      simp (maxDischargeDepth := 9) -implicitDefEqProofs only [push_cast, simprocAttr, nx]; try rfl
    · rintro k aa h' ws ⟨i, rfl, hi, rfl, rfl, rfl⟩
      have v1 : IntKind.i64.wrap ((i : Int) + 1) = (i : Int) + 1 := wr_i64 _ (by omega) (by omega)
      have hlt : i < n := by omega
      have hlt' : (i : Int) < (n : Int) := by omega
      obtain ⟨d, hd⟩ : ∃ d, L[i]? = some d := ⟨_, List.getElem?_eq_getElem (by omega)⟩
      have ex := fun h => e d h
      obtain ⟨p, ea1, ea2, _⟩ := u.at hd
      by_cases hij : i < j
      · rw [hgood i hij d hd] at ex
        simp (maxDischargeDepth := 9) -implicitDefEqProofs only [push_cast, simprocAttr, hlt, hlt', v1, nx, ↓uia_eq, ea1, ↓uld_eq 14, ea2, ex, Bool.not_true]
        refine loop_next (n - (i + 1)) (by omega) ⟨i + 1, rfl, by omega, ?_, rfl, rfl⟩
        simp (maxDischargeDepth := 9) -implicitDefEqProofs only [push_cast, simprocAttr, nx]; try simp
      · obtain rfl : i = j := by omega
        have hxb : okS d = false := by
          obtain ⟨_, rfl⟩ := List.getElem?_eq_some_iff.1 hd
          exact hbad
        rw [hxb] at ex
        simp (maxDischargeDepth := 9) -implicitDefEqProofs only [push_cast, simprocAttr, hlt, hlt', v1, nx, ↓uia_eq, ea1, ↓uld_eq 14, ea2, ex, Bool.not_false]
        exact quietB
theorem contains_g {h : AHeap} {x : AV} {L : List Int} (hg : Good h) (u : IV .i64 h x L) (hl : L.length < 1000000) : W CP 71 [x, .fn 72 []] h = some (.bool (!L.all okS), h, []) := by
  refine W_bothB (m := M71) (fun g => IV .i64 g x L) (fun _ => rfl) rfl rfl rfl good_gl (fun h0 => ?_) (fun g hg u => ?_) hg u
  · simp only [AV.lts, Bool.and_eq_true] at h0
    exact u.gl h0.1
  obtain ⟨i, i1, i2, ei⟩ := index_g hg u hl
  have nx := u.na
  cases hall : L.all okS with
  | true =>
    rw [i1 hall] at ei
    simp (maxDischargeDepth := 9) -implicitDefEqProofs only [push_cast, simprocAttr, M71, nx, ei, Bool.not_true]
    exact quietB
  | false =>
    have := i2 hall
    simp (maxDischargeDepth := 9) -implicitDefEqProofs only [push_cast, simprocAttr, M71, nx, ei, this, Bool.not_false]
    exact quietB
theorem width_g {h : AHeap} {x : AV} {L : List Int} (hg : Good h) (u : IV .i64 h x L) (hl : L.length < 1000000) : W CP 39 [x] h = some (if L.all okS then .tup [.int .i64 (sumS L), .int .i64 0] else .tup [.int .i64 0, .int .i64 1], h, []) := by
  refine W_bothB (m := M39) (fun g => IV .i64 g x L) (fun _ => rfl) rfl rfl (by split <;> rfl) good_gl (fun h0 => ?_) (fun g hg u => ?_) hg u
  · simp only [AV.lts, Bool.and_eq_true] at h0
    exact u.gl h0.1
  have ec := contains_g hg u hl
  have nx := u.na
  have lx := u.len
  cases hall : L.all okS with
  | false =>
    rw [hall] at ec
    simp only [Bool.not_false] at ec
    simp (maxDischargeDepth := 9) -implicitDefEqProofs only [push_cast, simprocAttr, M39, nx, ec, Bool.false_eq_true]
    exact quietB
  | true =>
    rw [hall] at ec
    simp only [Bool.not_true] at ec
    obtain ⟨n, hn⟩ : ∃ n, L.length = n := ⟨_, rfl⟩
    rw [hn] at lx hl
    simp (maxDischargeDepth := 9) -implicitDefEqProofs only [push_cast, simprocAttr, M39, nx, lx, ec]
    refine wp_kRes (wp_kSeq (wp_kBlock ?_))
    refine wp_loop (fun k a h' ws => ∃ i : Nat, k = n - i ∧ i ≤ n ∧ a = [(4, .int .i64 (sumS (L.take i))), (9, x), (10, .int .i64 (n : Int)), (11, .int .i64 (i : Int))] ∧ h' = g ∧ ws = []) n ?_ ?_
    · refine ⟨0, by omega, by omega, ?_, rfl, rfl⟩
      simp (maxDischargeDepth := 9) -implicitDefEqProofs only [push_cast, simprocAttr, List.take_zero, nx]; try rfl
    · rintro k aa h' ws ⟨i, rfl, hi, rfl, rfl, rfl⟩
      have v1 : IntKind.i64.wrap ((i : Int) + 1) = (i : Int) + 1 := wr_i64 _ (by omega) (by omega)
      by_cases hlt : i < n
      · have hlt' : (i : Int) < (n : Int) := by omega
        obtain ⟨d, hd⟩ : ∃ d, L[i]? = some d := ⟨_, List.getElem?_eq_getElem (by omega)⟩
        obtain ⟨p, ea1, ea2, _⟩ := u.at hd
        have htk : L.take (i + 1) = L.take i ++ [d] := by rw [List.take_add_one, hd]; rfl
        have hb := sumS_bound (L := L.take (i + 1)) (List.all_eq_true.2 fun y hy => List.all_eq_true.1 hall y (List.mem_of_mem_take hy))
        rw [htk, sumS_snoc, List.length_append] at hb
        have hb2 : (L.take i).length ≤ 1000000 := by rw [List.length_take]; omega
        have v2 : IntKind.i64.wrap (sumS (L.take i) + d) = sumS (L.take i) + d := wr_i64 _ (by omega) (by simp only [List.length_cons, List.length_nil] at hb; omega)
        simp (maxDischargeDepth := 9) -implicitDefEqProofs only [push_cast, simprocAttr, hlt, hlt', v1, nx, ↓uia_eq, ea1, ↓uld_eq 13, ea2, v2]
        refine loop_next (n - (i + 1)) (by omega) ⟨i + 1, rfl, by omega, ?_, rfl, rfl⟩
        rw [htk, sumS_snoc]
        simp (maxDischargeDepth := 9) -implicitDefEqProofs only [push_cast, simprocAttr, nx]; try simp
      · have hi2 : i = n := by omega
        subst hi2
        have hnl : ¬ (i : Int) < (i : Int) := by omega
        have ht : L.take i = L := List.take_of_length_le (by omega)
        simp (maxDischargeDepth := 9) -implicitDefEqProofs only [push_cast, simprocAttr, hnl, ht]
        exact quietB
theorem rwidth_c {h : AHeap} {x : AV} {L : List Int} (hg : Good h) (u : IV .i64 h x L) (hl : L.length < 1000000) : W CP 40 [x] h = some (.int .i64 (if L.all okS then sumS L else -1), h, []) := by
  refine W_bothB (m := M40) (fun g => IV .i64 g x L) (fun _ => rfl) rfl rfl rfl good_gl (fun h0 => ?_) (fun g hg u => ?_) hg u
  · simp only [AV.lts, Bool.and_eq_true] at h0
    exact u.gl h0.1
  have nx := u.na
  have lx := u.len
  have e := fun n h => rsize_c n h
  obtain ⟨n, hn⟩ : ∃ n, L.length = n := ⟨_, rfl⟩
  rw [hn] at lx hl
  simp (maxDischargeDepth := 9) -implicitDefEqProofs only [push_cast, simprocAttr, M40, nx, lx]
  refine wp_kRes (wp_kSeq (wp_kBlock ?_))
  refine wp_loop (fun k a h' ws => ∃ i : Nat, k = n - i ∧ i ≤ n ∧ (L.take i).all okS = true ∧ a = [(0, x), (3, .int .i64 (sumS (L.take i))), (4, .int .i64 (i : Int))] ∧ h' = g ∧ ws = []) n ?_ ?_
  · refine ⟨0, by omega, by omega, rfl, ?_, rfl, rfl⟩
    simp (maxDischargeDepth := 9) -implicitDefEqProofs only [push_cast, simprocAttr, List.take_zero, nx]; try rfl
  · rintro k aa h' ws ⟨i, rfl, hi, hok, rfl, rfl, rfl⟩
    have v1 : IntKind.i64.wrap ((i : Int) + 1) = (i : Int) + 1 := wr_i64 _ (by omega) (by omega)
    by_cases hlt : i < n
    · have hlt' : (i : Int) < (n : Int) := by omega
      obtain ⟨d, hd⟩ : ∃ d, L[i]? = some d := ⟨_, List.getElem?_eq_getElem (by omega)⟩
      obtain ⟨p, ea1, ea2, _⟩ := u.at hd
      have htk : L.take (i + 1) = L.take i ++ [d] := by rw [List.take_add_one, hd]; rfl
      have ex := fun h => e d h
      cases hdk : okS d with
      | true =>
        rw [hdk] at ex
        have hok2 : (L.take (i + 1)).all okS = true := by rw [htk, List.all_append, hok]; simp [hdk]
        have hb := sumS_bound hok2
        rw [htk, sumS_snoc, List.length_append] at hb
        have hb2 : (L.take i).length ≤ 1000000 := by rw [List.length_take]; omega
        have v2 : IntKind.i64.wrap (sumS (L.take i) + d) = sumS (L.take i) + d := wr_i64 _ (by omega) (by simp only [List.length_cons, List.length_nil] at hb; omega)
        simp (maxDischargeDepth := 9) -implicitDefEqProofs only [push_cast, simprocAttr, hlt, hlt', v1, nx, lx, ↓uia_eq, ea1, ↓uld_eq 13, ↓uld_eq 20, ea2, ex, v2]
        refine loop_next (n - (i + 1)) (by omega) ⟨i + 1, rfl, by omega, hok2, ?_, rfl, rfl⟩
        rw [htk, sumS_snoc]
        simp (maxDischargeDepth := 9) -implicitDefEqProofs only [push_cast, simprocAttr, nx]; try simp
      | false =>
        rw [hdk] at ex
        have hf : L.all okS = false := by
          rw [← Bool.not_eq_true, List.all_eq_true]
          intro hh
          have := hh d (List.mem_of_getElem? hd)
          rw [hdk] at this; cases this
        rw [hf]
        simp (maxDischargeDepth := 9) -implicitDefEqProofs only [push_cast, simprocAttr, hlt, hlt', v1, nx, lx, ↓uia_eq, ea1, ↓uld_eq 13, ↓uld_eq 20, ea2, ex, Bool.false_eq_true]
        exact quietB
    · have hi2 : i = n := by omega
      subst hi2
      have hnl : ¬ (i : Int) < (i : Int) := by omega
      have ht : L.take i = L := List.take_of_length_le (by omega)
      rw [ht] at hok
      simp (maxDischargeDepth := 9) -implicitDefEqProofs only [push_cast, simprocAttr, hnl, nx, lx, ht, hok]
      exact quietB
/-- slices.Equal of numbers. -/
theorem sequal_c {h : AHeap} {x y : AV} {A B : List Int} (hg : Good h) (ux : IV .u64 h x A) (uy : IV .u64 h y B) (hl : A.length < 1000000) (hl2 : B.length < 1000000) : W CP 42 [x, y] h = some (.bool (decide (A = B)), h, []) := by
  refine W_bothB (m := M42) (fun g => IV .u64 g x A ∧ IV .u64 g y B) (fun _ => rfl) rfl rfl rfl good_gl (fun h0 => ?_) (fun g hg u => ?_) hg ⟨ux, uy⟩
  · simp only [AV.lts, Bool.and_eq_true] at h0
    exact ⟨ux.gl h0.1, uy.gl h0.2.1⟩
  obtain ⟨ux, uy⟩ := u
  have nx := ux.na
  have lx := ux.len
  have ny := uy.na
  have ly := uy.len
  obtain ⟨n, hn⟩ : ∃ n, A.length = n := ⟨_, rfl⟩
  obtain ⟨m, hm⟩ : ∃ n, B.length = n := ⟨_, rfl⟩
  rw [hn] at lx hl
  rw [hm] at ly hl2
  by_cases hnm : n = m
  · subst hnm
    simp (maxDischargeDepth := 9) -implicitDefEqProofs only [push_cast, simprocAttr, M42, nx, lx, ny, ly]
    refine wp_kRes (wp_kSeq (wp_kBlock ?_))
    refine wp_loop (fun k a h' ws => ∃ i : Nat, k = n - i ∧ i ≤ n ∧ A.take i = B.take i ∧ a = [(0, x), (1, y), (12, .int .i64 (n : Int)), (13, .int .i64 (i : Int))] ∧ h' = g ∧ ws = []) n ?_ ?_
    · refine ⟨0, by omega, by omega, by simp, ?_, rfl, rfl⟩
      simp (maxDischargeDepth := 9) -implicitDefEqProofs only [push_cast, simprocAttr, nx, ny]; try rfl
    · rintro k aa h' ws ⟨i, rfl, hi, heq, rfl, rfl, rfl⟩
      have v1 : IntKind.i64.wrap ((i : Int) + 1) = (i : Int) + 1 := wr_i64 _ (by omega) (by omega)
      by_cases hlt : i < n
      · have hlt' : (i : Int) < (n : Int) := by omega
        obtain ⟨d, hd⟩ : ∃ d, A[i]? = some d := ⟨_, List.getElem?_eq_getElem (by omega)⟩
        obtain ⟨c, hc⟩ : ∃ d, B[i]? = some d := ⟨_, List.getElem?_eq_getElem (by omega)⟩
        obtain ⟨p, ea1, ea2, _⟩ := ux.at hd
        obtain ⟨q, eb1, eb2, _⟩ := uy.at hc
        by_cases hdc : d = c
        · subst hdc
          simp (maxDischargeDepth := 9) -implicitDefEqProofs only [push_cast, simprocAttr, nadd1, nadd2, nadd3, nadd4, nadd5, nadd6, nadd7, nadd8, nadd9, nadd10, nadd11, nadd12, hlt, hlt', v1, nx, ny, ↓uia_eq, ea1, ↓uld_eq 18, ea2, eb1, ↓uld_eq 22, eb2]
          refine loop_next (n - (i + 1)) (by omega) ⟨i + 1, rfl, by omega, ?_, ?_, rfl, rfl⟩
          · rw [List.take_add_one, List.take_add_one, heq, hd, hc]
          · simp (maxDischargeDepth := 9) -implicitDefEqProofs only [push_cast, simprocAttr, nx, ny]; try simp
        · have hne : A ≠ B := by
            rintro rfl
            rw [hd] at hc; cases hc; exact hdc rfl
          rw [decide_eq_false hne]
          simp (maxDischargeDepth := 9) -implicitDefEqProofs only [push_cast, simprocAttr, nadd1, nadd2, nadd3, nadd4, nadd5, nadd6, nadd7, nadd8, nadd9, nadd10, nadd11, nadd12, hlt, hlt', v1, nx, ny, ↓uia_eq, ea1, ↓uld_eq 18, ea2, eb1, ↓uld_eq 22, eb2, hdc]
          exact quietB
      · have hi2 : i = n := by omega
        subst hi2
        have hnl : ¬ (i : Int) < (i : Int) := by omega
        rw [List.take_of_length_le (by omega), List.take_of_length_le (by omega)] at heq
        rw [decide_eq_true heq]
        simp (maxDischargeDepth := 9) -implicitDefEqProofs only [push_cast, simprocAttr, hnl]
        exact quietB
  · have hne : A ≠ B := by rintro rfl; omega
    rw [decide_eq_false hne]
    have hnm' : ¬ (n : Int) = (m : Int) := by omega
    simp (maxDischargeDepth := 9) -implicitDefEqProofs only [push_cast, simprocAttr, M42, nx, lx, ny, ly, hnm']
    exact quietB
end Go.Proofs.YtimlhgpjmjmjhaaW.AI.B
namespace Go.Proofs.YtimlhgpjmjmjhaaW.AI.B
open Go Go.Proofs.YtimlhgpjmjmjhaaW.AI Go.Proofs.YtimlhgpjmjmjhaaW.AI.Oct Go.RowKit
set_option maxRecDepth 100000
set_option linter.unusedSimpArgs false
set_option linter.unusedVariables false
set_option linter.unusedSectionVars false
theorem lay1g_ok {H : AHeap} {c0 c1 B o s k cc : Nat} {y : AV} {V D : List Int} {v : Int} (hg : Good H) (a0 : H[c0]? = some ⟨.tip false, .vals [y]⟩) (a1 : c1 < H.length)
    (a2 : H[B]? = some ⟨.tip false, .ints .u8 D⟩) (hN : IV .u64 H y V) (hk : V[k]? = some v) (v0 : 0 ≤ v) (v1 : v < 18446744073709551616) (hv : v < 256 ^ s) (s1 : 1 ≤ s) (s8 : s ≤ 8) (ho : o + s ≤ D.length) :
    W CP 63 [.int .i64 (k : Int), .sl B o s cc, .ptr c0 0, .ptr c1 0] H = some (.bool true, H.set B ⟨.tip false, .ints .u8 (splice D o (dg s v))⟩, [B]) := by
  have ef := fun h => fits_c (h := h) v0 v1 s1 s8
  rw [decide_eq_true hv] at ef
  have ew := write_c (c := cc) (v := v) a2 (by omega) s8 ho
  have b0 := (List.getElem?_eq_some_iff.1 a0).1
  have b2 := (List.getElem?_eq_some_iff.1 a2).1
  have ny := hN.na
  obtain ⟨p, ea1, ea2, _⟩ := hN.at hk
  refine W_set0 (m := M63) rfl rfl (by simp [AV.lts, AV.lt]) rfl rfl hg b2 (by simp [oldIn]) (by simp [ACells.lt]) ?_
  simp (maxDischargeDepth := 9) -implicitDefEqProofs only [push_cast, simprocAttr, M63, a0, a2, ny, ↓uia_eq, ea1, ↓uld_eq 9, ↓uld_eq 18, ea2, b0, b2, ef, ew]
theorem lay1g_bad {H : AHeap} {c0 c1 B o s k cc : Nat} {y : AV} {V : List Int} {v e : Int} (hg : Good H) (a0 : H[c0]? = some ⟨.tip false, .vals [y]⟩) (a1 : H[c1]? = some ⟨.tip false, .ints .i64 [e]⟩) (hB : B < H.length)
    (hN : IV .u64 H y V) (hk : V[k]? = some v) (v0 : 0 ≤ v) (v1 : v < 18446744073709551616) (hv : ¬ v < 256 ^ s) (s1 : 1 ≤ s) (s8 : s ≤ 8) :
    W CP 63 [.int .i64 (k : Int), .sl B o s cc, .ptr c0 0, .ptr c1 0] H = some (.bool false, H.set c1 ⟨.tip false, .ints .i64 [20]⟩, [c1]) := by
  have ef := fun h => fits_c (h := h) v0 v1 s1 s8
  rw [decide_eq_false hv] at ef
  have b0 := (List.getElem?_eq_some_iff.1 a0).1
  have b1 := (List.getElem?_eq_some_iff.1 a1).1
  have ny := hN.na
  obtain ⟨p, ea1, ea2, _⟩ := hN.at hk
  refine W_set0 (m := M63) rfl rfl (by simp [AV.lts, AV.lt]) rfl rfl hg b1 (by simp [oldIn]) (by simp [ACells.lt]) ?_
  simp (maxDischargeDepth := 9) -implicitDefEqProofs only [push_cast, simprocAttr, M63, a0, a1, ny, ↓uia_eq, ea1, ↓uld_eq 9, ea2, b0, b1, ef]
set_option maxHeartbeats 4000000 in
theorem cutg_ok {H : AHeap} {c0 c1 B : Nat} {x y : AV} {Ls : List Nat} {V D0 : List Int} (hg : Good H) (hS : IV .i64 H x (szI Ls)) (hll : Ls.length < 1000000) (a0 : H[c0]? = some ⟨.tip false, .vals [y]⟩) (a1 : c1 < H.length)
    (a2 : H[B]? = some ⟨.tip false, .ints .u8 D0⟩) (hN : IV .u64 H y V) (n0 : c0 ≠ B) (hl : Ls.length = V.length) (hD : D0.length = Ls.sum) (hok : ∀ s ∈ Ls, 1 ≤ s ∧ s ≤ 8) (hV : ∀ v ∈ V, 0 ≤ v ∧ v < 18446744073709551616)
    (hf : ∀ (i s : Nat) (v : Int), Ls[i]? = some s → V[i]? = some v → v < 256 ^ s) :
    ∃ ws, (∀ b ∈ ws, b = B) ∧ W CP 62 [x, .sl B 0 Ls.sum Ls.sum, .fn 63 [.ptr c0 0, .ptr c1 0]] H = some (.tup [], H.set B ⟨.tip false, .ints .u8 (layB Ls V)⟩, ws) := by
  have b2 := (List.getElem?_eq_some_iff.1 a2).1
  refine W_setsP (m := M62) (fun ws => ∀ b ∈ ws, b = B) rfl rfl (by simp [AV.lts, AV.lt]) rfl rfl (by simp) (good_set hg rfl) (fun ws hw b hb => by obtain rfl := hw b hb; exact ⟨_, List.getElem?_set_self b2, by simp [ACells.lt]⟩) ?_
  have hlen : (szI Ls).length = Ls.length := by simp
  have nx := hS.na
  have lx := hS.len
  rw [hlen] at lx
  simp (maxDischargeDepth := 9) -implicitDefEqProofs only [push_cast, simprocAttr, M62, nx, lx]
  refine wp_kRes (wp_kBlock ?_)
  refine wp_loop (fun k a h' ws => ∃ i : Nat, k = Ls.length - i ∧ i ≤ Ls.length ∧ a = [(1, .sl B (Ls.take i).sum (Ls.sum - (Ls.take i).sum) (Ls.sum - (Ls.take i).sum)), (2, .fn 63 [.ptr c0 0, .ptr c1 0]), (8, x), (9, .int .i64 (Ls.length : Int)), (10, .int .i64 (i : Int))] ∧ h' = H.set B ⟨.tip false, .ints .u8 (layB (Ls.take i) (V.take i) ++ D0.drop (Ls.take i).sum)⟩ ∧ ∀ b ∈ ws, b = B) Ls.length ?_ ?_
  · refine ⟨0, by omega, by omega, ?_, ?_, by simp⟩
    · simp (maxDischargeDepth := 9) -implicitDefEqProofs only [push_cast, simprocAttr, List.take_zero, List.sum_nil, Nat.sub_zero, nx]; try rfl
    · rw [List.take_zero, List.take_zero, layB_nil, List.sum_nil, List.drop_zero, List.nil_append, set_same a2]
  · rintro k aa h' ws ⟨i, rfl, hi, rfl, hh, hws⟩
    have v1 : IntKind.i64.wrap ((i : Int) + 1) = (i : Int) + 1 := wr_i64 _ (by omega) (by omega)
    by_cases hlt : i < Ls.length
    · have hlt' : (i : Int) < (Ls.length : Int) := by omega
      obtain ⟨s, hs⟩ : ∃ s, Ls[i]? = some s := ⟨_, List.getElem?_eq_getElem hlt⟩
      obtain ⟨v, hv⟩ : ∃ v, V[i]? = some v := ⟨_, List.getElem?_eq_getElem (by omega)⟩
      have hsI : (szI Ls)[i]? = some (s : Int) := by simp [hs]
      obtain ⟨s1, s8⟩ := hok s (List.mem_of_getElem? hs)
      obtain ⟨v0, v9⟩ := hV v (List.mem_of_getElem? hv)
      have hff := hf i s v hs hv
      have e1 := sum_take_succ hs
      have e2 := sum_take_le Ls (i + 1)
      have tl : (Ls.take i).length = (V.take i).length := by simp [hl]
      have hA := layB_len (Ls.take i) (V.take i) tl
      obtain ⟨o, ho⟩ : ∃ o, (Ls.take i).sum = o := ⟨_, rfl⟩
      obtain ⟨M, hM⟩ : ∃ M, Ls.sum - o = M := ⟨_, rfl⟩
      rw [ho] at e1 hA hh ⊢
      rw [hM]
      have hsM : s ≤ M := by omega
      have g0 : h'[c0]? = some ⟨.tip false, .vals [y]⟩ := by rw [hh, List.getElem?_set_ne (Ne.symm n0)]; exact a0
      have g1 : c1 < h'.length := by rw [hh]; simpa using a1
      have g2 : h'[B]? = some ⟨.tip false, .ints .u8 (layB (Ls.take i) (V.take i) ++ D0.drop o)⟩ := by rw [hh, List.getElem?_set_self b2]
      have gN : IV .u64 h' y V := by rw [hh]; exact hN.set a2 (by simp)
      have gS : IV .i64 h' x (szI Ls) := by rw [hh]; exact hS.set a2 (by simp)
      obtain ⟨pp, ea1, ea2, _⟩ := gS.at hsI
      have gG : Good h' := by rw [hh]; exact good_set hg rfl
      have eL := lay1g_ok (o := o) (k := i) (cc := s) gG g0 g1 g2 gN hv v0 v9 hff s1 s8 (by rw [List.length_append, hA, List.length_drop]; omega)
      have hsp : splice (layB (Ls.take i) (V.take i) ++ D0.drop o) o (dg s v) = layB (Ls.take (i + 1)) (V.take (i + 1)) ++ D0.drop (o + s) := by
        have h1 := splice_mid (layB (Ls.take i) (V.take i)) (D0.drop o) (dg s v)
        rw [hA] at h1
        rw [h1, List.take_add_one, List.take_add_one, hs, hv]
        simp only [Option.toList_some]
        rw [layB_snoc _ _ _ _ tl, dg_len, List.drop_drop]
      rw [hsp] at eL
      have hm0 : (0 : Nat) ≤ s := by omega
      simp (maxDischargeDepth := 9) -implicitDefEqProofs only [push_cast, simprocAttr, hlt, hlt', v1, nx, lx, ↓uia_eq, ea1, ↓uld_eq 13, ea2, hsM, hm0, Nat.sub_zero, Nat.mul_one, Nat.add_zero, Nat.zero_add, eL]
      refine loop_next (Ls.length - (i + 1)) (by omega) ⟨i + 1, rfl, by omega, ?_, ?_, ?_⟩
      · rw [e1, show Ls.sum - (o + s) = M - s by omega]
        simp (maxDischargeDepth := 9) -implicitDefEqProofs only [push_cast, simprocAttr, nx]; try simp
      · rw [hh, List.set_set, e1]
      · intro b hb
        split at hb
        · rcases List.mem_append.1 hb with hb | hb
          · exact hws b hb
          · simpa using hb
        · exact hws b hb
    · have hi2 : i = Ls.length := by omega
      subst hi2
      have hnl : ¬ (Ls.length : Int) < (Ls.length : Int) := by omega
      rw [List.take_length, hl, List.take_length, List.drop_eq_nil_of_le (by omega), List.append_nil] at hh
      simp (maxDischargeDepth := 9) -implicitDefEqProofs only [push_cast, simprocAttr, hh]
      exact hws
set_option maxHeartbeats 4000000 in
theorem cutg_bad {H : AHeap} {c0 c1 B : Nat} {x y : AV} {Ls : List Nat} {V D0 : List Int} (hg : Good H) (hS : IV .i64 H x (szI Ls)) (hll : Ls.length < 1000000) (a0 : H[c0]? = some ⟨.tip false, .vals [y]⟩) (a1 : H[c1]? = some ⟨.tip false, .ints .i64 [0]⟩)
    (a2 : H[B]? = some ⟨.tip false, .ints .u8 D0⟩) (hN : IV .u64 H y V) (n0 : c0 ≠ B) (hl : Ls.length = V.length) (hD : D0.length = Ls.sum) (hok : ∀ s ∈ Ls, 1 ≤ s ∧ s ≤ 8) (hV : ∀ v ∈ V, 0 ≤ v ∧ v < 18446744073709551616)
    (n3 : c1 ≠ B) (n4 : c0 ≠ c1) (hf : ¬ ∀ (i s : Nat) (v : Int), Ls[i]? = some s → V[i]? = some v → v < 256 ^ s) :
    ∃ (X : AHeap) (ws : List Nat), ((∃ D : List Int, X = (H.set B ⟨.tip false, .ints .u8 D⟩).set c1 ⟨.tip false, .ints .i64 [20]⟩) ∧ ∀ b ∈ ws, b = B ∨ b = c1) ∧ W CP 62 [x, .sl B 0 Ls.sum Ls.sum, .fn 63 [.ptr c0 0, .ptr c1 0]] H = some (.tup [], X, ws) := by
  have b2 := (List.getElem?_eq_some_iff.1 a2).1
  have b1 := (List.getElem?_eq_some_iff.1 a1).1
  refine W_setsE (m := M62) (fun X ws => (∃ D : List Int, X = (H.set B ⟨.tip false, .ints .u8 D⟩).set c1 ⟨.tip false, .ints .i64 [20]⟩) ∧ ∀ b ∈ ws, b = B ∨ b = c1) rfl rfl (by simp [AV.lts, AV.lt]) rfl rfl ?_ ?_
  · rintro X ws ⟨⟨D, rfl⟩, hw⟩
    refine ⟨by simp, good_set (good_set hg rfl) rfl, fun b hb => ?_⟩
    rcases hw b hb with rfl | rfl
    · exact ⟨⟨.tip false, .ints .u8 D⟩, by rw [List.getElem?_set_ne n3, List.getElem?_set_self b2], by simp [ACells.lt]⟩
    · exact ⟨⟨.tip false, .ints .i64 [20]⟩, List.getElem?_set_self (by simpa using b1), by simp [ACells.lt]⟩
  have hlen : (szI Ls).length = Ls.length := by simp
  have nx := hS.na
  have lx := hS.len
  rw [hlen] at lx
  simp (maxDischargeDepth := 9) -implicitDefEqProofs only [push_cast, simprocAttr, M62, nx, lx]
  refine wp_kRes (wp_kBlock ?_)
  refine wp_loop (fun k a h' ws => ∃ i : Nat, k = Ls.length - i ∧ i ≤ Ls.length ∧ a = [(1, .sl B (Ls.take i).sum (Ls.sum - (Ls.take i).sum) (Ls.sum - (Ls.take i).sum)), (2, .fn 63 [.ptr c0 0, .ptr c1 0]), (8, x), (9, .int .i64 (Ls.length : Int)), (10, .int .i64 (i : Int))] ∧ (∀ (i' s : Nat) (v : Int), i' < i → Ls[i']? = some s → V[i']? = some v → v < 256 ^ s) ∧ h' = H.set B ⟨.tip false, .ints .u8 (layB (Ls.take i) (V.take i) ++ D0.drop (Ls.take i).sum)⟩ ∧ ∀ b ∈ ws, b = B) Ls.length ?_ ?_
  · refine ⟨0, by omega, by omega, ?_, by omega, ?_, by simp⟩
    · simp (maxDischargeDepth := 9) -implicitDefEqProofs only [push_cast, simprocAttr, List.take_zero, List.sum_nil, Nat.sub_zero, nx]; try rfl
    · rw [List.take_zero, List.take_zero, layB_nil, List.sum_nil, List.drop_zero, List.nil_append, set_same a2]
  · rintro k aa h' ws ⟨i, rfl, hi, rfl, hfi, hh, hws⟩
    have v1 : IntKind.i64.wrap ((i : Int) + 1) = (i : Int) + 1 := wr_i64 _ (by omega) (by omega)
    by_cases hlt : i < Ls.length
    · have hlt' : (i : Int) < (Ls.length : Int) := by omega
      obtain ⟨s, hs⟩ : ∃ s, Ls[i]? = some s := ⟨_, List.getElem?_eq_getElem hlt⟩
      obtain ⟨v, hv⟩ : ∃ v, V[i]? = some v := ⟨_, List.getElem?_eq_getElem (by omega)⟩
      have hsI : (szI Ls)[i]? = some (s : Int) := by simp [hs]
      obtain ⟨s1, s8⟩ := hok s (List.mem_of_getElem? hs)
      obtain ⟨v0, v9⟩ := hV v (List.mem_of_getElem? hv)
      have e1 := sum_take_succ hs
      have e2 := sum_take_le Ls (i + 1)
      have tl : (Ls.take i).length = (V.take i).length := by simp [hl]
      have hA := layB_len (Ls.take i) (V.take i) tl
      obtain ⟨o, ho⟩ : ∃ o, (Ls.take i).sum = o := ⟨_, rfl⟩
      obtain ⟨M, hM⟩ : ∃ M, Ls.sum - o = M := ⟨_, rfl⟩
      rw [ho] at e1 hA hh ⊢
      rw [hM]
      have hsM : s ≤ M := by omega
      have g0 : h'[c0]? = some ⟨.tip false, .vals [y]⟩ := by rw [hh, List.getElem?_set_ne (Ne.symm n0)]; exact a0
      have g1 : h'[c1]? = some ⟨.tip false, .ints .i64 [0]⟩ := by rw [hh, List.getElem?_set_ne (Ne.symm n3)]; exact a1
      have g3 : B < h'.length := by rw [hh]; simpa using b2
      have g4 : c1 < h'.length := by rw [hh]; simpa using b1
      have g2 : h'[B]? = some ⟨.tip false, .ints .u8 (layB (Ls.take i) (V.take i) ++ D0.drop o)⟩ := by rw [hh, List.getElem?_set_self b2]
      have gN : IV .u64 h' y V := by rw [hh]; exact hN.set a2 (by simp)
      have gS : IV .i64 h' x (szI Ls) := by rw [hh]; exact hS.set a2 (by simp)
      obtain ⟨pp, ea1, ea2, _⟩ := gS.at hsI
      have gG : Good h' := by rw [hh]; exact good_set hg rfl
      by_cases hff : v < 256 ^ s
      · have hfn : ∀ (i' s : Nat) (v : Int), i' < i + 1 → Ls[i']? = some s → V[i']? = some v → v < 256 ^ s := by
          intro i' s' v' h1 h2 h3
          by_cases h4 : i' < i
          · exact hfi i' s' v' h4 h2 h3
          · obtain rfl : i' = i := by omega
            rw [hs] at h2; rw [hv] at h3; cases h2; cases h3; exact hff
        have eL := lay1g_ok (o := o) (k := i) (cc := s) gG g0 g4 g2 gN hv v0 v9 hff s1 s8 (by rw [List.length_append, hA, List.length_drop]; omega)
        have hsp : splice (layB (Ls.take i) (V.take i) ++ D0.drop o) o (dg s v) = layB (Ls.take (i + 1)) (V.take (i + 1)) ++ D0.drop (o + s) := by
          have h1 := splice_mid (layB (Ls.take i) (V.take i)) (D0.drop o) (dg s v)
          rw [hA] at h1
          rw [h1, List.take_add_one, List.take_add_one, hs, hv]
          simp only [Option.toList_some]
          rw [layB_snoc _ _ _ _ tl, dg_len, List.drop_drop]
        rw [hsp] at eL
        have hm0 : (0 : Nat) ≤ s := by omega
        simp (maxDischargeDepth := 9) -implicitDefEqProofs only [push_cast, simprocAttr, hlt, hlt', v1, nx, lx, ↓uia_eq, ea1, ↓uld_eq 13, ea2, hsM, hm0, Nat.sub_zero, Nat.mul_one, Nat.add_zero, Nat.zero_add, eL]
        refine loop_next (Ls.length - (i + 1)) (by omega) ⟨i + 1, rfl, by omega, ?_, hfn, ?_, ?_⟩
        · rw [e1, show Ls.sum - (o + s) = M - s by omega]
          simp (maxDischargeDepth := 9) -implicitDefEqProofs only [push_cast, simprocAttr, nx]; try simp
        · rw [hh, List.set_set, e1]
        · intro b hb
          split at hb
          · rcases List.mem_append.1 hb with hb | hb
            · exact hws b hb
            · simpa using hb
          · exact hws b hb
      · have eL := lay1g_bad (o := o) (k := i) (cc := s) (B := B) gG g0 g1 g3 gN hv v0 v9 hff s1 s8
        have hm0 : (0 : Nat) ≤ s := by omega
        simp (maxDischargeDepth := 9) -implicitDefEqProofs only [push_cast, simprocAttr, hlt, hlt', v1, nx, lx, ↓uia_eq, ea1, ↓uld_eq 13, ea2, hsM, hm0, Nat.sub_zero, Nat.mul_one, Nat.add_zero, Nat.zero_add, eL]
        refine ⟨⟨_, by rw [hh]⟩, fun b hb => ?_⟩
        split at hb
        · rcases List.mem_append.1 hb with hb | hb
          · exact Or.inl (hws b hb)
          · exact Or.inr (by simpa using hb)
        · exact Or.inl (hws b hb)
    · have hi2 : i = Ls.length := by omega
      subst hi2
      refine absurd (fun i' s' v' h2 h3 => ?_) hf
      exact hfi i' s' v' (List.getElem?_eq_some_iff.1 h2).1 h2 h3
end Go.Proofs.YtimlhgpjmjmjhaaW.AI.B
namespace Go.Proofs.YtimlhgpjmjmjhaaW.AI.B
open Go Go.Proofs.YtimlhgpjmjmjhaaW.AI Go.Proofs.YtimlhgpjmjmjhaaW.AI.Oct Go.RowKit
set_option maxRecDepth 100000
set_option linter.unusedSimpArgs false
set_option linter.unusedVariables false
set_option linter.unusedSectionVars false
def fitB : List Nat → List Int → Bool
  | s :: Ls, v :: V => decide (v < 256 ^ s) && fitB Ls V
  | _, _ => true
theorem fitB_iff : ∀ (Ls : List Nat) (V : List Int), fitB Ls V = true ↔ ∀ (i s : Nat) (v : Int), Ls[i]? = some s → V[i]? = some v → v < 256 ^ s
  | [], V => by simp [fitB]
  | s :: Ls, [] => by simp [fitB]
  | s :: Ls, v :: V => by
    simp only [fitB, Bool.and_eq_true, decide_eq_true_eq, fitB_iff Ls V]
    constructor
    · rintro ⟨h1, h2⟩ i s' v' hs hv
      cases i with
      | zero => simp at hs hv; subst hs hv; exact h1
      | succ i => exact h2 i s' v' (by simpa using hs) (by simpa using hv)
    · intro h
      exact ⟨h 0 s v rfl rfl, fun i s' v' hs hv => h (i + 1) s' v' (by simpa using hs) (by simpa using hv)⟩
theorem okS_szI {L : List Int} (h : L.all okS = true) : L = szI (L.map Int.toNat) ∧ ∀ s ∈ L.map Int.toNat, 1 ≤ s ∧ s ≤ 8 := by
  have hk : ∀ x ∈ L, 0 < x ∧ x ≤ 8 := fun x hx => by
    have := List.all_eq_true.1 h x hx
    simpa [okS] using this
  refine ⟨?_, fun s hs => ?_⟩
  · unfold szI
    rw [List.map_map]
    conv => lhs; rw [← List.map_id L]
    refine List.map_congr_left fun x hx => ?_
    have := hk x hx
    simp only [id, Function.comp]
    omega
  · obtain ⟨x, hx, rfl⟩ := List.mem_map.1 hs
    have := hk x hx
    omega
def layE (L V : List Int) : Int := if L.all okS = true ∧ L.length = V.length then (if fitB (L.map Int.toNat) V = true then 0 else 20) else 1
def layD (L V : List Int) : List Int := if layE L V = 0 then layB (L.map Int.toNat) V else []
section
variable {h : AHeap} {x y : AV} {L V : List Int}
/-- Numbers that fit are laid: where. -/
theorem layg_ok {Ls : List Nat} (hg : Good h) (hS : IV .i64 h x (szI Ls)) (hN : IV .u64 h y V) (hll : Ls.length < 1000000) (hl : Ls.length = V.length) (hok : ∀ s ∈ Ls, 1 ≤ s ∧ s ≤ 8) (hV : ∀ v ∈ V, 0 ≤ v ∧ v < 18446744073709551616)
    (hf : ∀ (i s : Nat) (v : Int), Ls[i]? = some s → V[i]? = some v → v < 256 ^ s) :
    W CP 35 [x, y] h = some (.tup [.sl (h.length + 2) 0 Ls.sum Ls.sum, .int .i64 0], h ++ [⟨.tip false, .vals [y]⟩, ⟨.tip false, .ints .i64 [0]⟩, ⟨.tip false, .ints .u8 (layB Ls V)⟩], []) := by
  have key : ∀ {h : AHeap}, Good h → IV .i64 h x (szI Ls) → IV .u64 h y V → xbody (W CP) M35 [x, y] h = some (.tup [.sl (h.length + 2) 0 Ls.sum Ls.sum, .int .i64 0], h ++ [⟨.tip false, .vals [y]⟩, ⟨.tip false, .ints .i64 [0]⟩, ⟨.tip false, .ints .u8 (layB Ls V)⟩], []) := by
    intro h hg hS hN
    have h8 := sum_le8 hok
    have nx := hS.na
    have lx := hS.len
    have ny := hN.na
    have iy := hN.cell
    have ly := hN.len
    have hG1 : Good (h ++ [⟨.tip false, .vals [y]⟩]) := good_app hg rfl
    have hG3 : Good (h ++ [⟨.tip false, .vals [y]⟩, ⟨.tip false, .ints .i64 [0]⟩, ⟨.tip false, .ints .u8 (List.replicate Ls.sum 0)⟩]) := good_app hg rfl
    have ew := width_g hG1 (hS.app _) (by rw [len_szI]; exact hll)
    rw [all_okS hok, if_pos rfl, sumS_szI] at ew
    obtain ⟨ws, hws, ec⟩ := cutg_ok (c0 := h.length) (c1 := h.length + 1) (B := h.length + 2) (D0 := List.replicate Ls.sum 0) hG3 (hS.app _) hll (by rw [List.getElem?_append_right (by omega)]; simp) (by simp) (by rw [List.getElem?_append_right (by omega)]; simp) (hN.app _) (by omega) hl (by simp) hok hV hf
    have hset : (h ++ [(⟨.tip false, .vals [y]⟩ : ABlk), ⟨.tip false, .ints .i64 [0]⟩, ⟨.tip false, .ints .u8 (List.replicate Ls.sum 0)⟩]).set (h.length + 2) ⟨.tip false, .ints .u8 (layB Ls V)⟩ = h ++ [⟨.tip false, .vals [y]⟩, ⟨.tip false, .ints .i64 [0]⟩, ⟨.tip false, .ints .u8 (layB Ls V)⟩] := by
      rw [List.set_append_right _ _ (by omega), show h.length + 2 - h.length = 2 by omega]
      rfl
    rw [hset] at ec
    have hwd : wadd h.length [] ws = [] := wadd_ge fun b hb => by have := hws b hb; omega
    rw [len_szI] at lx
    obtain ⟨N, hNN⟩ : ∃ N, Ls.sum = N := ⟨_, rfl⟩
    rw [hNN] at ew ec h8 ⊢
    obtain ⟨n, hn⟩ : ∃ n, Ls.length = n := ⟨_, rfl⟩
    rw [← hl] at ly
    rw [hn] at lx ly hll h8
    have hfl : (List.replicate N [(0 : Int)]).flatten = List.replicate N 0 := by simp
    have k4 : N ≤ 281474976710656 := by omega
    have k1 : (N : Int) < 9223372036854775808 := by omega
    have k2 : 1 * N ≤ 281474976710656 := by omega
    have k3 : N < 9223372036854775808 := by omega
    rcases hN.shape with rfl | ⟨_, _, _, rfl⟩ | ⟨_, _, _, rfl⟩
    all_goals simp (maxDischargeDepth := 9) -implicitDefEqProofs only [push_cast, simprocAttr, M35, nadd1, nadd2, nadd3, nadd4, nadd5, nadd6, nadd7, nadd8, nadd9, nadd10, nadd11, nadd12, nx, lx, ny, iy, ly, ew, hfl, k4, k1, k2, k3, ec, hwd]
  cases h0 : AV.lts 0 [x, y] with
  | true =>
    have h0' := h0
    simp only [AV.lts, Bool.and_eq_true] at h0'
    have e1 := key good_gl (hS.gl h0'.1) (hN.gl h0'.2.1)
    have e2 := key hg hS hN
    have hx0 : y = .nils ∧ x = .nils ∧ Ls = [] := by
      refine ⟨?_, ?_, ?_⟩
      · rcases hN with ⟨rfl, _⟩ | ⟨b, c, st, l, mn, _, _, _, _, ⟨rfl, _⟩ | rfl⟩
        · rfl
        · simp [AV.lt] at h0'
        · simp [AV.lt] at h0'
      · rcases hS with ⟨rfl, _⟩ | ⟨b, c, st, l, mn, _, _, _, _, ⟨rfl, _⟩ | rfl⟩
        · rfl
        · simp [AV.lt] at h0'
        · simp [AV.lt] at h0'
      · rcases hS with ⟨rfl, e⟩ | ⟨b, c, st, l, mn, _, _, _, _, ⟨rfl, _⟩ | rfl⟩
        · simpa using e
        · simp [AV.lt] at h0'
        · simp [AV.lt] at h0'
    obtain ⟨rfl, rfl, rfl⟩ := hx0
    rw [W_made (m := M35) rfl rfl rfl e1 rfl e2]
    have : M35.trim = true := rfl
    rw [this, if_pos rfl, trim_addr (by simp [AV.lt, AV.lts])]
  | false =>
    rw [W_body (m := M35) rfl rfl h0 (key hg hS hN), show (M35).trim = true from rfl, if_pos rfl, trim_addr (by simp [AV.lt, AV.lts])]
theorem layg_bad (hg : Good h) (hS : IV .i64 h x L) (hN : IV .u64 h y V) (hll : L.length < 1000000) (hl2 : V.length < 1000000) (hV : ∀ v ∈ V, 0 ≤ v ∧ v < 18446744073709551616) (he : layE L V ≠ 0) :
    W CP 35 [x, y] h = some (.tup [.nils, .int .i64 (layE L V)], h, []) := by
  refine W_bothB (m := M35) (fun g => IV .i64 g x L ∧ IV .u64 g y V) (fun _ => rfl) rfl rfl rfl good_gl (fun h0 => ?_) (fun g hg u => ?_) hg ⟨hS, hN⟩
  · simp only [AV.lts, Bool.and_eq_true] at h0
    exact ⟨hS.gl h0.1, hN.gl h0.2.1⟩
  obtain ⟨hS, hN⟩ := u
  have nx := hS.na
  have lx := hS.len
  have ny := hN.na
  have iy := hN.cell
  have ly := hN.len
  have hG1 : Good (g ++ [⟨.tip false, .vals [y]⟩]) := good_app hg rfl
  have ew := width_g hG1 (hS.app _) hll
  unfold layE at he ⊢
  cases hok : L.all okS with
  | false =>
    rw [hok] at ew
    simp only [Bool.false_eq_true, if_false] at ew
    rw [if_neg (by simp)]
    rcases hN.shape with rfl | ⟨_, _, _, rfl⟩ | ⟨_, _, _, rfl⟩
    all_goals
      simp (maxDischargeDepth := 9) -implicitDefEqProofs only [push_cast, simprocAttr, M35, nadd1, nadd2, nadd3, nadd4, nadd5, nadd6, nadd7, nadd8, nadd9, nadd10, nadd11, nadd12, nx, lx, ny, iy, ly, ew]
      exact quiet_i
  | true =>
    rw [hok, if_pos rfl] at ew
    by_cases hl : L.length = V.length
    · rw [if_pos ⟨rfl, hl⟩]
      rw [hok, if_pos ⟨rfl, hl⟩] at he
      have hf : ¬ fitB (L.map Int.toNat) V = true := fun e => he (by rw [if_pos e])
      rw [if_neg hf]
      rw [fitB_iff] at hf
      obtain ⟨eL, hb⟩ := okS_szI hok
      obtain ⟨Ls, hLs⟩ : ∃ Ls, L.map Int.toNat = Ls := ⟨_, rfl⟩
      rw [hLs] at eL hb hf
      have hlen : Ls.length = V.length := by rw [← hl, eL, len_szI]
      rw [eL, len_szI] at lx hll
      rw [eL] at hS
      rw [eL, sumS_szI] at ew
      have h8 := sum_le8 hb
      have hG3 : Good (g ++ [⟨.tip false, .vals [y]⟩, ⟨.tip false, .ints .i64 [0]⟩, ⟨.tip false, .ints .u8 (List.replicate Ls.sum 0)⟩]) := good_app hg rfl
      obtain ⟨X, ws, ⟨⟨D, hX⟩, hws⟩, ec⟩ := cutg_bad (c0 := g.length) (c1 := g.length + 1) (B := g.length + 2) (D0 := List.replicate Ls.sum 0) hG3 (hS.app _) hll (by rw [List.getElem?_append_right (by omega)]; simp) (by rw [List.getElem?_append_right (by omega)]; simp) (by rw [List.getElem?_append_right (by omega)]; simp) (hN.app _) (by omega) hlen (by simp) hb hV (by omega) (by omega) hf
      have hset : X = g ++ [(⟨.tip false, .vals [y]⟩ : ABlk), ⟨.tip false, .ints .i64 [20]⟩, ⟨.tip false, .ints .u8 D⟩] := by
        rw [hX, List.set_append_right _ _ (by omega), List.set_append_right _ _ (by omega), show g.length + 2 - g.length = 2 by omega, show g.length + 1 - g.length = 1 by omega]
        rfl
      rw [hset] at ec
      have hwd : wadd g.length [] ws = [] := wadd_ge fun b hb => by have := hws b hb; omega
      obtain ⟨N, hNN⟩ : ∃ N, Ls.sum = N := ⟨_, rfl⟩
      rw [hNN] at ew ec h8
      obtain ⟨n, hn⟩ : ∃ n, Ls.length = n := ⟨_, rfl⟩
      rw [← hlen] at ly
      rw [hn] at lx ly hll h8
      have hfl : (List.replicate N [(0 : Int)]).flatten = List.replicate N 0 := by simp
      have k4 : N ≤ 281474976710656 := by omega
      have k1 : (N : Int) < 9223372036854775808 := by omega
      have k2 : 1 * N ≤ 281474976710656 := by omega
      have k3 : N < 9223372036854775808 := by omega
      rcases hN.shape with rfl | ⟨_, _, _, rfl⟩ | ⟨_, _, _, rfl⟩
      all_goals
        simp (maxDischargeDepth := 9) -implicitDefEqProofs only [push_cast, simprocAttr, M35, nadd1, nadd2, nadd3, nadd4, nadd5, nadd6, nadd7, nadd8, nadd9, nadd10, nadd11, nadd12, nx, lx, ny, iy, ly, ew, hfl, k4, k1, k2, k3, ec, hwd]
        exact quiet_i
    · rw [if_neg (fun e => hl e.2)]
      obtain ⟨n, hn⟩ : ∃ n, L.length = n := ⟨_, rfl⟩
      obtain ⟨m, hm⟩ : ∃ n, V.length = n := ⟨_, rfl⟩
      rw [hn] at lx
      rw [hm] at ly
      have hne : ¬ (n : Int) = (m : Int) := by omega
      rcases hN.shape with rfl | ⟨_, _, _, rfl⟩ | ⟨_, _, _, rfl⟩
      all_goals
        simp (maxDischargeDepth := 9) -implicitDefEqProofs only [push_cast, simprocAttr, M35, nadd1, nadd2, nadd3, nadd4, nadd5, nadd6, nadd7, nadd8, nadd9, nadd10, nadd11, nadd12, nx, lx, ny, iy, ly, ew, hne]
        exact quiet_i
theorem lay_g (hg : Good h) (hS : IV .i64 h x L) (hN : IV .u64 h y V) (hll : L.length < 1000000) (hl2 : V.length < 1000000) (hV : ∀ v ∈ V, 0 ≤ v ∧ v < 18446744073709551616) :
    ∃ v js, W CP 35 [x, y] h = some (.tup [v, .int .i64 (layE L V)], h ++ js, []) ∧ BV (h ++ js) v (layD L V) ∧ Good (h ++ js) := by
  by_cases he : layE L V = 0
  · have he' := he
    unfold layE at he'
    by_cases hc : L.all okS = true ∧ L.length = V.length
    · rw [if_pos hc] at he'
      have hf : fitB (L.map Int.toNat) V = true := by
        by_cases hf : fitB (L.map Int.toNat) V = true
        · exact hf
        · rw [if_neg hf] at he'; exact absurd he' (by decide)
      obtain ⟨eL, hb⟩ := okS_szI hc.1
      unfold layD
      rw [if_pos he, he]
      obtain ⟨Ls, hLs⟩ : ∃ Ls, L.map Int.toNat = Ls := ⟨_, rfl⟩
      rw [hLs] at eL hb hf ⊢
      have hlen : Ls.length = V.length := by rw [← hc.2, eL, len_szI]
      rw [eL] at hS
      have := layg_ok hg hS hN (by rw [hlen]; exact hl2) hlen hb hV ((fitB_iff _ _).1 hf)
      refine ⟨_, _, this, ⟨layB_byt _ _, Or.inr ⟨h.length + 2, 0, Ls.sum, .tip false, layB Ls V, false, ?_, Or.inr ⟨_, rfl⟩, by omega, by rw [List.drop_zero, List.take_length], Or.inl ⟨by rw [layB_len _ _ hlen], by rw [layB_len _ _ hlen]; exact Nat.le_refl _⟩⟩⟩, good_app hg rfl⟩
      rw [List.getElem?_append_right (by omega)]; simp
    · rw [if_neg hc] at he'; exact absurd he' (by decide)
  · refine ⟨.nils, [], by rw [List.append_nil]; exact layg_bad hg hS hN hll hl2 hV he, ?_, by rw [List.append_nil]; exact hg⟩
    unfold layD
    rw [if_neg he]
    exact BV.nil _
/-- What ref03.Lay answers. -/
def LayR (e : Int) (D : List Int) (H : AHeap) (r : AV) : Prop := ∃ v, r = .tup [v, .int .i64 e] ∧ BV H v D
theorem LayR.up {e : Int} {D : List Int} (h js : AHeap) (r : AV) (b : LayR e D h r) : LayR e D (h ++ js) r := by
  obtain ⟨v, q, u⟩ := b; exact ⟨v, q, u.app js⟩
theorem BV.down {h js : AHeap} {v : AV} {D : List Int} (u : BV (h ++ js) v D) (hv : v.lt h.length = true) : BV h v D := by
  obtain ⟨hB, k | ⟨b, o, c, st, l, mn, e, hs, hl, hd, k⟩⟩ := u
  · exact ⟨hB, Or.inl k⟩
  · have hb : b < h.length := by
      rcases k with ⟨rfl, _⟩ | rfl <;> simpa [AV.lt] using hv
    rw [List.getElem?_append_left hb] at e
    exact ⟨hB, Or.inr ⟨b, o, c, st, l, mn, e, hs, hl, hd, k⟩⟩
theorem LayR.down {e : Int} {D : List Int} (h js : AHeap) (r : AV) (hv : r.lt h.length = true) (b : LayR e D (h ++ js) r) : LayR e D h r := by
  obtain ⟨v, rfl, u⟩ := b
  simp only [AV.lt, AV.lts, Bool.and_eq_true] at hv
  exact ⟨v, rfl, u.down hv.1⟩
set_option maxHeartbeats 4000000 in
theorem rlay_c (hg : Good h) (hS : IV .i64 h x L) (hN : IV .u64 h y V) (hll : L.length < 10000) (hl2 : V.length < 10000) (hV : ∀ v ∈ V, 0 ≤ v ∧ v < 18446744073709551616) :
    ∃ r js, W CP 36 [x, y] h = some (r, h ++ js, []) ∧ LayR (layE L V) (layD L V) (h ++ js) r ∧ Good (h ++ js) ∧ (r.lt h.length = true → js = []) := by
  refine W_any (m := M36) (fun g => IV .i64 g x L ∧ IV .u64 g y V) (LayR (layE L V) (layD L V)) (fun _ => rfl) rfl rfl good_gl (fun h0 => ?_) LayR.up LayR.down (fun g hg u => ?_) hg ⟨hS, hN⟩
  · simp only [AV.lts, Bool.and_eq_true] at h0
    exact ⟨hS.gl h0.1, hN.gl h0.2.1⟩
  obtain ⟨hS, hN⟩ := u
  have nx := hS.na
  have lx := hS.len
  have ny := hN.na
  have ly := hN.len
  have ew := rwidth_c hg hS (by omega)
  unfold layD
  cases hok : L.all okS with
  | false =>
    rw [hok] at ew
    simp only [Bool.false_eq_true, if_false] at ew
    have he : layE L V = 1 := by unfold layE; rw [if_neg (by simp [hok])]
    rw [he, if_neg (by decide)]
    simp (maxDischargeDepth := 9) -implicitDefEqProofs only [push_cast, simprocAttr, M36, nadd1, nadd2, nadd3, nadd4, nadd5, nadd6, nadd7, nadd8, nadd9, nadd10, nadd11, nadd12, nx, lx, ny, ly, ew]
    exact ⟨⟨.nils, rfl, BV.nil _⟩, Keeps.refl _ _⟩
  | true =>
    rw [hok, if_pos rfl] at ew
    have hs0 := (sumS_bound hok).1
    obtain ⟨w, hw⟩ : ∃ w, sumS L = w := ⟨_, rfl⟩
    rw [hw] at ew hs0
    have hnw : ¬ w < 0 := by omega
    obtain ⟨n, hn⟩ : ∃ n, L.length = n := ⟨_, rfl⟩
    obtain ⟨m, hm⟩ : ∃ n, V.length = n := ⟨_, rfl⟩
    rw [hn] at lx hll
    rw [hm] at ly hl2
    by_cases hl : n = m
    · subst hl
      obtain ⟨eL, hb⟩ := okS_szI hok
      have hE : layE L V = if fitB (L.map Int.toNat) V = true then 0 else 20 := by unfold layE; rw [if_pos ⟨hok, by omega⟩]
      rw [hE]
      obtain ⟨Ls, hLs⟩ : ∃ Ls, L.map Int.toNat = Ls := ⟨_, rfl⟩
      rw [hLs] at eL hb ⊢
      clear hLs hE
      have hlen : Ls.length = n := by rw [← hn, eL, len_szI]
      have hlV : Ls.length = V.length := by omega
      rw [eL] at hS
      simp (maxDischargeDepth := 9) -implicitDefEqProofs only [push_cast, simprocAttr, M36, nadd1, nadd2, nadd3, nadd4, nadd5, nadd6, nadd7, nadd8, nadd9, nadd10, nadd11, nadd12, nx, lx, ny, ly, ew, hnw]
      refine wp_kRes (wp_kSeq (wp_kBlock ?_))
      refine wp_loop (fun k a h' ws => ∃ (i : Nat) (o : AV), k = n - i ∧ i ≤ n ∧ a = [(0, x), (1, y), (6, o), (7, .int .i64 (i : Int))] ∧ T1 h' o (layB (Ls.take i) (V.take i)) g.length ∧ (∀ (i' s : Nat) (v : Int), i' < i → Ls[i']? = some s → V[i']? = some v → v < 256 ^ s) ∧ Keeps g h' none ∧ ws = []) n ?_ ?_
      · refine ⟨0, .nils, by omega, by omega, ?_, ?_, by omega, Keeps.refl _ _, rfl⟩
        · simp (maxDischargeDepth := 9) -implicitDefEqProofs only [push_cast, simprocAttr, nx, ny]; try rfl
        · rw [List.take_zero, List.take_zero, layB_nil]; exact Or.inl ⟨rfl, rfl⟩
      · rintro k aa h' ws ⟨i, o, rfl, hi, rfl, to, hfi, kh, rfl⟩
        have v1 : IntKind.i64.wrap ((i : Int) + 1) = (i : Int) + 1 := wr_i64 _ (by omega) (by omega)
        have no := na_slen (T1_len to)
        by_cases hlt : i < n
        · have hlt' : (i : Int) < (n : Int) := by omega
          obtain ⟨s, hs⟩ : ∃ s, Ls[i]? = some s := ⟨_, List.getElem?_eq_getElem (by omega)⟩
          obtain ⟨v, hv⟩ : ∃ v, V[i]? = some v := ⟨_, List.getElem?_eq_getElem (by omega)⟩
          have hsI : (szI Ls)[i]? = some (s : Int) := by simp [hs]
          obtain ⟨s1, s8⟩ := hb s (List.mem_of_getElem? hs)
          obtain ⟨v0, v9⟩ := hV v (List.mem_of_getElem? hv)
          obtain ⟨p, ea1, ea2, _⟩ := (hS.kept kh).at hsI
          obtain ⟨q, eb1, eb2, _⟩ := (hN.kept kh).at hv
          have ed := digits_c v0 v9 s1 s8 h'
          have tl : (Ls.take i).length = (V.take i).length := by rw [List.length_take, List.length_take]; omega
          have hA := layB_len (Ls.take i) (V.take i) tl
          have s2 := sum_take_le Ls i
          have s3 := sum_le8 hb
          by_cases hff : v < 256 ^ s
          · rw [decide_eq_true hff] at ed
            have kb := keepsJ kh [⟨.tip false, .ints .u8 (dg s v)⟩] rfl
            have hn3 : newCells (h' ++ [⟨.tip false, .ints .u8 (dg s v)⟩]) (.ints .u8 [0]) (.sl h'.length 0 s s) = some (.ints .u8 (dg s v)) := by
              have := sl_cells (c := s) (end_get h' ⟨.tip false, .ints .u8 (dg s v)⟩ [])
              rw [dg_len] at this
              exact this
            have to' := to.keep (keepsN (Keeps.app h' [⟨.tip false, .ints .u8 (dg s v)⟩] none rfl))
            obtain ⟨o2, H2, ws2, ea, t2, hw2, k2⟩ := app1 to' (dg_len s v) (by rw [hA]; omega) kb.2.1
            have kk : Keeps g H2 none := keepsO hg kb k2 to'.blk
            have hwa : wadd g.length [] ws2 = [] := wadd_ge hw2
            have no2 := na_slen (T1_len t2)
            have hfn : ∀ (i' s : Nat) (v : Int), i' < i + 1 → Ls[i']? = some s → V[i']? = some v → v < 256 ^ s := by
              intro i' s' v' h1 h2 h3
              by_cases h4 : i' < i
              · exact hfi i' s' v' h4 h2 h3
              · obtain rfl : i' = i := by omega
                rw [hs] at h2; rw [hv] at h3; cases h2; cases h3; exact hff
            have hsp : layB (Ls.take i) (V.take i) ++ dg s v = layB (Ls.take (i + 1)) (V.take (i + 1)) := by
              rw [List.take_add_one, List.take_add_one, hs, hv]
              simp only [Option.toList_some]
              rw [layB_snoc _ _ _ _ tl]
            rw [hsp] at t2
            simp (maxDischargeDepth := 9) -implicitDefEqProofs only [push_cast, simprocAttr, nadd1, nadd2, nadd3, nadd4, nadd5, nadd6, nadd7, nadd8, nadd9, nadd10, nadd11, nadd12, hlt', v1, nx, lx, ny, ly, no, ↓uia_eq, ea1, ↓uld_eq 29, ↓uld_eq 33, ea2, eb1, eb2, ed, hn3, ea, hwa, no2]
            refine loop_next (n - (i + 1)) (by omega) ⟨i + 1, o2, rfl, by omega, ?_, t2, hfn, kk, rfl⟩
            simp (maxDischargeDepth := 9) -implicitDefEqProofs only [push_cast, simprocAttr, nx, ny, no2]; try simp
          · rw [decide_eq_false hff] at ed
            have hnf : ¬ fitB Ls V = true := by
              rw [fitB_iff]
              intro hh
              exact hff (hh i s v hs hv)
            rw [if_neg hnf, if_neg (by decide)]
            simp (maxDischargeDepth := 9) -implicitDefEqProofs only [push_cast, simprocAttr, nadd1, nadd2, nadd3, nadd4, nadd5, nadd6, nadd7, nadd8, nadd9, nadd10, nadd11, nadd12, hlt', v1, nx, lx, ny, ly, no, ↓uia_eq, ea1, ↓uld_eq 29, ↓uld_eq 33, ea2, eb1, eb2, ed]
            exact ⟨⟨.nils, rfl, BV.nil _⟩, keepsJ kh _ rfl⟩
        · have hi2 : i = n := by omega
          subst hi2
          have hnl : ¬ (i : Int) < (i : Int) := by omega
          have hf : fitB Ls V = true := (fitB_iff _ _).2 fun i' s' v' h2 h3 => hfi i' s' v' (by have := (List.getElem?_eq_some_iff.1 h2).1; omega) h2 h3
          rw [if_pos hf, if_pos rfl]
          rw [List.take_of_length_le (by omega), List.take_of_length_le (by omega)] at to
          simp (maxDischargeDepth := 9) -implicitDefEqProofs only [push_cast, simprocAttr, nadd1, nadd2, nadd3, nadd4, nadd5, nadd6, nadd7, nadd8, nadd9, nadd10, nadd11, nadd12, hnl, nx, lx, ny, ly, no]
          exact ⟨⟨o, rfl, T1_bv to (layB_byt _ _)⟩, kh⟩
    · have he : layE L V = 1 := by unfold layE; rw [if_neg (by rintro ⟨_, e⟩; omega)]
      rw [he, if_neg (by decide)]
      have hne : ¬ (m : Int) = (n : Int) := by omega
      simp (maxDischargeDepth := 9) -implicitDefEqProofs only [push_cast, simprocAttr, M36, nadd1, nadd2, nadd3, nadd4, nadd5, nadd6, nadd7, nadd8, nadd9, nadd10, nadd11, nadd12, nx, lx, ny, ly, ew, hnw, hne]
      exact ⟨⟨.nils, rfl, BV.nil _⟩, Keeps.refl _ _⟩
end
end Go.Proofs.YtimlhgpjmjmjhaaW.AI.B
namespace Go.Proofs.YtimlhgpjmjmjhaaW.AI.B
open Go Go.Proofs.YtimlhgpjmjmjhaaW.AI Go.Proofs.YtimlhgpjmjmjhaaW.AI.Oct Go.RowKit
set_option maxRecDepth 100000
set_option linter.unusedSimpArgs false
set_option linter.unusedVariables false
set_option linter.unusedSectionVars false
/-- Surely nil, or surely not. -/
def NM (x : AV) : Prop := ∀ b o n e, x ≠ .gsl b o n e true
theorem NM.off {x : AV} (h : NM x) (k : Nat) : NM (offX x k) := by
  cases x with
  | gsl b o n e mn =>
    intro b' o' n' e' he
    simp only [offX, AV.gsl.injEq] at he
    exact h b o n e (by rw [he.2.2.2.2])
  | _ => intro b' o' n' e' he; simp [offX] at he
set_option maxHeartbeats 4000000 in
theorem cut8g_ok {H : AHeap} {c : Nat} {sv x : AV} {Ls : List Nat} {D : List Int} (hg : Good H) (hS : IV .i64 H sv (szI Ls)) (a0 : H[c]? = some ⟨.tip false, .vals [.nils]⟩) (hx : BV H x D) (hnm : NM x) (hne : Ls ≠ []) (hl : Ls.sum ≤ D.length) (hok : ∀ s ∈ Ls, 1 ≤ s ∧ s ≤ 8) (hLl : Ls.length < 900000) :
    ∃ lv H' ws, W CP 62 [sv, x, .fn 67 [.ptr c 0]] H = some (.tup [], H', ws) ∧ H'[c]? = some ⟨.tip false, .vals [lv]⟩ ∧ Gs8At H' lv (takeV Ls D) ∧ (∃ p, blkOf lv = some p ∧ H.length ≤ p) ∧ Good H' ∧ (∀ b ∈ ws, b = c) ∧ H.length ≤ H'.length ∧ (∀ q z, H[q]? = some z → q ≠ c → H'[q]? = some z) := by
  have hc := (List.getElem?_eq_some_iff.1 a0).1
  have hlen : (szI Ls).length = Ls.length := by simp
  have nS := hS.na
  have lS := hS.len
  rw [hlen] at lS
  have key : Wp (xbody (W CP) M62 [sv, x, .fn 67 [.ptr c 0]] H) fun r => r.1 = .tup [] ∧ (∃ lv, r.2.1[c]? = some ⟨.tip false, .vals [lv]⟩ ∧ Gs8At r.2.1 lv (takeV Ls D) ∧ (∃ p, blkOf lv = some p ∧ H.length ≤ p)) ∧ Good r.2.1 ∧ (∀ b ∈ r.2.2, b = c) ∧ c ∈ r.2.2 ∧ H.length ≤ r.2.1.length ∧ (∀ q z, H[q]? = some z → q ≠ c → r.2.1[q]? = some z) := by
    have hnx := na_slen hx.len
    simp (maxDischargeDepth := 9) -implicitDefEqProofs only [push_cast, simprocAttr, M62, hnx, nS, lS]
    refine wp_kRes (wp_kBlock ?_)
    refine wp_loop (fun k a h' ws => ∃ i : Nat, k = Ls.length - i ∧ i ≤ Ls.length ∧ a = [(1, offX x (Ls.take i).sum), (2, .fn 67 [.ptr c 0]), (8, sv), (9, .int .i64 (Ls.length : Int)), (10, .int .i64 (i : Int))] ∧
      (∃ lv, h'[c]? = some ⟨.tip false, .vals [lv]⟩ ∧ Gs8At h' lv (takeV (Ls.take i) D) ∧ (∀ p, blkOf lv = some p → H.length ≤ p) ∧ (0 < i → ∃ p, blkOf lv = some p)) ∧ Good h' ∧ (∀ b ∈ ws, b = c) ∧ (0 < i → c ∈ ws) ∧ H.length ≤ h'.length ∧ (∀ q z, H[q]? = some z → q ≠ c → h'[q]? = some z)) Ls.length ?_ ?_
    · refine ⟨0, by omega, by omega, ?_, ⟨.nils, a0, gs8_nil _, by simp [blkOf], by omega⟩, hg, by simp, by omega, Nat.le_refl _, fun q z e _ => e⟩
      simp (maxDischargeDepth := 9) -implicitDefEqProofs only [push_cast, simprocAttr, List.take_zero, List.sum_nil, offX_0, hnx, nS]
    · rintro k aa h' ws ⟨i, rfl, hi, rfl, ⟨lv, g0, gN, gp, gi⟩, gG, hws, hcw, gl, gk⟩
      have v1 : IntKind.i64.wrap ((i : Int) + 1) = (i : Int) + 1 := wr_i64 _ (by omega) (by omega)
      by_cases hlt : i < Ls.length
      · have hlt' : (i : Int) < (Ls.length : Int) := by omega
        obtain ⟨s, hs⟩ : ∃ s, Ls[i]? = some s := ⟨_, List.getElem?_eq_getElem hlt⟩
        have hsI : (szI Ls)[i]? = some (s : Int) := by simp [hs]
        obtain ⟨s1, s8⟩ := hok s (List.mem_of_getElem? hs)
        have e1 := sum_take_succ hs
        have e2 := sum_take_le Ls (i + 1)
        have gS : IV .i64 h' sv (szI Ls) := hS.keep fun q z e hz => gk q z e (by rintro rfl; rw [a0] at e; cases e; obtain ⟨l, hl⟩ := hz; cases hl)
        obtain ⟨pp, ea1, ea2, _⟩ := gS.at hsI
        have hx' : BV h' x D := hx.mono fun q z e hz _ => gk q z e (by rintro rfl; rw [a0] at e; cases e; obtain ⟨l, hl⟩ := hz; cases hl)
        have htk : Ls.take (i + 1) = Ls.take i ++ [s] := by rw [List.take_add_one, hs]; rfl
        have htv : takeV (Ls.take (i + 1)) D = takeV (Ls.take i) D ++ [be ((D.drop (Ls.take i).sum).take s)] := by rw [htk, takeV_snoc]
        obtain ⟨o, ho⟩ : ∃ o, (Ls.take i).sum = o := ⟨_, rfl⟩
        rw [ho] at htv e1
        have hxo := hx'.off (k := o) (by omega)
        have gne : blkOf lv ≠ some c := fun e => by have := gp c e; omega
        obtain ⟨hB, ⟨_, hnil⟩ | ⟨b, oo, cc, st, l, mn, he, hst, hol, hdl, hk⟩⟩ := hxo
        · have := congrArg List.length hnil
          rw [List.length_drop, List.length_nil] at this
          omega
        rw [List.length_drop] at hol hk
        have hM : s ≤ D.length - o := by omega
        have hk : (offX x o = .sl b oo (D.length - o) cc ∧ D.length - o ≤ cc) ∨ offX x o = .gsl b oo (D.length - o) 1 false := by
          rcases hk with k | k
          · exact Or.inl k
          · cases mn with
            | false => exact Or.inr k
            | true => exact absurd k (hnm.off o _ _ _ _)
        have hpart : (l.drop oo).take s = (D.drop o).take s := by
          have h1 := congrArg (List.take s) hdl
          rw [List.take_take, Nat.min_eq_left (by rw [List.length_drop]; omega)] at h1
          exact h1
        have hBp : Byt ((l.drop oo).take s) := by rw [hpart]; exact fun z hz => hB z (List.mem_of_mem_take hz)
        have hlenp : ((l.drop oo).take s).length = s := by simp; omega
        have hsz : (takeV (Ls.take i) D).length < 900000 := by rw [takeV_len, List.length_take]; omega
        have hpb := bytAt_sl (c := s) he hst.nd (by omega) hBp
        obtain ⟨lv', H', ws', eT, t0, tN, ⟨p, tp, tl⟩, tL, tG, tw, tcw, tk⟩ := take1_c (k := .int .i64 (i : Int)) gG g0 gN gne hpb hlenp s1 s8 hsz
        have hm0 : (0 : Nat) ≤ s := by omega
        have hxs : offX x (o + s) = offX (offX x o) s := (offX_off x o s).symm
        have kst : ∀ q z, H[q]? = some z → q ≠ c → (∀ j, blkOf lv = some j → z.st ≠ .old j) ∧ blkOf lv ≠ some q := by
          intro q z hz hqc
          refine ⟨fun j hj => good_low hg hz (gp j hj), fun hj => ?_⟩
          have := gp q hj
          have := (List.getElem?_eq_some_iff.1 hz).1
          omega
        have post : (∃ lv, H'[c]? = some ⟨.tip false, .vals [lv]⟩ ∧ Gs8At H' lv (takeV (Ls.take (i + 1)) D) ∧ (∀ p, blkOf lv = some p → H.length ≤ p) ∧ (0 < i + 1 → ∃ p, blkOf lv = some p)) ∧ Good H' ∧ (∀ b ∈ wadd H.length ws ws', b = c) ∧ (0 < i + 1 → c ∈ wadd H.length ws ws') ∧ H.length ≤ H'.length ∧ (∀ q z, H[q]? = some z → q ≠ c → H'[q]? = some z) := by
          refine ⟨⟨lv', t0, ?_, fun p' hp' => ?_, fun _ => ⟨p, tp⟩⟩, tG, fun b hb => ?_, fun _ => mem_wadd_of tcw hc, by omega, fun q z hz hq => ?_⟩
          · rw [htv, ← hpart]; exact tN
          · rw [tp] at hp'; cases hp'; omega
          · rcases wadd_mem6 hb with hb | ⟨hb, hl⟩
            · exact hws b hb
            · rcases tw b hb with e | e
              · exact e
              · have := gp b e; omega
          · exact tk q z (gk q z hz hq) hq (kst q z hz hq).1 (kst q z hz hq).2
        rw [ho]
        rcases hk with ⟨hk, hcc⟩ | hk
        · have hcs : s ≤ cc := by omega
          have hsn : s ≤ D.length - o := by omega
          have hxn : offX x (o + s) = .sl b (oo + s) (D.length - o - s) (cc - s) := by rw [hxs, hk]; rfl
          rw [hk]
          simp (maxDischargeDepth := 9) -implicitDefEqProofs only [push_cast, simprocAttr, hlt, hlt', v1, nS, lS, ↓uia_eq, ea1, ↓uld_eq 13, ea2, hm0, hcs, hsn, hcc, Nat.sub_zero, Nat.mul_one, Nat.add_zero, Nat.zero_add, eT]
          refine loop_next (Ls.length - (i + 1)) (by omega) ⟨i + 1, rfl, by omega, ?_, post⟩
          rw [e1, hxn]
          simp (maxDischargeDepth := 9) -implicitDefEqProofs only [push_cast, simprocAttr, nS]; try simp
        · have hsn : s ≤ D.length - o := by omega
          have hxn : offX x (o + s) = .gsl b (oo + s) (D.length - o - s) 1 false := by rw [hxs, hk]; rfl
          rw [hk]
          simp (maxDischargeDepth := 9) -implicitDefEqProofs only [push_cast, simprocAttr, hlt, hlt', v1, nS, lS, ↓uia_eq, ea1, ↓uld_eq 13, ea2, hm0, hsn, Nat.sub_zero, Nat.mul_one, Nat.add_zero, Nat.zero_add, eT]
          refine loop_next (Ls.length - (i + 1)) (by omega) ⟨i + 1, rfl, by omega, ?_, post⟩
          rw [e1, hxn]
          simp (maxDischargeDepth := 9) -implicitDefEqProofs only [push_cast, simprocAttr, nS]; try simp
      · have hi2 : i = Ls.length := by omega
        subst hi2
        have hnl : ¬ (Ls.length : Int) < (Ls.length : Int) := by omega
        have hpos : 0 < Ls.length := List.length_pos_iff.2 hne
        rw [List.take_length] at gN
        simp (maxDischargeDepth := 9) -implicitDefEqProofs only [push_cast, simprocAttr]
        obtain ⟨p, hp⟩ := gi hpos
        exact ⟨⟨lv, g0, gN, p, hp, gp p hp⟩, gG, hws, hcw hpos, gl, gk⟩
  obtain ⟨⟨r, H', ws⟩, e, rfl, ⟨lv, g0, gN, p, hp, hpl⟩, gG, hws, hcw, gl, gk⟩ := key
  refine ⟨lv, H', ws, ?_, g0, gN, ⟨p, hp, hpl⟩, gG, hws, gl, gk⟩
  rw [W_body (m := M62) rfl rfl (by simp [AV.lts, AV.lt]) e, show (M62).trim = true from rfl, if_pos rfl]
  refine congrArg some (trim_no hcw g0 ?_)
  have hlv : lv.lt H.length = false := by
    rcases gN with ⟨rfl, _⟩ | ⟨p', mn, o, rfl, _⟩
    · cases hp
    · simp only [blkOf, Option.some.injEq] at hp
      simp [AV.lt]; omega
  simp [ACells.lt, AV.lts, hlv]
/-- A row of its own, or nothing. -/
def RowN (H : AHeap) (v : AV) (D : List Int) (n : Nat) : Prop := (v = .nils ∧ D = []) ∨ ∃ p, n ≤ p ∧ H[p]? = some ⟨.tip false, .ints .u8 D⟩ ∧ ((v = .sl p 0 0 0 ∧ D = []) ∨ v = .gsl p 0 D.length 1 false)
theorem RowN.bv {H : AHeap} {v : AV} {D : List Int} {n : Nat} (r : RowN H v D n) (hB : Byt D) : BV H v D := by
  rcases r with k | ⟨p, _, hp, ⟨rfl, rfl⟩ | rfl⟩
  · exact ⟨hB, Or.inl k⟩
  · exact ⟨hB, Or.inr ⟨p, 0, 0, .tip false, [], false, hp, Or.inr ⟨_, rfl⟩, by simp, by simp, Or.inl ⟨rfl, Nat.le_refl _⟩⟩⟩
  · exact ⟨hB, Or.inr ⟨p, 0, 0, .tip false, D, false, hp, Or.inr ⟨_, rfl⟩, by omega, by rw [List.drop_zero, List.take_length], Or.inr rfl⟩⟩
theorem RowN.len {H : AHeap} {v : AV} {D : List Int} {n : Nat} (r : RowN H v D n) : slen v = some D.length := by
  rcases r with ⟨rfl, rfl⟩ | ⟨p, _, hp, ⟨rfl, rfl⟩ | rfl⟩ <;> rfl
theorem RowN.keep {H H' : AHeap} {v : AV} {D : List Int} {n : Nat} (r : RowN H v D n) (hm : ∀ (q : Nat) (z : ABlk), H[q]? = some z → H'[q]? = some z) : RowN H' v D n := by
  rcases r with k | ⟨p, hn, hp, k⟩
  · exact Or.inl k
  · exact Or.inr ⟨p, hn, hm _ _ hp, k⟩
theorem RowN.le {H : AHeap} {v : AV} {D : List Int} {n m : Nat} (r : RowN H v D n) (h : m ≤ n) : RowN H v D m := by
  rcases r with k | ⟨p, hn, hp, k⟩
  · exact Or.inl k
  · exact Or.inr ⟨p, Nat.le_trans h hn, hp, k⟩
theorem clone_g {h : AHeap} {x : AV} {D : List Int} (hg : Good h) (hx : BV h x D) (hnm : NM x) (hl : D.length < 1000000000) : ∃ v js, W CP 69 [x] h = some (v, h ++ js, []) ∧ RowN (h ++ js) v D h.length ∧ js.all notOld = true := by
  have ea := app_fresh (h := h) hl
  have hn := (hx.app [⟨.tip false, .ints .u8 []⟩]).new
  rcases hx.2 with ⟨rfl, rfl⟩ | ⟨b, o, c, st, l, mn, e, hs, hol, hdl, hk⟩
  · refine ⟨.nils, [], ?_, Or.inl ⟨rfl, rfl⟩, rfl⟩
    rw [List.append_nil]
    refine W_val (m := M69) (fun _ => rfl) rfl rfl rfl ?_ h
    simp (maxDischargeDepth := 9) -implicitDefEqProofs only [push_cast, simprocAttr, M69, nadd1, nadd2, nadd3, nadd4, nadd5, nadd6, nadd7, nadd8, nadd9, nadd10, nadd11, nadd12]
  · have hx0 : AV.lts 0 [x] = false := by
      rcases hk with ⟨rfl, _⟩ | rfl <;> simp [AV.lts, AV.lt]
    have hk : (x = .sl b o D.length c ∧ D.length ≤ c) ∨ x = .gsl b o D.length 1 false := by
      rcases hk with k | rfl
      · exact Or.inl k
      · cases mn with
        | false => exact Or.inr rfl
        | true => exact absurd rfl (hnm _ _ _ _)
    by_cases hD : D = []
    · rw [if_pos hD] at ea
      have key : xbody (W CP) M69 [x] h = some (.sl h.length 0 0 0, h ++ [⟨.tip false, .ints .u8 []⟩], []) := by
        rcases hk with ⟨rfl, _⟩ | rfl
        all_goals simp (maxDischargeDepth := 9) -implicitDefEqProofs only [push_cast, simprocAttr, M69, nadd1, nadd2, nadd3, nadd4, nadd5, nadd6, nadd7, nadd8, nadd9, nadd10, nadd11, nadd12, hn, ea]
      refine ⟨_, [⟨.tip false, .ints .u8 []⟩], ?_, Or.inr ⟨h.length, Nat.le_refl _, by simp [hD], Or.inl ⟨rfl, hD⟩⟩, rfl⟩
      rw [W_body (m := M69) rfl rfl hx0 key, show (M69).trim = true from rfl, if_pos rfl, trim_addr (by simp [AV.lt])]
    · rw [if_neg hD] at ea
      have key : xbody (W CP) M69 [x] h = some (.gsl (h.length + 1) 0 D.length 1 false, h ++ [⟨.tip false, .ints .u8 []⟩, ⟨.tip false, .ints .u8 D⟩], []) := by
        rcases hk with ⟨rfl, _⟩ | rfl
        all_goals simp (maxDischargeDepth := 9) -implicitDefEqProofs only [push_cast, simprocAttr, M69, nadd1, nadd2, nadd3, nadd4, nadd5, nadd6, nadd7, nadd8, nadd9, nadd10, nadd11, nadd12, hn, ea]
      refine ⟨_, [⟨.tip false, .ints .u8 []⟩, ⟨.tip false, .ints .u8 D⟩], ?_, Or.inr ⟨h.length + 1, by omega, ?_, Or.inr rfl⟩, rfl⟩
      · rw [W_body (m := M69) rfl rfl hx0 key, show (M69).trim = true from rfl, if_pos rfl, trim_addr (by simp [AV.lt])]
      · rw [List.getElem?_append_right (by omega)]; simp
theorem gs8_iv {h : AHeap} {v : AV} {l : List Int} (g : Gs8At h v l) : IV .u64 h v l := by
  rcases g with ⟨rfl, rfl⟩ | ⟨p, mn, o, rfl, e⟩
  · exact IV.nil _ _
  · exact Or.inr ⟨p, 0, .tip o, l, mn, e, Or.inr ⟨o, rfl⟩, Nat.le_refl _, List.take_length, Or.inr rfl⟩
def takeE (L D : List Int) : Int := if L.all okS = true then (if sumS L ≤ (D.length : Int) then 0 else 4) else 1
section
variable {h : AHeap} {sv x : AV} {L D : List Int}
theorem take_bad (hg : Good h) (hS : IV .i64 h sv L) (hx : BV h x D) (hll : L.length < 1000000) (he : takeE L D ≠ 0) :
    W CP 37 [sv, x] h = some (.tup [.nils, .nils, .int .i64 (takeE L D)], h, []) := by
  refine W_bothB (m := M37) (fun g => IV .i64 g sv L ∧ BV g x D) (fun _ => rfl) rfl rfl rfl good_gl (fun h0 => ?_) (fun g hg u => ?_) hg ⟨hS, hx⟩
  · simp only [AV.lts, Bool.and_eq_true] at h0
    exact ⟨hS.gl h0.1, hx.gl h0.2.1⟩
  obtain ⟨hS, hx⟩ := u
  have nS := hS.na
  have nx := hx.na
  have lx := hx.len
  have ew := width_g hg hS hll
  unfold takeE at he ⊢
  cases hok : L.all okS with
  | false =>
    rw [hok] at ew
    simp only [Bool.false_eq_true, if_false] at ew ⊢
    simp (maxDischargeDepth := 9) -implicitDefEqProofs only [push_cast, simprocAttr, M37, nadd1, nadd2, nadd3, nadd4, nadd5, nadd6, nadd7, nadd8, nadd9, nadd10, nadd11, nadd12, nS, nx, lx, ew]
    exact quietB
  | true =>
    rw [hok, if_pos rfl] at ew
    rw [hok, if_pos rfl] at he
    rw [if_pos rfl]
    by_cases hs : sumS L ≤ (D.length : Int)
    · rw [if_pos hs] at he; exact absurd rfl he
    · rw [if_neg hs]
      obtain ⟨w, hw⟩ : ∃ w, sumS L = w := ⟨_, rfl⟩
      obtain ⟨n, hn⟩ : ∃ w, D.length = w := ⟨_, rfl⟩
      rw [hw] at ew hs
      rw [hn] at hs lx
      have hlt : (n : Int) < w := by omega
      simp (maxDischargeDepth := 9) -implicitDefEqProofs only [push_cast, simprocAttr, M37, nadd1, nadd2, nadd3, nadd4, nadd5, nadd6, nadd7, nadd8, nadd9, nadd10, nadd11, nadd12, nS, nx, lx, ew, hlt]
      exact quietB
/-- Where the new ones lie. -/
theorem W_anyN {C : Cfg} {f : Nat} {m : MFunc} {args : List AV} (I : AHeap → Prop) (R : Nat → AHeap → AV → Prop) (hp : ∀ h, C.prim f args h = none) (hm : C.mp f = some m) (ht : m.trim = true) (hg0 : Good C.gl) (hi0 : AV.lts 0 args = true → I C.gl)
    (up : ∀ n h js v, R n h v → R n (h ++ js) v) (down : ∀ n h js v, v.lt h.length = true → R n (h ++ js) v → R n h v) (base : ∀ n k h v, v.lt 0 = true → R n h v → R k h v)
    (e : ∀ g, Good g → I g → Wp (xbody (W C) m args g) fun r => R g.length r.2.1 r.1 ∧ Keeps g r.2.1 none ∧ r.2.2 = []) {h : AHeap} (hg : Good h) (hi : I h) :
    ∃ v js, W C f args h = some (v, h ++ js, []) ∧ R h.length (h ++ js) v ∧ Good (h ++ js) := by
  obtain ⟨⟨v, h', ws⟩, e1, r1, k1, rfl⟩ := e h hg hi
  obtain ⟨js, rfl⟩ := k1.behind
  have hG := k1.2.2 hg
  have body : ∀ {q : AV × AHeap × List Nat}, q = (v, h ++ js, []) → (∃ w js', some (trimR h.length q) = some (w, h ++ js', []) ∧ R h.length (h ++ js') w ∧ Good (h ++ js')) := by
    rintro q rfl
    cases hv : v.lt h.length with
    | false => exact ⟨v, js, by rw [big_trim hv], r1, hG⟩
    | true => exact ⟨v, [], by rw [trim_of rfl hv (by simp) hg, List.append_nil], by rw [List.append_nil]; exact down _ _ _ _ hv r1, by rw [List.append_nil]; exact hg⟩
  cases h0 : AV.lts 0 args with
  | false =>
    rw [W_body (hp h) hm h0 e1, ht, if_pos rfl]
    exact body rfl
  | true =>
    obtain ⟨⟨v2, h2, ws2⟩, e2, r2, k2, rfl⟩ := e C.gl hg0 (hi0 h0)
    obtain ⟨j2, rfl⟩ := k2.behind
    cases h3 : v2.lt 0 with
    | false =>
      rw [W_made (hp h) hm h0 e2 h3 e1, ht, if_pos rfl]
      exact body rfl
    | true =>
      refine ⟨v2, [], ?_, ?_, by rw [List.append_nil]; exact hg⟩
      · rw [List.append_nil]; exact W_pure hp hm h0 h3 e2 h
      · have a1 : R C.gl.length ([] ++ (C.gl ++ j2)) v2 := r2
        have a2 : R C.gl.length [] v2 := down _ [] _ _ h3 a1
        have := up _ [] h _ (base _ h.length _ _ h3 a2)
        rw [List.append_nil]; exact this
theorem cut8_all {H : AHeap} {c : Nat} {Ls : List Nat} (hg : Good H) (hS : IV .i64 H sv (szI Ls)) (a0 : H[c]? = some ⟨.tip false, .vals [.nils]⟩) (hx : BV H x D) (hnm : NM x) (hl : Ls.sum ≤ D.length) (hok : ∀ s ∈ Ls, 1 ≤ s ∧ s ≤ 8) (hLl : Ls.length < 900000) :
    ∃ lv H' ws, W CP 62 [sv, x, .fn 67 [.ptr c 0]] H = some (.tup [], H', ws) ∧ H'[c]? = some ⟨.tip false, .vals [lv]⟩ ∧ IV .u64 H' lv (takeV Ls D) ∧ Good H' ∧ (∀ b ∈ ws, b = c) ∧ H.length ≤ H'.length ∧ (∀ q z, H[q]? = some z → q ≠ c → H'[q]? = some z) := by
  by_cases hne : Ls = []
  · subst hne
    have nS := hS.na
    have lS := hS.len
    have nx := hx.na
    have hlen : (szI ([] : List Nat)).length = 0 := rfl
    rw [hlen] at lS
    refine ⟨.nils, H, [], ?_, a0, IV.nil _ _, hg, by simp, Nat.le_refl _, fun q z e _ => e⟩
    refine W_quietP (m := M62) rfl rfl (by simp [AV.lts, AV.lt]) rfl rfl hg ?_
    simp (maxDischargeDepth := 9) -implicitDefEqProofs only [push_cast, simprocAttr, M62, nS, nx, lS]
    refine wp_kRes (wp_kBlock ?_)
    refine wp_loop (fun k a h' ws => a = [(1, x), (2, .fn 67 [.ptr c 0]), (8, sv), (9, .int .i64 0), (10, .int .i64 0)] ∧ h' = H ∧ ws = []) 0 ?_ ?_
    · refine ⟨?_, rfl, rfl⟩
      simp (maxDischargeDepth := 9) -implicitDefEqProofs only [push_cast, simprocAttr, nS, nx]; try rfl
    · rintro k aa h' ws ⟨rfl, rfl, rfl⟩
      simp (maxDischargeDepth := 9) -implicitDefEqProofs only [push_cast, simprocAttr]
      exact quietB
  · obtain ⟨lv, H', ws, e, a, n, _, g, w, l, k⟩ := cut8g_ok hg hS a0 hx hnm hne hl hok hLl
    exact ⟨lv, H', ws, e, a, gs8_iv n, g, w, l, k⟩
/-- What Take answers. -/
def TakR (N E : List Int) (n : Nat) (H : AHeap) (r : AV) : Prop := ∃ lv rv, r = .tup [lv, rv, .int .i64 0] ∧ IV .u64 H lv N ∧ RowN H rv E n
theorem TakR.up {N E : List Int} (n : Nat) (h js : AHeap) (r : AV) (b : TakR N E n h r) : TakR N E n (h ++ js) r := by
  obtain ⟨lv, rv, e, u, w⟩ := b
  exact ⟨lv, rv, e, u.app js, w.keep fun q z e => by rw [List.getElem?_append_left (List.getElem?_eq_some_iff.1 e).1]; exact e⟩
theorem TakR.down {N E : List Int} (n : Nat) (h js : AHeap) (r : AV) (hv : r.lt h.length = true) (b : TakR N E n (h ++ js) r) : TakR N E n h r := by
  obtain ⟨lv, rv, rfl, u, w⟩ := b
  simp only [AV.lt, AV.lts, Bool.and_eq_true] at hv
  refine ⟨lv, rv, rfl, u.down hv.1, ?_⟩
  rcases w with k | ⟨p, hn, hp, k⟩
  · exact Or.inl k
  · have hb : p < h.length := by
      have := hv.2.1
      rcases k with ⟨rfl, _⟩ | rfl <;> simpa [AV.lt] using this
    rw [List.getElem?_append_left hb] at hp
    exact Or.inr ⟨p, hn, hp, k⟩
theorem TakR.base {N E : List Int} (n k : Nat) (h : AHeap) (r : AV) (hv : r.lt 0 = true) (b : TakR N E n h r) : TakR N E k h r := by
  obtain ⟨lv, rv, rfl, u, w⟩ := b
  simp only [AV.lt, AV.lts, Bool.and_eq_true] at hv
  refine ⟨lv, rv, rfl, u, ?_⟩
  rcases w with q | ⟨p, hn, hp, q⟩
  · exact Or.inl q
  · have := hv.2.1
    rcases q with ⟨rfl, _⟩ | rfl <;> simp [AV.lt] at this
set_option maxHeartbeats 4000000 in
theorem take_good {Ls : List Nat} (hg : Good h) (hS : IV .i64 h sv (szI Ls)) (hx : BV h x D) (hnm : NM x) (hok : ∀ s ∈ Ls, 1 ≤ s ∧ s ≤ 8) (hl : Ls.sum ≤ D.length) (hD : D.length < 1000000000) (hLl : Ls.length < 900000) :
    ∃ lv rv js, W CP 37 [sv, x] h = some (.tup [lv, rv, .int .i64 0], h ++ js, []) ∧ IV .u64 (h ++ js) lv (takeV Ls D) ∧ RowN (h ++ js) rv (D.drop Ls.sum) h.length ∧ Good (h ++ js) := by
  have h8 := sum_le8 hok
  have key : ∃ r js, W CP 37 [sv, x] h = some (r, h ++ js, []) ∧ TakR (takeV Ls D) (D.drop Ls.sum) h.length (h ++ js) r ∧ Good (h ++ js) := by
    refine W_anyN (m := M37) (fun g => IV .i64 g sv (szI Ls) ∧ BV g x D) (TakR (takeV Ls D) (D.drop Ls.sum)) (fun _ => rfl) rfl rfl good_gl (fun h0 => ?_) TakR.up TakR.down TakR.base (fun g hg u => ?_) hg ⟨hS, hx⟩
    · simp only [AV.lts, Bool.and_eq_true] at h0
      exact ⟨hS.gl h0.1, hx.gl h0.2.1⟩
    obtain ⟨hS, hx⟩ := u
    have nS := hS.na
    have nx := hx.na
    have lx := hx.len
    have ew := width_g hg hS (by simp; omega)
    rw [all_okS hok, if_pos rfl, sumS_szI] at ew
    have hG1 : Good (g ++ [⟨.tip false, .vals [.nils]⟩]) := good_app hg rfl
    obtain ⟨lv, H', ws, eC, c0, cN, cG, cw, cL, ck⟩ := cut8_all (c := g.length) hG1 (hS.app _) (by simp) (hx.app _) hnm hl hok hLl
    have hx' : BV H' x D := (hx.app _).mono fun q z e hz _ => ck q z e (by
      rintro rfl
      rw [List.getElem?_append_right (Nat.le_refl _)] at e
      obtain ⟨l, hl⟩ := hz
      simp at e
      subst e
      cases hl)
    have hL1 : g.length + 1 ≤ H'.length := by simpa using cL
    have hL2 : ¬ H'.length ≤ g.length := by omega
    have hL3 : g.length < H'.length := by omega
    have hwd : wadd g.length [] ws = [] := wadd_ge fun b hb => by have := cw b hb; omega
    obtain ⟨rv, js, eR, rR, rN⟩ := clone_g cG (hx'.off hl) (hnm.off _) (by rw [List.length_drop]; omega)
    have e1 := BV.slc_lo (h := H') hx' hl
    have no := (hx'.off hl).na
    have hna := na_slen cN.len
    have hnr := na_slen rR.len
    have kk : Keeps g (H' ++ js) none := by
      refine ⟨fun q z hq _ _ => ?_, by simp; omega, fun _ => good_app cG rN⟩
      have hql := (List.getElem?_eq_some_iff.1 hq).1
      have h1 := ck q z (by rw [List.getElem?_append_left hql]; exact hq) (by omega)
      rw [List.getElem?_append_left (List.getElem?_eq_some_iff.1 h1).1]; exact h1
    obtain ⟨N, hN⟩ : ∃ N, Ls.sum = N := ⟨_, rfl⟩
    rw [hN] at ew eR hl rR e1 no ⊢
    obtain ⟨d, hd⟩ : ∃ d, D.length = d := ⟨_, rfl⟩
    rw [hd] at lx hl
    have hsum : ¬ (d : Int) < (N : Int) := by omega
    simp (maxDischargeDepth := 9) -implicitDefEqProofs only [push_cast, simprocAttr, M37, nadd1, nadd2, nadd3, nadd4, nadd5, nadd6, nadd7, nadd8, nadd9, nadd10, nadd11, nadd12, nS, nx, lx, ew, eC, c0, hna, hwd, hL2, hL3, hsum, ↓slc_eqL, e1, no, eR, hnr, decide_false, Bool.not_false, Bool.and_true]
    exact ⟨⟨lv, rv, rfl, cN.app js, rR.le (by omega)⟩, kk⟩
  obtain ⟨r, js, e, ⟨lv, rv, rfl, u, w⟩, hG⟩ := key
  exact ⟨lv, rv, js, e, u, w, hG⟩
/-- What ref03.Take answers. -/
def RTaR (N E : List Int) (e : Int) (H : AHeap) (r : AV) : Prop := ∃ lv rv, r = .tup [lv, rv, .int .i64 e] ∧ IV .u64 H lv N ∧ BV H rv E
theorem RTaR.up {N E : List Int} {e : Int} (h js : AHeap) (r : AV) (b : RTaR N E e h r) : RTaR N E e (h ++ js) r := by
  obtain ⟨lv, rv, e, u, w⟩ := b
  exact ⟨lv, rv, e, u.app js, w.app js⟩
theorem RTaR.down {N E : List Int} {e : Int} (h js : AHeap) (r : AV) (hv : r.lt h.length = true) (b : RTaR N E e (h ++ js) r) : RTaR N E e h r := by
  obtain ⟨lv, rv, rfl, u, w⟩ := b
  simp only [AV.lt, AV.lts, Bool.and_eq_true] at hv
  exact ⟨lv, rv, rfl, u.down hv.1, w.down hv.2.1⟩
def takeN (L D : List Int) : List Int := if takeE L D = 0 then takeV (L.map Int.toNat) D else []
def takeL (L D : List Int) : List Int := if takeE L D = 0 then D.drop (sumS L).toNat else []
set_option maxHeartbeats 4000000 in
theorem rtake_c (hg : Good h) (hS : IV .i64 h sv L) (hx : BV h x D) (hll : L.length < 100000) (hD : D.length < 100000) :
    ∃ r js, W CP 38 [sv, x] h = some (r, h ++ js, []) ∧ RTaR (takeN L D) (takeL L D) (takeE L D) (h ++ js) r ∧ Good (h ++ js) ∧ (r.lt h.length = true → js = []) := by
  refine W_any (m := M38) (fun g => IV .i64 g sv L ∧ BV g x D) (RTaR (takeN L D) (takeL L D) (takeE L D)) (fun _ => rfl) rfl rfl good_gl (fun h0 => ?_) RTaR.up RTaR.down (fun g hg u => ?_) hg ⟨hS, hx⟩
  · simp only [AV.lts, Bool.and_eq_true] at h0
    exact ⟨hS.gl h0.1, hx.gl h0.2.1⟩
  obtain ⟨hS, hx⟩ := u
  have nS := hS.na
  have lS := hS.len
  have nx := hx.na
  have lx := hx.len
  have ew := rwidth_c hg hS (by omega)
  unfold takeN takeL
  cases hok : L.all okS with
  | false =>
    rw [hok] at ew
    simp only [Bool.false_eq_true, if_false] at ew
    have he : takeE L D = 1 := by unfold takeE; rw [if_neg (by simp [hok])]
    rw [he, if_neg (by decide), if_neg (by decide)]
    simp (maxDischargeDepth := 9) -implicitDefEqProofs only [push_cast, simprocAttr, M38, nadd1, nadd2, nadd3, nadd4, nadd5, nadd6, nadd7, nadd8, nadd9, nadd10, nadd11, nadd12, nS, lS, nx, lx, ew]
    exact ⟨⟨.nils, .nils, rfl, IV.nil _ _, BV.nil _⟩, Keeps.refl _ _⟩
  | true =>
    rw [hok, if_pos rfl] at ew
    have hs0 := (sumS_bound hok).1
    obtain ⟨eL, hb⟩ := okS_szI hok
    obtain ⟨Ls, hLs⟩ : ∃ Ls, L.map Int.toNat = Ls := ⟨_, rfl⟩
    rw [hLs] at eL hb ⊢
    have hsum : sumS L = (Ls.sum : Int) := by rw [eL, sumS_szI]
    obtain ⟨n, hn⟩ : ∃ n, Ls.length = n := ⟨_, rfl⟩
    have hLn : L.length = n := by rw [eL, len_szI, hn]
    rw [hLn] at lS hll
    rw [eL] at hS
    obtain ⟨N, hN⟩ : ∃ N, Ls.sum = N := ⟨_, rfl⟩
    rw [hsum, hN] at ew
    have hnw : ¬ (N : Int) < 0 := by omega
    obtain ⟨d, hd⟩ : ∃ d, D.length = d := ⟨_, rfl⟩
    rw [hd] at lx hD
    by_cases hc : N ≤ d
    · have he : takeE L D = 0 := by unfold takeE; rw [if_pos hok, if_pos (by omega)]
      rw [he, if_pos rfl, if_pos rfl, hsum, hN, Int.toNat_natCast]
      have hnc : ¬ (d : Int) < (N : Int) := by omega
      simp (maxDischargeDepth := 9) -implicitDefEqProofs only [push_cast, simprocAttr, M38, nadd1, nadd2, nadd3, nadd4, nadd5, nadd6, nadd7, nadd8, nadd9, nadd10, nadd11, nadd12, nS, lS, nx, lx, ew, hnw, hnc]
      refine wp_kRes (wp_kSeq (wp_kBlock ?_))
      refine wp_loop (fun k a h' ws => ∃ (i : Nat) (o : AV), k = n - i ∧ i ≤ n ∧ a = [(0, sv), (1, x), (8, o), (9, .int .i64 ((Ls.take i).sum : Int)), (10, .int .i64 (i : Int))] ∧ TI .u64 h' o (takeV (Ls.take i) D) g.length ∧ Keeps g h' none ∧ ws = []) n ?_ ?_
      · refine ⟨0, .nils, by omega, by omega, ?_, Or.inl ⟨rfl, by rw [List.take_zero]; rfl⟩, Keeps.refl _ _, rfl⟩
        simp (maxDischargeDepth := 9) -implicitDefEqProofs only [push_cast, simprocAttr, nS, nx, List.take_zero, List.sum_nil]; try rfl
      · rintro k aa h' ws ⟨i, o, rfl, hi, rfl, to, kh, rfl⟩
        have v1 : IntKind.i64.wrap ((i : Int) + 1) = (i : Int) + 1 := wr_i64 _ (by omega) (by omega)
        have no := to.iv.na
        have hgh := kh.2.2 hg
        have hx' := hx.keep (keepsN kh)
        by_cases hlt : i < n
        · have hlt' : (i : Int) < (n : Int) := by omega
          obtain ⟨s, hs⟩ : ∃ s, Ls[i]? = some s := ⟨_, List.getElem?_eq_getElem (by omega)⟩
          have hsI : (szI Ls)[i]? = some (s : Int) := by simp [hs]
          obtain ⟨s1, s8⟩ := hb s (List.mem_of_getElem? hs)
          have e1 := sum_take_succ hs
          have e2 := sum_take_le Ls (i + 1)
          have htk : Ls.take (i + 1) = Ls.take i ++ [s] := by rw [List.take_add_one, hs]; rfl
          have htv : takeV (Ls.take (i + 1)) D = takeV (Ls.take i) D ++ [be ((D.drop (Ls.take i).sum).take s)] := by rw [htk, takeV_snoc]
          obtain ⟨q, hq⟩ : ∃ q, (Ls.take i).sum = q := ⟨_, rfl⟩
          rw [hq] at e1 htv ⊢
          obtain ⟨u, hu⟩ : ∃ u, q + s = u := ⟨_, rfl⟩
          have hw : IntKind.i64.wrap ((q : Int) + (s : Int)) = (u : Int) := by rw [wr_i64 _ (by omega) (by omega)]; omega
          have esl := BV.slc (h := h') hx' (show q ≤ u by omega) (show u ≤ D.length by omega)
          have hcut : (D.take u).drop q = (D.drop q).take s := by rw [← hu, List.drop_take, Nat.add_sub_cancel_left]
          have bcut := (hx'.take (show u ≤ D.length by omega)).off (k := q) (by rw [List.length_take]; omega)
          rw [hcut] at bcut
          have nc := bcut.na
          have en := number_c hgh bcut (by rw [List.length_take]; omega)
          obtain ⟨c, hc⟩ : ∃ c, be ((D.drop q).take s) = c := ⟨_, rfl⟩
          rw [hc] at en htv
          have kb := keepsJ kh [⟨.tip false, .ints .u64 [c]⟩] rfl
          have hn3 := newI (k := .u64) (H := h') c
          have to' := to.keep (keepsN (Keeps.app h' [⟨.tip false, .ints .u64 [c]⟩] none rfl))
          obtain ⟨o2, H2, ws2, ea, t2, hw2, k2, _, _⟩ := appI (B := [c]) (m := 1) (e := 8) (Or.inr rfl) to' rfl (by rw [takeV_len, List.length_take]; omega) kb.2.1
          have kk : Keeps g H2 none := keepsO hg kb k2 to'.blk
          have hwa : wadd g.length [] ws2 = [] := wadd_ge hw2
          have no2 := t2.iv.na
          rw [← htv] at t2
          obtain ⟨p, ea1, ea2, eb2⟩ := (hS.kept kh).atk (hS.kept kk) hsI
          simp (maxDischargeDepth := 9) -implicitDefEqProofs only [push_cast, simprocAttr, nadd1, nadd2, nadd3, nadd4, nadd5, nadd6, nadd7, nadd8, nadd9, nadd10, nadd11, nadd12, hlt', v1, nS, lS, nx, lx, no, ↓uia_eq, ea1, ↓uld_eq 31, ↓uld_eq 41, ea2, hw, ↓slc_eqB, esl, nc, en, hn3, ea, hwa, no2, eb2]
          refine loop_next (n - (i + 1)) (by omega) ⟨i + 1, o2, rfl, by omega, ?_, t2, kk, rfl⟩
          rw [e1, hu]
          simp (maxDischargeDepth := 9) -implicitDefEqProofs only [push_cast, simprocAttr, nS, nx, no2]; try simp
        · have hi2 : i = n := by omega
          subst hi2
          have hnl : ¬ (i : Int) < (i : Int) := by omega
          rw [List.take_of_length_le (by omega)] at to ⊢
          rw [hN]
          have e1 := BV.slc_lo (h := h') hx' (show N ≤ D.length by omega)
          have bo := hx'.off (show N ≤ D.length by omega)
          have no' := bo.na
          have eO := own_c hgh bo (by rw [List.length_drop]; omega)
          have bO := own_bv bo.1 h'
          obtain ⟨w, hw⟩ : ∃ w, ownV h'.length (D.drop N) = w := ⟨_, rfl⟩
          rw [hw] at eO bO
          have nw := bO.na
          have kk : Keeps g (h' ++ ownH (D.drop N)) none := keepsJ kh _ (ownH_notOld _)
          simp (maxDischargeDepth := 9) -implicitDefEqProofs only [push_cast, simprocAttr, nadd1, nadd2, nadd3, nadd4, nadd5, nadd6, nadd7, nadd8, nadd9, nadd10, nadd11, nadd12, hnl, nS, lS, nx, lx, no, ↓slc_eqL, e1, no', eO, nw]
          exact ⟨⟨o, w, rfl, to.iv.app _, bO⟩, kk⟩
    · have he : takeE L D = 4 := by unfold takeE; rw [if_pos hok, if_neg (by omega)]
      rw [he, if_neg (by decide), if_neg (by decide)]
      have hnc : (d : Int) < (N : Int) := by omega
      simp (maxDischargeDepth := 9) -implicitDefEqProofs only [push_cast, simprocAttr, M38, nadd1, nadd2, nadd3, nadd4, nadd5, nadd6, nadd7, nadd8, nadd9, nadd10, nadd11, nadd12, nS, lS, nx, lx, ew, hnw, hnc]
      exact ⟨⟨.nils, .nils, rfl, IV.nil _ _, BV.nil _⟩, Keeps.refl _ _⟩
end
end Go.Proofs.YtimlhgpjmjmjhaaW.AI.B

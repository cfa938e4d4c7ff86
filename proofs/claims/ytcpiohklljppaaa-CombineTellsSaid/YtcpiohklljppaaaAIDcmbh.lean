import Derived.Test.YtcpiohklljppaaaAIDcmbd
import Derived.Test.YtcpiohklljppaaaAIDspr1
namespace Go.Proofs.YtcpiohklljppaaaW.AI.D
open Go Go.Proofs.YtcpiohklljppaaaW.AI
set_option maxRecDepth 100000
set_option linter.unusedSimpArgs false
set_option linter.unusedVariables false
set_option linter.unusedSectionVars false
-- ------------------------------------------------------------------ the document's mean
theorem rabs_c {a : Int} (h1 : -9223372036854775808 < a) (h2 : a ≤ 9223372036854775807) (h : AHeap) : W CP 66 [.int .i64 a] h = some (.int .i64 (a.natAbs : Int), h, []) := by
  refine W_val (m := M66) (fun _ => rfl) rfl rfl rfl ?_ h
  have c0 : ¬ a = -9223372036854775808 := by omega
  obtain ⟨z, hz⟩ : ∃ z, (a.natAbs : Int) = z := ⟨_, rfl⟩
  rw [hz]
  by_cases c : a < 0
  · have w1 : IntKind.i64.wrap (0 - a) = z := by rw [wr_i64 _ (by omega) (by omega)]; omega
    simp (maxDischargeDepth := 9) -implicitDefEqProofs only [push_cast, simprocAttr, nadd1, nadd2, nadd3, nadd4, nadd5, nadd6, nadd7, nadd8, nadd9, nadd10, nadd11, nadd12, M66, c0, c, w1]
  · have : a = z := by omega
    subst this
    simp (maxDischargeDepth := 9) -implicitDefEqProofs only [push_cast, simprocAttr, nadd1, nadd2, nadd3, nadd4, nadd5, nadd6, nadd7, nadd8, nadd9, nadd10, nadd11, nadd12, M66, c0, c]
theorem rmid_c (s H : Sp) (h : AHeap) : W CP 65 [spV s, spV H] h = some (.int .i64 (cmS H.2.1 H.2.2 s), h, []) := by
  obtain ⟨x, y, z⟩ := s
  obtain ⟨x', lo, hi⟩ := H
  have e := fun g => ref_Mid (a := x) (l := y) (u := z) g
  have hm : mS (x, y, z) = midS x y z := rfl
  unfold cmS clamp
  rw [hm]
  obtain ⟨m, hm⟩ : ∃ m, midS x y z = m := ⟨_, rfl⟩
  rw [hm] at e ⊢
  refine W_val (m := M65) (fun _ => rfl) rfl rfl rfl ?_ h
  by_cases c1 : m < lo
  · simp (maxDischargeDepth := 9) -implicitDefEqProofs only [push_cast, simprocAttr, nadd1, nadd2, nadd3, nadd4, nadd5, nadd6, nadd7, nadd8, nadd9, nadd10, nadd11, nadd12, M65, e, c1]
  · by_cases c2 : hi < m
    · simp (maxDischargeDepth := 9) -implicitDefEqProofs only [push_cast, simprocAttr, nadd1, nadd2, nadd3, nadd4, nadd5, nadd6, nadd7, nadd8, nadd9, nadd10, nadd11, nadd12, M65, e, c1, c2]
    · simp (maxDischargeDepth := 9) -implicitDefEqProofs only [push_cast, simprocAttr, nadd1, nadd2, nadd3, nadd4, nadd5, nadd6, nadd7, nadd8, nadd9, nadd10, nadd11, nadd12, M65, e, c1, c2]
section
variable {h : AHeap} {v : AV} {L : List Sp}
theorem rmay_c (hg : Good h) (u : SV h v L) (hl : L.length ≤ 9223372036854775806) : W CP 63 [v] h = some (.bool (L.all mayB && decide (L.length ≤ 16)), h, []) := by
  refine W_bothB (m := M63) (fun g => SV g v L) (fun _ => rfl) rfl rfl rfl cgl (fun h0 => ?_) (fun g hg u => ?_) hg u
  · simp only [AV.lts, Bool.and_eq_true] at h0
    exact u.gl h0.1
  have nv := u.na
  have lv := u.len
  obtain ⟨m, hm⟩ : ∃ m, L.length = m := ⟨_, rfl⟩
  rw [hm] at lv hl ⊢
  simp (maxDischargeDepth := 9) -implicitDefEqProofs only [push_cast, simprocAttr, M63, nv, lv]
  refine wp_kRes (wp_kSeq (wp_kBlock ?_))
  refine wp_loop (fun k x h' ws => ∃ i : Nat, k = m - i ∧ i ≤ m ∧ x = [(0, v), (3, .int .i64 (i : Int))] ∧ Keeps g h' none ∧ L.all mayB = (L.drop i).all mayB ∧ ws = []) m ?_ ?_
  · refine ⟨0, by omega, by omega, ?_, Keeps.refl _ _, rfl, rfl⟩
    simp (maxDischargeDepth := 9) -implicitDefEqProofs only [push_cast, simprocAttr, nv]; try rfl
  · rintro k xx h' ws ⟨i, rfl, hi, rfl, kh, hfb, rfl⟩
    obtain ⟨js, hj⟩ := kh.behind
    by_cases hlt : i < m
    · have hlt' : (i : Int) < (m : Int) := by omega
      have v1 : IntKind.i64.wrap ((i : Int) + 1) = (i : Int) + 1 := wr_i64 _ (by omega) (by omega)
      obtain ⟨s, hs⟩ : ∃ s, L[i]? = some s := ⟨_, List.getElem?_eq_getElem (by omega)⟩
      obtain ⟨b, x1, x2, x3⟩ := (u.kept kh).at hs
      have hd : L.drop i = s :: L.drop (i + 1) := by
        obtain ⟨h1, h2⟩ := List.getElem?_eq_some_iff.1 hs
        rw [List.drop_eq_getElem_cons h1, h2]
      rw [hd, List.all_cons] at hfb
      have eM : ∀ g, W CP 42 [spV s] g = some (.bool (mayB s), g, []) := fun g => ref_May g
      by_cases c : mayB s = true
      · rw [c] at eM
        rw [c, Bool.true_and] at hfb
        simp (maxDischargeDepth := 9) -implicitDefEqProofs only [push_cast, simprocAttr, nadd1, nadd2, nadd3, nadd4, nadd5, nadd6, nadd7, nadd8, nadd9, nadd10, nadd11, nadd12, hlt', v1, nv, lv, ↓uia_eq, x1, ↓uld_eq 12, x2, eM]
        refine loop_next (m - (i + 1)) (by omega) ⟨i + 1, rfl, by omega, ?_, kh, hfb, rfl⟩
        simp (maxDischargeDepth := 9) -implicitDefEqProofs only [push_cast, simprocAttr, nv]; try simp
      · rw [show mayB s = false from by simpa using c] at eM hfb
        rw [Bool.false_and] at hfb
        rw [hfb, Bool.false_and]
        simp (maxDischargeDepth := 9) -implicitDefEqProofs only [push_cast, simprocAttr, nadd1, nadd2, nadd3, nadd4, nadd5, nadd6, nadd7, nadd8, nadd9, nadd10, nadd11, nadd12, hlt', nv, lv, ↓uia_eq, x1, ↓uld_eq 12, x2, eM]
        exact ⟨rfl, ⟨js, hj⟩, rfl⟩
    · have hnl : ¬ (i : Int) < (m : Int) := by omega
      rw [List.drop_of_length_le (by omega)] at hfb
      rw [hfb]
      by_cases c : m ≤ 16
      · have c' : (m : Int) ≤ 16 := by omega
        rw [decide_eq_true c]
        simp (maxDischargeDepth := 9) -implicitDefEqProofs only [push_cast, simprocAttr, nadd1, nadd2, nadd3, nadd4, nadd5, nadd6, nadd7, nadd8, nadd9, nadd10, nadd11, nadd12, hnl, nv, lv, c']
        exact ⟨rfl, ⟨js, hj⟩, rfl⟩
      · have c' : ¬ (m : Int) ≤ 16 := by omega
        rw [decide_eq_false c]
        simp (maxDischargeDepth := 9) -implicitDefEqProofs only [push_cast, simprocAttr, nadd1, nadd2, nadd3, nadd4, nadd5, nadd6, nadd7, nadd8, nadd9, nadd10, nadd11, nadd12, hnl, nv, lv, c']
        exact ⟨rfl, ⟨js, hj⟩, rfl⟩
theorem rweights_no (hg : Good h) (u : SV h v L) (hb : 16 < L.length ∨ L.all mayB = false) (hl : L.length ≤ 9223372036854775806) : W CP 37 [v] h = some (.nils, h, []) := by
  refine W_bothB (m := M37) (fun g => SV g v L) (fun _ => rfl) rfl rfl rfl cgl (fun h0 => ?_) (fun g hg u => ?_) hg u
  · simp only [AV.lts, Bool.and_eq_true] at h0
    exact u.gl h0.1
  have nv := u.na
  have eM := rmay_c hg u hl
  have : (L.all mayB && decide (L.length ≤ 16)) = false := by
    rcases hb with h | h
    · rw [decide_eq_false (by omega), Bool.and_false]
    · rw [h, Bool.false_and]
  rw [this] at eM
  simp (maxDischargeDepth := 9) -implicitDefEqProofs only [push_cast, simprocAttr, M37, nv, eM]
  exact quietB
/-- The widest one, and one; at least one. -/
def wid1 (L : List Sp) : Int := L.foldl (fun m s => if m < wS s + 1 then wS s + 1 else m) 1
theorem wid1_snoc (L : List Sp) (s : Sp) : wid1 (L ++ [s]) = if wid1 L < wS s + 1 then wS s + 1 else wid1 L := by unfold wid1; rw [List.foldl_append]; rfl
theorem wid1_eq (h0 : L ≠ []) : wid1 L = wid L := by
  match L, h0 with
  | s :: L, _ =>
    unfold wid1 wid
    have h1 := wS_in s
    simp only [List.foldl_cons]
    congr 1
    split <;> split <;> omega
set_option maxHeartbeats 8000000 in
theorem rweights_ok (hg : Good h) (u : SV h v L) (h0' : L ≠ []) (h16 : L.length ≤ 16) (hm : L.all mayB = true) :
    ∃ r js, W CP 37 [v] h = some (r, h ++ js, []) ∧ TI .i64 (h ++ js) r (wts L) 0 ∧ Good (h ++ js) ∧ (r.lt h.length = true → js = []) := by
  refine W_any (m := M37) (fun g => SV g v L) (fun g r => TI .i64 g r (wts L) 0) (fun _ => rfl) rfl rfl cgl (fun h0 => ?_) (fun h js v r => r.keep fun q z e => by rw [List.getElem?_append_left (List.getElem?_eq_some_iff.1 e).1]; exact e) (fun h js v hv r => ti_down r hv) (fun g hg u => ?_) hg u
  · simp only [AV.lts, Bool.and_eq_true] at h0
    exact u.gl h0.1
  have nv := u.na
  have lv := u.len
  have eM := rmay_c hg u (by omega)
  rw [hm, decide_eq_true h16, Bool.true_and] at eM
  obtain ⟨m, hml⟩ : ∃ m, L.length = m := ⟨_, rfl⟩
  rw [hml] at lv h16
  simp (maxDischargeDepth := 9) -implicitDefEqProofs only [push_cast, simprocAttr, M37, nv, lv, eM]
  refine wp_kRes (wp_kSeq (wp_kBlock ?_))
  refine wp_loop (fun k x h' ws => ∃ (i : Nat) (z : Int), k = m - i ∧ i ≤ m ∧ x = [(0, v), (3, .int .i64 z), (4, .int .i64 (i : Int))] ∧ z = wid1 (L.take i) ∧ Keeps g h' none ∧ ws = []) m ?_ ?_
  · refine ⟨0, 1, by omega, by omega, ?_, rfl, Keeps.refl _ _, rfl⟩
    simp (maxDischargeDepth := 9) -implicitDefEqProofs only [push_cast, simprocAttr, nv]; try rfl
  rintro k xx h' ws ⟨i, z, rfl, hi, rfl, hz, kh, rfl⟩
  have v1 : IntKind.i64.wrap ((i : Int) + 1) = (i : Int) + 1 := wr_i64 _ (by omega) (by omega)
  by_cases hlt : i < m
  · have hlt' : (i : Int) < (m : Int) := by omega
    obtain ⟨s, hs⟩ : ∃ s, L[i]? = some s := ⟨_, List.getElem?_eq_getElem (by omega)⟩
    have hms : mayB s = true := List.all_eq_true.1 hm _ (List.mem_of_getElem? hs)
    have hw := wS_of hms
    have hb := mayS_iff.1 hms
    obtain ⟨b, x1, _, _, x2, x3, _⟩ := (u.kept kh).atf hs
    have hnx : wid1 (L.take (i + 1)) = if z < wS s + 1 then wS s + 1 else z := by rw [List.take_add_one, hs, hz]; exact wid1_snoc _ _
    have w3 : IntKind.i64.wrap (wS s + 1) = wS s + 1 := wr_i64 _ (by omega) (by omega)
    obtain ⟨wd, hwd⟩ : ∃ w, wS s = w := ⟨_, rfl⟩
    rw [hwd] at w3 hnx
    obtain ⟨w1, hw1⟩ : ∃ w, wd + 1 = w := ⟨_, rfl⟩
    have w3' : IntKind.i64.wrap (wd + 1) = w1 := w3.trans hw1
    have w2' : IntKind.i64.wrap (s.2.2 - s.2.1) = wd := by rw [wr_i64 _ (by omega) (by omega), ← hw, hwd]
    rw [hw1] at hnx
    obtain ⟨sx, sy, sz⟩ := s
    simp only at x2 x3 w2'
    clear w3
    by_cases c : z < w1
    · rw [if_pos c] at hnx
      simp (maxDischargeDepth := 9) -implicitDefEqProofs only [push_cast, simprocAttr, nadd1, nadd2, nadd3, nadd4, nadd5, nadd6, nadd7, nadd8, nadd9, nadd10, nadd11, nadd12, hlt', v1, nv, lv, ↓uia_eq, x1, ↓uld_eq 21, ↓uld_eq 26, ↓uld_eq 35, ↓uld_eq 40, x2, x3, w2', w3', c]
      refine loop_next (m - (i + 1)) (by omega) ⟨i + 1, w1, rfl, by omega, ?_, hnx.symm, kh, rfl⟩
      simp (maxDischargeDepth := 9) -implicitDefEqProofs only [push_cast, simprocAttr, nv]; try simp
    · rw [if_neg c] at hnx
      simp (maxDischargeDepth := 9) -implicitDefEqProofs only [push_cast, simprocAttr, nadd1, nadd2, nadd3, nadd4, nadd5, nadd6, nadd7, nadd8, nadd9, nadd10, nadd11, nadd12, hlt', v1, nv, lv, ↓uia_eq, x1, ↓uld_eq 21, ↓uld_eq 26, x2, x3, w2', w3', c]
      refine loop_next (m - (i + 1)) (by omega) ⟨i + 1, z, rfl, by omega, ?_, hnx.symm, kh, rfl⟩
      simp (maxDischargeDepth := 9) -implicitDefEqProofs only [push_cast, simprocAttr, nv]; try simp
  have hnl : ¬ (i : Int) < (m : Int) := by omega
  have him : i = m := by omega
  have hzw : wid L = z := by rw [hz, him, ← hml, List.take_length, wid1_eq h0']
  have hwi := wid_in L
  rw [hzw] at hwi
  simp (maxDischargeDepth := 9) -implicitDefEqProofs only [push_cast, simprocAttr, nadd1, nadd2, nadd3, nadd4, nadd5, nadd6, nadd7, nadd8, nadd9, nadd10, nadd11, nadd12, hnl, nv, lv]
  refine wp_kSeq (wp_kBlock ?_)
  refine wp_loop (fun k x h2 ws => ∃ (j : Nat) (t : AV), k = m - j ∧ j ≤ m ∧ x = [(0, v), (3, .int .i64 z), (5, t), (6, .int .i64 (j : Int))] ∧ TI .i64 h2 t ((wts L).take j) g.length ∧ Keeps g h2 none ∧ ws = []) m ?_ ?_
  · refine ⟨0, .nils, by omega, by omega, ?_, Or.inl ⟨rfl, rfl⟩, kh, rfl⟩
    simp (maxDischargeDepth := 9) -implicitDefEqProofs only [push_cast, simprocAttr, nv]; try rfl
  rintro k xx h2 ws ⟨j, t, rfl, hj, rfl, ti, k2, rfl⟩
  have hg2 := k2.2.2 hg
  have nt := ti.iv.na
  have u1 : IntKind.i64.wrap ((j : Int) + 1) = (j : Int) + 1 := wr_i64 _ (by omega) (by omega)
  by_cases hlt2 : j < m
  · have hlt2' : (j : Int) < (m : Int) := by omega
    obtain ⟨s, hs⟩ : ∃ s, L[j]? = some s := ⟨_, List.getElem?_eq_getElem (by omega)⟩
    have hms : mayB s = true := List.all_eq_true.1 hm _ (List.mem_of_getElem? hs)
    have hw := wS_of hms
    have hb := mayS_iff.1 hms
    obtain ⟨b, x1, _, _, x2, x3, _⟩ := (u.kept k2).atf hs
    have hws := wS_in s
    have hwj : (wts L)[j]? = some (wt1 z s) := by unfold wts; rw [List.getElem?_map, hs, hzw]; rfl
    have eD : ∀ g, Good g → W CP 64 [.int .i64 z, .int .i64 1024, .int .i64 (wS s + 1), .bool false] g = some (qres (mdv false z 1024 (wS s + 1)), g, []) := fun g hg => ref_MulDiv hg ⟨by omega, by omega⟩ ⟨by omega, by omega⟩ ⟨by omega, by omega⟩
    have hw1 : wt1 z s = if 1048576 < (if I64 (mdv false z 1024 (wS s + 1)) then mdv false z 1024 (wS s + 1) else 1048576) then 1048576 else (if I64 (mdv false z 1024 (wS s + 1)) then mdv false z 1024 (wS s + 1) else 1048576) := rfl
    obtain ⟨q, hq⟩ : ∃ q, mdv false z 1024 (wS s + 1) = q := ⟨_, rfl⟩
    rw [hq] at eD hw1
    obtain ⟨wd, hwd⟩ : ∃ w, wt1 z s = w := ⟨_, rfl⟩
    rw [hwd] at hwj hw1
    have w2 : IntKind.i64.wrap (s.2.2 - s.2.1) = wS s := by rw [wr_i64 _ (by omega) (by omega), hw]
    have w3 : IntKind.i64.wrap (wS s + 1) = wS s + 1 := wr_i64 _ (by omega) (by omega)
    obtain ⟨w0, hw0⟩ : ∃ w, wS s = w := ⟨_, rfl⟩
    rw [hw0] at w2 w3 eD
    obtain ⟨w1, hw1'⟩ : ∃ w, w0 + 1 = w := ⟨_, rfl⟩
    rw [hw1'] at eD
    have w3' : IntKind.i64.wrap (w0 + 1) = w1 := w3.trans hw1'
    have eD2 := eD h2 hg2
    obtain ⟨sx, sy, sz⟩ := s
    simp only at x2 x3 w2
    clear w3
    have g1 : ¬ h2.length < g.length := by have := k2.2.1; omega
    obtain ⟨Y2, hY2⟩ : ∃ Y, h2 ++ [(⟨.tip false, .ints .i64 [wd]⟩ : ABlk)] = Y := ⟨_, rfl⟩
    have kY2 : Keeps h2 Y2 none := by rw [← hY2]; exact Keeps.app h2 [⟨.tip false, .ints .i64 [wd]⟩] none rfl
    have eN : newCells Y2 (.ints .i64 [0]) (.sl h2.length 0 1 1) = some (.ints .i64 [wd]) := by rw [← hY2]; exact newI wd
    have hY2l := kY2.2.1
    obtain ⟨t', H', ws', eA, ti', hws', kA, ct, _⟩ := appI (e := 8) (Or.inr rfl) (ti.keep (keepsN kY2)) (show [wd].length = 1 from rfl) (by rw [List.length_take]; omega) (show g.length ≤ Y2.length by have := k2.2.1; omega)
    have hnx : (wts L).take (j + 1) = (wts L).take j ++ [wd] := by rw [List.take_add_one, hwj]; rfl
    rw [← hnx] at ti'
    have kF : Keeps g H' none := keepsO hg (keepsT k2 kY2) kA ti.blk
    have hww : ∀ l, wadd g.length l ws' = l := fun l => wadd_ge hws'
    have nt' := ti'.iv.na
    clear eD
    by_cases cI : I64 q
    · rw [if_pos cI] at hw1
      unfold qres at eD2
      rw [if_pos cI] at eD2
      by_cases cQ : 1048576 < q
      · rw [if_pos cQ] at hw1
        subst hw1
        simp (maxDischargeDepth := 9) -implicitDefEqProofs only [push_cast, simprocAttr, nadd1, nadd2, nadd3, nadd4, nadd5, nadd6, nadd7, nadd8, nadd9, nadd10, nadd11, nadd12, hlt2', u1, nv, lv, nt, ↓uia_eq, x1, ↓uld_eq 55, ↓uld_eq 60, x2, x3, w2, w3', eD2, cQ, hY2, eN, eA, nt', hww, g1]
        refine loop_next (m - (j + 1)) (by omega) ⟨j + 1, t', rfl, by omega, ?_, ti', kF, rfl⟩
        simp (maxDischargeDepth := 9) -implicitDefEqProofs only [push_cast, simprocAttr, nv, nt']; try simp
      · rw [if_neg cQ] at hw1
        subst hw1
        simp (maxDischargeDepth := 9) -implicitDefEqProofs only [push_cast, simprocAttr, nadd1, nadd2, nadd3, nadd4, nadd5, nadd6, nadd7, nadd8, nadd9, nadd10, nadd11, nadd12, hlt2', u1, nv, lv, nt, ↓uia_eq, x1, ↓uld_eq 55, ↓uld_eq 60, x2, x3, w2, w3', eD2, cQ, hY2, eN, eA, nt', hww, g1]
        refine loop_next (m - (j + 1)) (by omega) ⟨j + 1, t', rfl, by omega, ?_, ti', kF, rfl⟩
        simp (maxDischargeDepth := 9) -implicitDefEqProofs only [push_cast, simprocAttr, nv, nt']; try simp
    · rw [if_neg cI, if_neg (by decide)] at hw1
      unfold qres at eD2
      rw [if_neg cI] at eD2
      subst hw1
      simp (maxDischargeDepth := 9) -implicitDefEqProofs only [push_cast, simprocAttr, nadd1, nadd2, nadd3, nadd4, nadd5, nadd6, nadd7, nadd8, nadd9, nadd10, nadd11, nadd12, hlt2', u1, nv, lv, nt, ↓uia_eq, x1, ↓uld_eq 55, ↓uld_eq 60, x2, x3, w2, w3', eD2, hY2, eN, eA, nt', hww, g1]
      refine loop_next (m - (j + 1)) (by omega) ⟨j + 1, t', rfl, by omega, ?_, ti', kF, rfl⟩
      simp (maxDischargeDepth := 9) -implicitDefEqProofs only [push_cast, simprocAttr, nv, nt']; try simp
  · have hnl2 : ¬ (j : Int) < (m : Int) := by omega
    have hfull : (wts L).take j = wts L := List.take_of_length_le (by rw [wts_len]; omega)
    rw [hfull] at ti
    simp (maxDischargeDepth := 9) -implicitDefEqProofs only [push_cast, simprocAttr, nadd1, nadd2, nadd3, nadd4, nadd5, nadd6, nadd7, nadd8, nadd9, nadd10, nadd11, nadd12, hnl2, nv, lv, nt]
    trace_state
    exact ⟨ti_mono ti, k2⟩
end
end Go.Proofs.YtcpiohklljppaaaW.AI.D

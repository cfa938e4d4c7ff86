import Derived.Test.YtcpiohklljppaaaAIDcmb1
namespace Go.Proofs.YtcpiohklljppaaaW.AI.D
open Go Go.Proofs.YtcpiohklljppaaaW.AI
set_option maxRecDepth 100000
set_option linter.unusedSimpArgs false
set_option linter.unusedVariables false
set_option linter.unusedSectionVars false
/-- The widest one, and one. -/
def wid (L : List Sp) : Int := L.foldl (fun m s => if m < wS s + 1 then wS s + 1 else m) 0
theorem wid_snoc (L : List Sp) (s : Sp) : wid (L ++ [s]) = if wid L < wS s + 1 then wS s + 1 else wid L := by unfold wid; rw [List.foldl_append]; rfl
theorem wid_in (L : List Sp) : 0 ≤ wid L ∧ wid L ≤ 4611686018427387905 := by
  unfold wid
  suffices ∀ (L : List Sp) (m : Int), 0 ≤ m ∧ m ≤ 4611686018427387905 → 0 ≤ L.foldl (fun m s => if m < wS s + 1 then wS s + 1 else m) m ∧ L.foldl (fun m s => if m < wS s + 1 then wS s + 1 else m) m ≤ 4611686018427387905 from this L 0 (by decide)
  intro L
  induction L with
  | nil => intro m h; exact h
  | cons s L ih =>
    intro m h
    have := wS_in s
    refine ih _ ?_
    dsimp only
    split <;> omega
/-- A weight. -/
def wt1 (W : Int) (s : Sp) : Int := if 1048576 < (if I64 (mdv false W 1024 (wS s + 1)) then mdv false W 1024 (wS s + 1) else 1048576) then 1048576 else (if I64 (mdv false W 1024 (wS s + 1)) then mdv false W 1024 (wS s + 1) else 1048576)
def wts (L : List Sp) : List Int := L.map (wt1 (wid L))
theorem wts_len (L : List Sp) : (wts L).length = L.length := List.length_map _
theorem ti_down {k : IntKind} {h js : AHeap} {v : AV} {L : List Int} (t : TI k (h ++ js) v L 0) (hv : v.lt h.length = true) : TI k h v L 0 := by
  rcases t with q | ⟨p, h0, ⟨rfl, e⟩ | ⟨o, mn, rfl, e⟩⟩
  · exact Or.inl q
  · have hp : p < h.length := by simpa [AV.lt] using hv
    rw [List.getElem?_append_left hp] at e
    exact Or.inr ⟨p, h0, Or.inl ⟨rfl, e⟩⟩
  · have hp : p < h.length := by simpa [AV.lt] using hv
    rw [List.getElem?_append_left hp] at e
    exact Or.inr ⟨p, h0, Or.inr ⟨o, mn, rfl, e⟩⟩
theorem ti_mono {k : IntKind} {h : AHeap} {v : AV} {L : List Int} {n : Nat} (t : TI k h v L n) : TI k h v L 0 := by
  rcases t with q | ⟨p, h0, r⟩
  · exact Or.inl q
  · exact Or.inr ⟨p, Nat.zero_le _, r⟩
section
variable {h : AHeap} {v : AV} {L : List Sp}
theorem weights_no (hg : Good h) (u : SV h v L) (hb : 16 < L.length ∨ L.all mayB = false) (hl : L.length ≤ 9223372036854775806) : W CP 36 [v] h = some (.nils, h, []) := by
  refine W_bothB (m := M36) (fun g => SV g v L) (fun _ => rfl) rfl rfl rfl cgl (fun h0 => ?_) (fun g hg u => ?_) hg u
  · simp only [AV.lts, Bool.and_eq_true] at h0
    exact u.gl h0.1
  have nv := u.na
  have lv := u.len
  by_cases c : 16 < L.length
  · have c' : (16 : Int) < (L.length : Int) := by omega
    simp (maxDischargeDepth := 9) -implicitDefEqProofs only [push_cast, simprocAttr, M36, nv, lv, c']
    exact quietB
  · have c' : ¬ (16 : Int) < (L.length : Int) := by omega
    have eM := may_c hg u hl
    rw [hb.resolve_left c] at eM
    simp (maxDischargeDepth := 9) -implicitDefEqProofs only [push_cast, simprocAttr, M36, nv, lv, c', eM]
    exact quietB
set_option maxHeartbeats 8000000 in
theorem weights_ok (hg : Good h) (u : SV h v L) (h16 : L.length ≤ 16) (hm : L.all mayB = true) :
    ∃ r js, W CP 36 [v] h = some (r, h ++ js, []) ∧ TI .i64 (h ++ js) r (wts L) 0 ∧ Good (h ++ js) ∧ (r.lt h.length = true → js = []) := by
  refine W_any (m := M36) (fun g => SV g v L) (fun g r => TI .i64 g r (wts L) 0) (fun _ => rfl) rfl rfl cgl (fun h0 => ?_) (fun h js v r => r.keep fun q z e => by rw [List.getElem?_append_left (List.getElem?_eq_some_iff.1 e).1]; exact e) (fun h js v hv r => ti_down r hv) (fun g hg u => ?_) hg u
  · simp only [AV.lts, Bool.and_eq_true] at h0
    exact u.gl h0.1
  have nv := u.na
  have lv := u.len
  have eM := may_c hg u (by omega)
  rw [hm] at eM
  obtain ⟨m, hml⟩ : ∃ m, L.length = m := ⟨_, rfl⟩
  rw [hml] at lv h16
  have c' : ¬ (16 : Int) < (m : Int) := by omega
  simp (maxDischargeDepth := 9) -implicitDefEqProofs only [push_cast, simprocAttr, M36, nv, lv, c', eM]
  refine wp_kRes (wp_kSeq (wp_kBlock ?_))
  refine wp_loop (fun k x h' ws => ∃ (i : Nat) (z : Int), k = m - i ∧ i ≤ m ∧ x = [(0, v), (3, .int .i64 z), (19, v), (20, .int .i64 (m : Int)), (21, .int .i64 (i : Int))] ∧ z = wid (L.take i) ∧ Keeps g h' none ∧ ws = []) m ?_ ?_
  · refine ⟨0, 0, by omega, by omega, ?_, rfl, Keeps.refl _ _, rfl⟩
    simp (maxDischargeDepth := 9) -implicitDefEqProofs only [push_cast, simprocAttr, nv]; try rfl
  rintro k xx h' ws ⟨i, z, rfl, hi, rfl, hz, kh, rfl⟩
  have v1 : IntKind.i64.wrap ((i : Int) + 1) = (i : Int) + 1 := wr_i64 _ (by omega) (by omega)
  by_cases hlt : i < m
  · have hlt' : (i : Int) < (m : Int) := by omega
    obtain ⟨s, hs⟩ : ∃ s, L[i]? = some s := ⟨_, List.getElem?_eq_getElem (by omega)⟩
    obtain ⟨b, x1, x2, x3⟩ := (u.kept kh).at hs
    have eB := fun g => breadth_c s g
    have hnx : wid (L.take (i + 1)) = if z < wS s + 1 then wS s + 1 else z := by rw [List.take_add_one, hs, hz]; exact wid_snoc _ _
    obtain ⟨w1, hw1⟩ : ∃ w, wS s + 1 = w := ⟨_, rfl⟩
    rw [hw1] at eB hnx
    obtain ⟨sx, sy, sz⟩ := s
    have g1 : ¬ h'.length < g.length := by have := kh.2.1; omega
    obtain ⟨Y1, hY1⟩ : ∃ Y, h' ++ [(⟨.tip false, .ints .i64 [sx, sy, sz]⟩ : ABlk)] = Y := ⟨_, rfl⟩
    have kY1 : Keeps h' Y1 none := by rw [← hY1]; exact Keeps.app h' [⟨.tip false, .ints .i64 [sx, sy, sz]⟩] none rfl
    have bY1 : Y1[h'.length]? = some ⟨.tip false, .ints .i64 [sx, sy, sz]⟩ := by rw [← hY1]; exact fend _ _ _
    have lY1 := (List.getElem?_eq_some_iff.1 bY1).1
    by_cases c : z < w1
    · rw [if_pos c] at hnx
      simp (maxDischargeDepth := 9) -implicitDefEqProofs only [push_cast, simprocAttr, nadd1, nadd2, nadd3, nadd4, nadd5, nadd6, nadd7, nadd8, nadd9, nadd10, nadd11, nadd12, ABlk.new, hlt', v1, nv, lv, ↓uia_eq, x1, ↓uld_eq 23, x2, hY1, bY1, lY1, eB, c, g1]
      refine loop_next (m - (i + 1)) (by omega) ⟨i + 1, w1, rfl, by omega, ?_, hnx.symm, keepsT kh kY1, rfl⟩
      simp (maxDischargeDepth := 9) -implicitDefEqProofs only [push_cast, simprocAttr, nv]; try simp
    · rw [if_neg c] at hnx
      simp (maxDischargeDepth := 9) -implicitDefEqProofs only [push_cast, simprocAttr, nadd1, nadd2, nadd3, nadd4, nadd5, nadd6, nadd7, nadd8, nadd9, nadd10, nadd11, nadd12, ABlk.new, hlt', v1, nv, lv, ↓uia_eq, x1, ↓uld_eq 23, x2, hY1, bY1, lY1, eB, c, g1]
      refine loop_next (m - (i + 1)) (by omega) ⟨i + 1, z, rfl, by omega, ?_, hnx.symm, keepsT kh kY1, rfl⟩
      simp (maxDischargeDepth := 9) -implicitDefEqProofs only [push_cast, simprocAttr, nv]; try simp
  have hnl : ¬ (i : Int) < (m : Int) := by omega
  have him : i = m := by omega
  have hzw : wid L = z := by rw [hz, him, ← hml, List.take_length]
  have hwi := wid_in L
  rw [hzw] at hwi
  simp (maxDischargeDepth := 9) -implicitDefEqProofs only [push_cast, simprocAttr, nadd1, nadd2, nadd3, nadd4, nadd5, nadd6, nadd7, nadd8, nadd9, nadd10, nadd11, nadd12, hnl, nv, lv]
  refine wp_kSeq (wp_kBlock ?_)
  refine wp_loop (fun k x h2 ws => ∃ (j : Nat) (t : AV), k = m - j ∧ j ≤ m ∧ x = [(3, .int .i64 z), (6, t), (30, v), (31, .int .i64 (m : Int)), (32, .int .i64 (j : Int))] ∧ TI .i64 h2 t ((wts L).take j) g.length ∧ Keeps g h2 none ∧ ws = []) m ?_ ?_
  · refine ⟨0, .nils, by omega, by omega, ?_, Or.inl ⟨rfl, rfl⟩, kh, rfl⟩
    simp (maxDischargeDepth := 9) -implicitDefEqProofs only [push_cast, simprocAttr, nv]; try rfl
  rintro k xx h2 ws ⟨j, t, rfl, hj, rfl, ti, k2, rfl⟩
  have hg2 := k2.2.2 hg
  have nt := ti.iv.na
  have u1 : IntKind.i64.wrap ((j : Int) + 1) = (j : Int) + 1 := wr_i64 _ (by omega) (by omega)
  by_cases hlt2 : j < m
  · have hlt2' : (j : Int) < (m : Int) := by omega
    obtain ⟨s, hs⟩ : ∃ s, L[j]? = some s := ⟨_, List.getElem?_eq_getElem (by omega)⟩
    obtain ⟨b, x1, x2, x3⟩ := (u.kept k2).at hs
    have eB := fun g => breadth_c s g
    have hws := wS_in s
    have hwj : (wts L)[j]? = some (wt1 z s) := by unfold wts; rw [List.getElem?_map, hs, hzw]; rfl
    have eD := fun g => fix_MulDiv (a := z) (b := 1024) (c := wS s + 1) ⟨by omega, by omega⟩ ⟨by omega, by omega⟩ ⟨by omega, by omega⟩ g
    have hw1 : wt1 z s = if 1048576 < (if I64 (mdv false z 1024 (wS s + 1)) then mdv false z 1024 (wS s + 1) else 1048576) then 1048576 else (if I64 (mdv false z 1024 (wS s + 1)) then mdv false z 1024 (wS s + 1) else 1048576) := rfl
    obtain ⟨q, hq⟩ : ∃ q, mdv false z 1024 (wS s + 1) = q := ⟨_, rfl⟩
    rw [hq] at eD hw1
    obtain ⟨wd, hwd⟩ : ∃ w, wt1 z s = w := ⟨_, rfl⟩
    rw [hwd] at hwj hw1
    obtain ⟨w1, hw1'⟩ : ∃ w, wS s + 1 = w := ⟨_, rfl⟩
    rw [hw1'] at eB eD
    obtain ⟨sx, sy, sz⟩ := s
    have g1 : ¬ h2.length < g.length := by have := k2.2.1; omega
    obtain ⟨Y1, hY1⟩ : ∃ Y, h2 ++ [(⟨.tip false, .ints .i64 [sx, sy, sz]⟩ : ABlk)] = Y := ⟨_, rfl⟩
    have kY1 : Keeps h2 Y1 none := by rw [← hY1]; exact Keeps.app h2 [⟨.tip false, .ints .i64 [sx, sy, sz]⟩] none rfl
    have bY1 : Y1[h2.length]? = some ⟨.tip false, .ints .i64 [sx, sy, sz]⟩ := by rw [← hY1]; exact fend _ _ _
    have lY1 := (List.getElem?_eq_some_iff.1 bY1).1
    obtain ⟨Y2, hY2⟩ : ∃ Y, Y1 ++ [(⟨.tip false, .ints .i64 [wd]⟩ : ABlk)] = Y := ⟨_, rfl⟩
    have kY2 : Keeps Y1 Y2 none := by rw [← hY2]; exact Keeps.app Y1 [⟨.tip false, .ints .i64 [wd]⟩] none rfl
    have eN : newCells Y2 (.ints .i64 [0]) (.sl Y1.length 0 1 1) = some (.ints .i64 [wd]) := by rw [← hY2]; exact newI wd
    have hY2l := (keepsT kY1 kY2).2.1
    obtain ⟨t', H', ws', eA, ti', hws', kA, ct, _⟩ := appI (e := 8) (Or.inr rfl) (ti.keep (keepsN (keepsT kY1 kY2))) (show [wd].length = 1 from rfl) (by rw [List.length_take]; omega) (show g.length ≤ Y2.length by have := k2.2.1; omega)
    have hnx : (wts L).take (j + 1) = (wts L).take j ++ [wd] := by rw [List.take_add_one, hwj]; rfl
    rw [← hnx] at ti'
    have kF : Keeps g H' none := keepsO hg (keepsT k2 (keepsT kY1 kY2)) kA ti.blk
    have hww : ∀ l, wadd g.length l ws' = l := fun l => wadd_ge hws'
    have nt' := ti'.iv.na
    by_cases cI : I64 q
    · rw [if_pos cI] at hw1
      have eD' : ∀ g, W CP 50 [.int .i64 z, .int .i64 1024, .int .i64 w1] g = some (.tup [.int .i64 q, .int .i64 0], g, []) := fun g => by rw [eD g]; unfold qres; rw [if_pos cI]
      by_cases cQ : 1048576 < q
      · rw [if_pos cQ] at hw1
        subst hw1
        simp (maxDischargeDepth := 9) -implicitDefEqProofs only [push_cast, simprocAttr, nadd1, nadd2, nadd3, nadd4, nadd5, nadd6, nadd7, nadd8, nadd9, nadd10, nadd11, nadd12, ABlk.new, hlt2', u1, nv, lv, nt, ↓uia_eq, x1, ↓uld_eq 34, x2, hY1, bY1, lY1, eB, eD', cQ, hY2, eN, eA, nt', hww, g1]
        refine loop_next (m - (j + 1)) (by omega) ⟨j + 1, t', rfl, by omega, ?_, ti', kF, rfl⟩
        simp (maxDischargeDepth := 9) -implicitDefEqProofs only [push_cast, simprocAttr, nv, nt']; try simp
      · rw [if_neg cQ] at hw1
        subst hw1
        simp (maxDischargeDepth := 9) -implicitDefEqProofs only [push_cast, simprocAttr, nadd1, nadd2, nadd3, nadd4, nadd5, nadd6, nadd7, nadd8, nadd9, nadd10, nadd11, nadd12, ABlk.new, hlt2', u1, nv, lv, nt, ↓uia_eq, x1, ↓uld_eq 34, x2, hY1, bY1, lY1, eB, eD', cQ, hY2, eN, eA, nt', hww, g1]
        refine loop_next (m - (j + 1)) (by omega) ⟨j + 1, t', rfl, by omega, ?_, ti', kF, rfl⟩
        simp (maxDischargeDepth := 9) -implicitDefEqProofs only [push_cast, simprocAttr, nv, nt']; try simp
    · rw [if_neg cI, if_neg (by decide)] at hw1
      have eD' : ∀ g, W CP 50 [.int .i64 z, .int .i64 1024, .int .i64 w1] g = some (.tup [.int .i64 0, .int .i64 20], g, []) := fun g => by rw [eD g]; unfold qres; rw [if_neg cI]
      subst hw1
      simp (maxDischargeDepth := 9) -implicitDefEqProofs only [push_cast, simprocAttr, nadd1, nadd2, nadd3, nadd4, nadd5, nadd6, nadd7, nadd8, nadd9, nadd10, nadd11, nadd12, ABlk.new, hlt2', u1, nv, lv, nt, ↓uia_eq, x1, ↓uld_eq 34, x2, hY1, bY1, lY1, eB, eD', hY2, eN, eA, nt', hww, g1]
      refine loop_next (m - (j + 1)) (by omega) ⟨j + 1, t', rfl, by omega, ?_, ti', kF, rfl⟩
      simp (maxDischargeDepth := 9) -implicitDefEqProofs only [push_cast, simprocAttr, nv, nt']; try simp
  · have hnl2 : ¬ (j : Int) < (m : Int) := by omega
    have hfull : (wts L).take j = wts L := List.take_of_length_le (by rw [wts_len]; omega)
    rw [hfull] at ti
    simp (maxDischargeDepth := 9) -implicitDefEqProofs only [push_cast, simprocAttr, nadd1, nadd2, nadd3, nadd4, nadd5, nadd6, nadd7, nadd8, nadd9, nadd10, nadd11, nadd12, hnl2, nt]
    exact ⟨ti_mono ti, k2⟩
/-- What a weighted middle adds to the mean, and to the jitter. -/
theorem part2_c {mid w lo hi at' all : Int} {b1 b2 : Nat} {st1 st2 : BSt} (hg : Good h) (e1 : h[b1]? = some ⟨st1, .ints .i64 [at', lo, hi]⟩) (e2 : h[b2]? = some ⟨st2, .ints .i64 [all]⟩) (l1 : BLiv st1) (l2 : BLiv st2)
    (hm : I64 (mid - lo)) (hw : I64 w) (ha : 0 < all ∧ all ≤ 9223372036854775807) : W CP 60 [.int .i64 mid, .int .i64 w, .ptr b1 0, .ptr b2 0] h = some (qres (mdv false (mid - lo) w all), h, []) := by
  have eD := fun g => fix_MulDiv hm hw ha g
  have w1 : IntKind.i64.wrap (mid - lo) = mid - lo := wr_i64 _ (by unfold I64 at hm; omega) (by unfold I64 at hm; omega)
  obtain ⟨d, hd⟩ : ∃ d, mid - lo = d := ⟨_, rfl⟩
  have w1' : IntKind.i64.wrap (mid - lo) = d := by rw [w1, hd]
  rw [hd] at eD ⊢
  have hq := qres_lt (mdv false d w all)
  obtain ⟨Q, hQ⟩ : ∃ Q, mdv false d w all = Q := ⟨_, rfl⟩
  rw [hQ] at eD hq ⊢
  refine W_quietP (m := M60) rfl rfl (by simp [AV.lts, AV.lt]) rfl (AV.lt_mono (Nat.zero_le _) _ hq) hg ?_
  have key : ∃ x y : Int, qres Q = .tup [.int .i64 x, .int .i64 y] := by unfold qres; split <;> exact ⟨_, _, rfl⟩
  obtain ⟨x, y, hxy⟩ := key
  rw [hxy] at eD ⊢
  rcases l1 with rfl | ⟨o1, rfl⟩ <;> rcases l2 with rfl | ⟨o2, rfl⟩
  all_goals
    simp (maxDischargeDepth := 9) -implicitDefEqProofs only [push_cast, simprocAttr, M60, e1, e2, w1', eD]
    exact quietB
theorem part3_c {mid w mean all : Int} {b1 b2 : Nat} {st1 st2 : BSt} (hg : Good h) (e1 : h[b1]? = some ⟨st1, .ints .i64 [mean]⟩) (e2 : h[b2]? = some ⟨st2, .ints .i64 [all]⟩) (l1 : BLiv st1) (l2 : BLiv st2)
    (hm : -9223372036854775808 < mid - mean ∧ mid - mean ≤ 9223372036854775807) (hw : I64 w) (ha : 0 < all ∧ all ≤ 9223372036854775807) : W CP 61 [.int .i64 mid, .int .i64 w, .ptr b1 0, .ptr b2 0] h = some (qres (mdv true ((mid - mean).natAbs : Int) w all), h, []) := by
  have eA := fun g => fix_Abs (a := mid - mean) ⟨by omega, by omega⟩ g
  simp only [if_neg (show ¬ mid - mean = -9223372036854775808 by omega)] at eA
  have eD := fun g => fix_MulDivUp (a := ((mid - mean).natAbs : Int)) ⟨by omega, by omega⟩ hw ha g
  have w1 : IntKind.i64.wrap (mid - mean) = mid - mean := wr_i64 _ (by omega) (by omega)
  obtain ⟨d, hd⟩ : ∃ d, mid - mean = d := ⟨_, rfl⟩
  have w1' : IntKind.i64.wrap (mid - mean) = d := by rw [w1, hd]
  rw [hd] at eD eA ⊢
  obtain ⟨dn, hdn⟩ : ∃ n : Int, (d.natAbs : Int) = n := ⟨_, rfl⟩
  rw [hdn] at eD eA ⊢
  have hq := qres_lt (mdv true dn w all)
  obtain ⟨Q, hQ⟩ : ∃ Q, mdv true dn w all = Q := ⟨_, rfl⟩
  rw [hQ] at eD hq ⊢
  have n2 : ¬ h.length ≤ b2 := by have := (List.getElem?_eq_some_iff.1 e2).1; omega
  refine W_quietP (m := M61) rfl rfl (by simp [AV.lts, AV.lt]) rfl (AV.lt_mono (Nat.zero_le _) _ hq) hg ?_
  have key : ∃ x y : Int, qres Q = .tup [.int .i64 x, .int .i64 y] := by unfold qres; split <;> exact ⟨_, _, rfl⟩
  obtain ⟨x, y, hxy⟩ := key
  rw [hxy] at eD ⊢
  rcases l1 with rfl | ⟨o1, rfl⟩ <;> rcases l2 with rfl | ⟨o2, rfl⟩
  all_goals
    simp (maxDischargeDepth := 9) -implicitDefEqProofs only [push_cast, simprocAttr, M61, e1, e2, w1', eA, eD, n2, decide_false, Bool.not_false, Bool.and_true]
    exact quietB
end
end Go.Proofs.YtcpiohklljppaaaW.AI.D

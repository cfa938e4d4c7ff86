import Derived.Test.YthcjmmngenogmaaAIEfilA
namespace Go.Proofs.YthcjmmngenogmaaW.AI.E
open Go Go.Proofs.YthcjmmngenogmaaW.AI
set_option maxRecDepth 100000
set_option linter.unusedSimpArgs false
set_option linter.unusedVariables false
set_option linter.unusedSectionVars false
def mS (s : Sp) : Int := midS s.1 s.2.1 s.2.2
theorem mS_in (s : Sp) : 0 ≤ mS s ∧ mS s ≤ 4611686018427387904 := by
  unfold mS midS
  split
  · rename_i h
    have := mayS_iff.1 h
    omega
  · omega
theorem wS_in (s : Sp) : 0 ≤ wS s ∧ wS s ≤ 4611686018427387904 := by
  unfold wS widS
  split
  · rename_i h
    have := mayS_iff.1 h
    omega
  · omega
/-- How far middles are apart. -/
def apS (s t : Sp) : Int := ((mS s - mS t).natAbs : Int)
theorem apS_in (s t : Sp) : 0 ≤ apS s t ∧ apS s t ≤ 4611686018427387904 := by
  have := mS_in s
  have := mS_in t
  unfold apS
  omega
theorem apart_c (s t : Sp) (h : AHeap) : W CP 82 [spV s, spV t] h = some (.int .i64 (apS s t), h, []) := by
  have h1 := mS_in s
  have h2 := mS_in t
  have e1 := fun g => span_Mid (a := s.1) (l := s.2.1) (u := s.2.2) g
  have e2 := fun g => span_Mid (a := t.1) (l := t.2.1) (u := t.2.2) g
  unfold apS
  unfold mS at h1 h2 ⊢
  obtain ⟨m1, hm1⟩ : ∃ w, midS s.1 s.2.1 s.2.2 = w := ⟨_, rfl⟩
  obtain ⟨m2, hm2⟩ : ∃ w, midS t.1 t.2.1 t.2.2 = w := ⟨_, rfl⟩
  rw [hm1] at e1 h1 ⊢
  rw [hm2] at e2 h2 ⊢
  have w1 : IntKind.i64.wrap (m1 - m2) = m1 - m2 := wr_i64 _ (by omega) (by omega)
  have eA := fun g => fix_Abs (a := m1 - m2) ⟨by omega, by omega⟩ g
  simp only [if_neg (show ¬ m1 - m2 = -9223372036854775808 by omega)] at eA
  obtain ⟨d, hd⟩ : ∃ d, m1 - m2 = d := ⟨_, rfl⟩
  have w1' : IntKind.i64.wrap (m1 - m2) = d := by rw [w1, hd]
  rw [hd] at eA ⊢
  obtain ⟨q, hq⟩ : ∃ q, ((d.natAbs : Nat) : Int) = q := ⟨_, rfl⟩
  rw [hq] at eA ⊢
  obtain ⟨x, y, z⟩ := s
  obtain ⟨x', y', z'⟩ := t
  simp only at e1 e2
  refine W_val (m := M82) (fun _ => rfl) rfl rfl rfl ?_ h
  simp (maxDischargeDepth := 9) -implicitDefEqProofs only [push_cast, simprocAttr, M82, nadd1, nadd2, nadd3, nadd4, nadd5, nadd6, nadd7, nadd8, nadd9, nadd10, nadd11, nadd12, e1, e2, w1', eA, decide_false, Bool.not_false, Bool.and_true]
/-- Sums of a row of distances of which one is 0. -/
theorem sum_zero {M : Int} (hM : 0 ≤ M) : ∀ {D : List Int} {b : Nat}, (∀ d ∈ D, 0 ≤ d ∧ d ≤ M) → D[b]? = some 0 → D.sum ≤ ((D.length : Int) - 1) * M
  | [], b, _, h => by simp at h
  | d :: D, 0, hD, h => by
    simp at h
    subst h
    have : ∀ (E : List Int), (∀ d ∈ E, 0 ≤ d ∧ d ≤ M) → E.sum ≤ (E.length : Int) * M := by
      intro E
      induction E with
      | nil => intro _; simp
      | cons e E ih =>
        intro hE
        have := ih fun x hx => hE x (List.mem_cons_of_mem _ hx)
        have := hE e List.mem_cons_self
        simp only [List.sum_cons, List.length_cons, Int.natCast_add, Int.natCast_one, Int.add_mul, Int.one_mul]
        omega
    have := this D fun x hx => hD x (List.mem_cons_of_mem _ hx)
    simp only [List.sum_cons, List.length_cons, Int.natCast_add, Int.natCast_one]
    rw [show ((D.length : Int) + 1 - 1) = (D.length : Int) by omega]
    omega
  | d :: D, b + 1, hD, h => by
    have ih := sum_zero hM (D := D) (b := b) (fun x hx => hD x (List.mem_cons_of_mem _ hx)) (by simpa using h)
    have := hD d List.mem_cons_self
    simp only [List.sum_cons, List.length_cons, Int.natCast_add, Int.natCast_one]
    rw [show ((D.length : Int) + 1 - 1) = ((D.length : Int) - 1) + 1 by omega, Int.add_mul, Int.one_mul]
    omega
theorem sum_take {D : List Int} (hD : ∀ d ∈ D, 0 ≤ d) (i : Nat) : 0 ≤ (D.take i).sum ∧ (D.take i).sum ≤ D.sum := by
  induction D generalizing i with
  | nil => simp
  | cons d D ih =>
    have h0 := hD d List.mem_cons_self
    cases i with
    | zero =>
      have := ih (fun x hx => hD x (List.mem_cons_of_mem _ hx)) D.length
      rw [List.take_length] at this
      simp only [List.take_zero, List.sum_nil, List.sum_cons]
      omega
    | succ i =>
      have := ih (fun x hx => hD x (List.mem_cons_of_mem _ hx)) i
      simp only [List.take_succ_cons, List.sum_cons]
      omega
def bestS (A : List Sp) : Sp := (A[bestN A A.length]?).getD (0, 0, 0)
def distL (A : List Sp) : List Int := A.map fun s => apS s (bestS A)
/-- The jitter of a row. -/
def jitS (A : List Sp) : Int := (distL A).sum / ((A.length : Int) - 1)
theorem bestS_at {A : List Sp} (hA : A ≠ []) : A[bestN A A.length]? = some (bestS A) := by
  have h0 : 0 < A.length := List.length_pos_iff.2 hA
  have := bestN_lt (L := A) h0 A.length (Nat.le_refl _)
  unfold bestS
  rw [List.getElem?_eq_getElem this]
  rfl
theorem dist_sum {A : List Sp} (hA : A ≠ []) : (distL A).sum ≤ ((A.length : Int) - 1) * 4611686018427387904 := by
  have h := bestS_at hA
  have := sum_zero (M := 4611686018427387904) (by decide) (D := distL A) (b := bestN A A.length) (fun d hd => by
    obtain ⟨s, _, rfl⟩ := List.mem_map.1 hd
    exact apS_in _ _) (by
    unfold distL
    rw [List.getElem?_map, h]
    simp [apS])
  unfold distL at this
  rw [List.length_map] at this
  exact this
theorem jitS_in {A : List Sp} (hA : 2 ≤ A.length) : 0 ≤ jitS A ∧ jitS A ≤ 4611686018427387904 := by
  have hA0 : A ≠ [] := by rintro rfl; simp at hA
  have h1 := dist_sum hA0
  have h2 := (sum_take (D := distL A) (fun d hd => by
    obtain ⟨s, _, rfl⟩ := List.mem_map.1 hd
    exact (apS_in _ _).1) (distL A).length).1
  rw [List.take_length] at h2
  unfold jitS
  refine ⟨Int.ediv_nonneg h2 (by omega), ?_⟩
  refine Int.ediv_le_of_le_mul (by omega) ?_
  rw [Int.mul_comm]
  exact h1
section
variable {h : AHeap} {p r : Nat} {C : List Int} {F : FS}
set_option maxHeartbeats 4000000 in
theorem Jitter_ok {raw : Int} (hg : Good h) (a : FilAt h p F r C) (hc : canL F raw) (h2 : 2 ≤ F.L.length) : W CP 43 [.ptr p 0, .int .i64 raw] h = some (.int .i64 (jitS (ageL F raw)), h, []) := by
  obtain ⟨v, js, eA, rv, hG⟩ := aged_ok hg a hc
  have k0 := keepsG hG
  obtain ⟨A, hA⟩ : ∃ A, ageL F raw = A := ⟨_, rfl⟩
  have lA : A.length = F.L.length := by rw [← hA, ageL_len]
  rw [hA] at rv ⊢
  obtain ⟨H, hH⟩ : ∃ H, h ++ js = H := ⟨_, rfl⟩
  rw [hH] at eA rv hG k0
  clear hH
  have h8 : A.length ≤ 8 := by rw [lA]; exact a.le
  have hA0 : A ≠ [] := by rintro rfl; simp at lA; omega
  have eB := best_c hG rv hA0 h8
  have hbs := bestS_at hA0
  have hds := dist_sum hA0
  have nv := rv.na
  have lv := rv.len
  obtain ⟨m, hm⟩ : ∃ m, A.length = m := ⟨_, rfl⟩
  rw [hm] at eB hbs hds lv h8
  obtain ⟨bi, hbi⟩ : ∃ bi, bestN A m = bi := ⟨_, rfl⟩
  rw [hbi] at eB hbs
  have hm2 : ¬ (m : Int) < 2 := by omega
  obtain ⟨n1, hn1⟩ : ∃ n1 : Nat, m - 1 = n1 := ⟨_, rfl⟩
  have w1 : IntKind.i64.wrap ((m : Int) - 1) = (n1 : Int) := by rw [wr_i64 _ (by omega) (by omega)]; omega
  have hjit : jitS A = (distL A).sum / (n1 : Int) := by unfold jitS; rw [hm]; congr 1; omega
  rw [show ((m : Int) - 1) = (n1 : Int) by omega] at hds
  have hdp : ∀ d ∈ distL A, 0 ≤ d := fun d hd => by
    obtain ⟨s, _, rfl⟩ := List.mem_map.1 hd
    exact (apS_in _ _).1
  have hn0 : ¬ (n1 : Int) = 0 := by omega
  refine W_quietP (m := M43) rfl rfl (by simp [AV.lts, AV.lt]) rfl rfl hg ?_
  rw [hjit]
  simp (maxDischargeDepth := 9) -implicitDefEqProofs only [push_cast, simprocAttr, M43, eA, nv, lv, hm2, eB, w1]
  refine wp_kRes (wp_kSeq (wp_kBlock ?_))
  refine wp_loop (fun k x h' ws => ∃ (i : Nat) (wh ov : Int), k = m - i ∧ i ≤ m ∧ x = [(5, v), (7, .int .i64 (bi : Int)), (8, .int .i64 wh), (9, .int .i64 ov), (10, .int .i64 (n1 : Int)), (32, v), (33, .int .i64 (m : Int)), (34, .int .i64 (i : Int))] ∧
    0 ≤ wh ∧ 0 ≤ ov ∧ ov ≤ i * n1 ∧ wh * n1 + ov = ((distL A).take i).sum ∧ Keeps H h' none ∧ ws = []) m ?_ ?_
  · refine ⟨0, 0, 0, by omega, by omega, ?_, by omega, by omega, by simp, by simp, Keeps.refl _ _, rfl⟩
    simp (maxDischargeDepth := 9) -implicitDefEqProofs only [push_cast, simprocAttr, nv]; try rfl
  · rintro k xx h' ws ⟨i, wh, ov, rfl, hi, rfl, q0, q1, q2, q3, kh, rfl⟩
    have hgh := kh.2.2 hG
    have v1 : IntKind.i64.wrap ((i : Int) + 1) = (i : Int) + 1 := wr_i64 _ (by omega) (by omega)
    by_cases hlt : i < m
    · have hlt' : (i : Int) < (m : Int) := by omega
      obtain ⟨s, hs⟩ : ∃ s, A[i]? = some s := ⟨_, List.getElem?_eq_getElem (by omega)⟩
      obtain ⟨b, x1, x2, _⟩ := (rv.kept kh).at hs
      have hap := apS_in s (bestS A)
      have eP := fun g => apart_c s (bestS A) g
      have hdi : (distL A)[i]? = some (apS s (bestS A)) := by unfold distL; rw [List.getElem?_map, hs]; rfl
      have hts : ((distL A).take (i + 1)).sum = ((distL A).take i).sum + apS s (bestS A) := by rw [List.take_add_one, hdi, List.sum_append]; simp
      have htl := (sum_take hdp (i + 1)).2
      obtain ⟨d, hd⟩ : ∃ d, apS s (bestS A) = d := ⟨_, rfl⟩
      rw [hd] at hap eP hts
      have e1 := Int.mul_ediv_add_emod d (n1 : Int)
      have e2 := Int.emod_nonneg d (show (n1 : Int) ≠ 0 by omega)
      have e3 := Int.emod_lt_of_pos d (show (0 : Int) < (n1 : Int) by omega)
      have e4 := Int.ediv_nonneg hap.1 (show (0 : Int) ≤ (n1 : Int) by omega)
      have hq : d.tdiv (n1 : Int) = d / n1 := Int.tdiv_eq_ediv_of_nonneg hap.1
      have hr : d.tmod (n1 : Int) = d % n1 := Int.tmod_eq_emod_of_nonneg hap.1
      obtain ⟨dq, hdq⟩ : ∃ x, d / (n1 : Int) = x := ⟨_, rfl⟩
      obtain ⟨dr, hdr⟩ : ∃ x, d % (n1 : Int) = x := ⟨_, rfl⟩
      rw [hdq] at e1 e4 hq
      rw [hdr] at e1 e2 e3 hr
      have hsum2 : (wh + dq) * n1 + (ov + dr) = ((distL A).take (i + 1)).sum := by
        rw [hts, ← q3, Int.add_mul]
        have : (n1 : Int) * dq = dq * n1 := Int.mul_comm _ _
        omega
      have hov : ov + dr ≤ ((i + 1 : Nat) : Int) * n1 := by
        rw [Int.natCast_add, Int.natCast_one, Int.add_mul, Int.one_mul]; omega
      have hin : (i : Int) * n1 ≤ 8 * 8 := Int.mul_le_mul (by omega) (by omega) (by omega) (by omega)
      have hwh : wh + dq ≤ 4611686018427387904 := by
        have : (wh + dq) * n1 ≤ 4611686018427387904 * n1 := by
          rw [Int.mul_comm 4611686018427387904]; omega
        exact Int.le_of_mul_le_mul_right this (by omega)
      have w2 : IntKind.i64.wrap dq = dq := wr_i64 _ (by omega) (by omega)
      have w3 : IntKind.i64.wrap dr = dr := wr_i64 _ (by omega) (by omega)
      have w4 : IntKind.i64.wrap (wh + dq) = wh + dq := wr_i64 _ (by omega) (by omega)
      have w5 : IntKind.i64.wrap (ov + dr) = ov + dr := wr_i64 _ (by omega) (by omega)
      obtain ⟨Y1, hY1⟩ : ∃ Y, h' ++ [ABlk.new (.ints .i64 [0, 0, 0])] = Y := ⟨_, rfl⟩
      have kY1 : Keeps h' Y1 none := by rw [← hY1]; exact Keeps.app h' [⟨.tip false, .ints .i64 [0, 0, 0]⟩] none rfl
      have bY1 : Y1[h'.length]? = some ⟨.tip false, .ints .i64 [0, 0, 0]⟩ := by rw [← hY1]; exact fend _ _ _
      have lY1 := (List.getElem?_eq_some_iff.1 bY1).1
      obtain ⟨x, y, z⟩ := s
      obtain ⟨H1, hH1⟩ : ∃ H, Y1.set h'.length ⟨.tip false, .ints .i64 [x, y, z]⟩ = H := ⟨_, rfl⟩
      have kH1 : Keeps h' H1 none := by rw [← hH1]; exact keepsS kY1 (Nat.le_refl _) rfl
      have bH1 : H1[h'.length]? = some ⟨.tip false, .ints .i64 [x, y, z]⟩ := by rw [← hH1]; exact List.getElem?_set_self lY1
      have lH1 := (List.getElem?_eq_some_iff.1 bH1).1
      obtain ⟨b', y1, y2, _⟩ := (rv.kept (keepsT kh kH1)).at hbs
      have hlo : ¬ h'.length < h.length := by have := (keepsT k0 kh).2.1; omega
      simp (maxDischargeDepth := 9) -implicitDefEqProofs only [push_cast, simprocAttr, nadd1, nadd2, nadd3, nadd4, nadd5, nadd6, nadd7, nadd8, nadd9, nadd10, nadd11, nadd12, hlt', v1, nv, lv, ↓uia_eq, x1, ↓uld_eq 36, x2, hY1, bY1, lY1, hH1, bH1, lH1, y1, ↓uld_eq 41, y2, eP, hn0, hq, hr, w2, w3, w4, w5, hlo]
      refine loop_next (m - (i + 1)) (by omega) ⟨i + 1, wh + dq, ov + dr, rfl, by omega, ?_, by omega, by omega, hov, hsum2, keepsT kh kH1, rfl⟩
      simp (maxDischargeDepth := 9) -implicitDefEqProofs only [push_cast, simprocAttr, nv]; try simp
    · have hi2 : i = m := by omega
      subst hi2
      have hnl : ¬ (i : Int) < (i : Int) := by omega
      have hin : (i : Int) * n1 ≤ 8 * 8 := Int.mul_le_mul (by omega) (by omega) (by omega) (by omega)
      have hfull : ((distL A).take i).sum = (distL A).sum := by
        rw [show i = (distL A).length by unfold distL; rw [List.length_map, hm], List.take_length]
      rw [hfull] at q3
      have hq : ov.tdiv (n1 : Int) = ov / n1 := Int.tdiv_eq_ediv_of_nonneg q1
      have hres : (distL A).sum / (n1 : Int) = wh + ov / n1 := by
        rw [← q3, Int.add_comm, Int.add_mul_ediv_right _ _ (by omega), Int.add_comm]
      have hb := dist_sum hA0
      have e4 := Int.ediv_nonneg q1 (show (0 : Int) ≤ (n1 : Int) by omega)
      have e5 : wh + ov / n1 ≤ 4611686018427387904 := by
        rw [← hres]
        refine Int.ediv_le_of_le_mul (by omega) ?_
        rw [Int.mul_comm]; exact hds
      have e6 : ov / (n1 : Int) ≤ ov := Int.ediv_le_self _ q1
      rw [hres]
      obtain ⟨oq, hoq⟩ : ∃ x, ov / (n1 : Int) = x := ⟨_, rfl⟩
      rw [hoq] at hq e4 e5 e6 ⊢
      have w2 : IntKind.i64.wrap oq = oq := wr_i64 _ (by omega) (by omega)
      have w3 : IntKind.i64.wrap (wh + oq) = wh + oq := wr_i64 _ (by omega) (by omega)
      obtain ⟨js', hj⟩ := (keepsT k0 kh).behind
      simp (maxDischargeDepth := 9) -implicitDefEqProofs only [push_cast, simprocAttr, nadd1, nadd2, nadd3, nadd4, nadd5, nadd6, nadd7, nadd8, nadd9, nadd10, nadd11, nadd12, hnl, hn0, hq, w2, w3]
      exact ⟨rfl, ⟨js', hj⟩, rfl⟩
theorem Jitter_no {raw : Int} (hg : Good h) (a : FilAt h p F r C) (hc : ¬ canL F raw ∨ F.L.length < 2) : W CP 43 [.ptr p 0, .int .i64 raw] h = some (.int .i64 0, h, []) := by
  refine W_quietP (m := M43) rfl rfl (by simp [AV.lts, AV.lt]) rfl rfl hg ?_
  by_cases c : canL F raw
  · obtain ⟨v, js, eA, rv, hG⟩ := aged_ok hg a c
    have h2 : F.L.length < 2 := by rcases hc with h | h; exact absurd c h; exact h
    have nv := rv.na
    have lv := rv.len
    rw [ageL_len] at lv
    have hm2 : (F.L.length : Int) < 2 := by omega
    simp (maxDischargeDepth := 9) -implicitDefEqProofs only [push_cast, simprocAttr, M43, eA, nv, lv, hm2]
    exact quiet_i
  · have eA := aged_no hg a c
    simp (maxDischargeDepth := 9) -implicitDefEqProofs only [push_cast, simprocAttr, M43, eA]
    exact quietB
/-- Jitter, of whatever. -/
def jitF (F : FS) (raw : Int) : Int := if F.L.length < 2 then 0 else jitS (ageL F raw)
theorem Jitter_c {raw : Int} (hg : Good h) (a : FilAt h p F r C) (hc : canL F raw) : W CP 43 [.ptr p 0, .int .i64 raw] h = some (.int .i64 (jitF F raw), h, []) := by
  unfold jitF
  by_cases c : F.L.length < 2
  · rw [if_pos c]; exact Jitter_no hg a (Or.inr c)
  · rw [if_neg c]; exact Jitter_ok hg a hc (by omega)
theorem jitF_in (F : FS) (raw : Int) : 0 ≤ jitF F raw ∧ jitF F raw ≤ 4611686018427387904 := by
  unfold jitF
  by_cases c : F.L.length < 2
  · rw [if_pos c]; omega
  · rw [if_neg c]; exact jitS_in (by rw [ageL_len]; omega)
-- ------------------------------------------------------------------ jumps
def jmpB (F : FS) (s : Sp) : Bool := decide (wS s + wS (bestS (ageL F s.1)) + 3 * jitF F s.1 < apS s (bestS (ageL F s.1)))
theorem jumps_no {s : Sp} (hg : Good h) (a : FilAt h p F r C) (hc : ¬ canL F s.1 ∨ F.L.length < 3) : W CP 77 [.ptr p 0, spV s] h = some (.bool false, h, []) := by
  obtain ⟨x, y, z⟩ := s
  simp only at hc
  have hg1 : Good (h ++ [⟨.tip false, .ints .i64 [x, y, z]⟩]) := good_app hg rfl
  have a1 := a.app [⟨.tip false, .ints .i64 [x, y, z]⟩]
  have hset : ∀ q : List Int, (h ++ [(⟨.tip false, .ints .i64 [x, y, z]⟩ : ABlk), ⟨.tip false, .ints .i64 [0, 0, 0]⟩]).set (h.length + 1) ⟨.tip false, .ints .i64 q⟩ = h ++ [⟨.tip false, .ints .i64 [x, y, z]⟩, ⟨.tip false, .ints .i64 q⟩] := fun q => by
    rw [List.set_append_right _ _ (by omega), show h.length + 1 - h.length = 1 by omega]; rfl
  have hnl : ¬ h.length + 1 < h.length := by omega
  refine W_quietP (m := M77) rfl rfl (by simp [AV.lts, AV.lt]) rfl rfl hg ?_
  by_cases c : canL F x
  · obtain ⟨s, _, eB⟩ := Best_ok hg1 a1 c
    have h3 : F.L.length < 3 := by rcases hc with h | h; exact absurd c h; exact h
    have h3' : (F.L.length : Int) < 3 := by omega
    obtain ⟨x', y', z'⟩ := s
    have b := a.blk
    have l := (List.getElem?_eq_some_iff.1 b).1
    have f25 := fX_25 (r := r) a.len F.L.length F.used F.held
    have b2 : (h ++ [(⟨.tip false, .ints .i64 [x, y, z]⟩ : ABlk), ⟨.tip false, .ints .i64 [x', y', z']⟩])[p]? = some ⟨.tip false, .vals (fX r C F.L.length F.used F.held)⟩ := by rw [List.getElem?_append_left l]; exact b
    simp (maxDischargeDepth := 9) -implicitDefEqProofs only [push_cast, simprocAttr, M77, nadd1, nadd2, nadd3, nadd4, nadd5, nadd6, nadd7, nadd8, nadd9, nadd10, nadd11, nadd12, eB, hset, hnl, b2, f25, h3', Nat.zero_add]
    exact quiet_i
  · have eB := Best_no hg1 a1 c
    simp (maxDischargeDepth := 9) -implicitDefEqProofs only [push_cast, simprocAttr, M77, nadd1, nadd2, nadd3, nadd4, nadd5, nadd6, nadd7, nadd8, nadd9, nadd10, nadd11, nadd12, eB, hset, hnl]
    exact quiet_i
set_option maxHeartbeats 4000000 in
theorem jumps_c {s : Sp} (hg : Good h) (a : FilAt h p F r C) (hc : canL F s.1) (h3 : 3 ≤ F.L.length) : W CP 77 [.ptr p 0, spV s] h = some (.bool (jmpB F s), h, []) := by
  obtain ⟨x, y, z⟩ := s
  simp only at hc
  have hg1 : Good (h ++ [⟨.tip false, .ints .i64 [x, y, z]⟩]) := good_app hg rfl
  have a1 := a.app [⟨.tip false, .ints .i64 [x, y, z]⟩]
  have hset : ∀ q : List Int, (h ++ [(⟨.tip false, .ints .i64 [x, y, z]⟩ : ABlk), ⟨.tip false, .ints .i64 [0, 0, 0]⟩]).set (h.length + 1) ⟨.tip false, .ints .i64 q⟩ = h ++ [⟨.tip false, .ints .i64 [x, y, z]⟩, ⟨.tip false, .ints .i64 q⟩] := fun q => by
    rw [List.set_append_right _ _ (by omega), show h.length + 1 - h.length = 1 by omega]; rfl
  have hnl : ¬ h.length + 1 < h.length := by omega
  obtain ⟨s, hs, eB⟩ := Best_ok hg1 a1 hc
  have h3' : ¬ (F.L.length : Int) < 3 := by omega
  have hbs : bestS (ageL F x) = s := by unfold bestS; rw [ageL_len, hs]; rfl
  unfold jmpB
  simp only [hbs]
  have hw1 := wS_in (x, y, z)
  have hw2 := wS_in s
  have hj := jitF_in F x
  have hap := apS_in (x, y, z) s
  have e1 := fun g => span_Width (a := x) (l := y) (u := z) g
  have eP := fun g => apart_c (x, y, z) s g
  obtain ⟨w1, q1⟩ : ∃ w, wS (x, y, z) = w := ⟨_, rfl⟩
  obtain ⟨w2, q2⟩ : ∃ w, wS s = w := ⟨_, rfl⟩
  have e2 : ∀ g, W CP 38 [spV s] g = some (.int .i64 w2, g, []) := fun g => by rw [← q2]; exact span_Width g
  have e1 : ∀ g, W CP 38 [spA x y z] g = some (.int .i64 w1, g, []) := fun g => by rw [← q1]; exact span_Width g
  rw [q1, q2]
  rw [q1] at hw1
  rw [q2] at hw2
  obtain ⟨D, hD⟩ : ∃ D, apS (x, y, z) s = D := ⟨_, rfl⟩
  rw [hD] at eP hap ⊢
  have eJ := fun (js : AHeap) (hG : Good (h ++ js)) => Jitter_c (raw := x) hG (a.app js) hc
  obtain ⟨J, hJ⟩ : ∃ J, jitF F x = J := ⟨_, rfl⟩
  simp only [hJ] at eJ
  rw [hJ] at hj ⊢
  obtain ⟨x', y', z'⟩ := s
  have eJ := eJ [⟨.tip false, .ints .i64 [x, y, z]⟩, ⟨.tip false, .ints .i64 [x', y', z']⟩] (good_app hg rfl)
  have f1 := fun g => fix_AddSat (a := w1) (b := w2) ⟨by omega, by omega⟩ ⟨by omega, by omega⟩ g
  have hs0 : 0 ≤ sat (w1 + w2) ∧ sat (w1 + w2) ≤ 9223372036854775807 := by unfold sat clamp; split <;> (try split) <;> omega
  obtain ⟨S0, hS0⟩ : ∃ S, sat (w1 + w2) = S := ⟨_, rfl⟩
  have fS : ∀ S, 0 ≤ S → S ≤ 9223372036854775807 → 0 ≤ sat (S + J) ∧ sat (S + J) ≤ 9223372036854775807 := fun S a b => by unfold sat clamp; split <;> (try split) <;> omega
  rw [hS0] at f1 hs0
  have f2 := fun g => fix_AddSat (a := S0) (b := J) ⟨by omega, by omega⟩ ⟨by omega, by omega⟩ g
  have hs1 := fS S0 hs0.1 hs0.2
  obtain ⟨S1, hS1⟩ : ∃ S, sat (S0 + J) = S := ⟨_, rfl⟩
  rw [hS1] at f2 hs1
  have f3 := fun g => fix_AddSat (a := S1) (b := J) ⟨by omega, by omega⟩ ⟨by omega, by omega⟩ g
  have hs2 := fS S1 hs1.1 hs1.2
  obtain ⟨S2, hS2⟩ : ∃ S, sat (S1 + J) = S := ⟨_, rfl⟩
  rw [hS2] at f3 hs2
  have f4 := fun g => fix_AddSat (a := S2) (b := J) ⟨by omega, by omega⟩ ⟨by omega, by omega⟩ g
  have hs3 := fS S2 hs2.1 hs2.2
  obtain ⟨S3, hS3⟩ : ∃ S, sat (S2 + J) = S := ⟨_, rfl⟩
  rw [hS3] at f4 hs3
  have hfin : decide (w1 + w2 + 3 * J < D) = decide (S3 < D) := by
    have : (w1 + w2 + 3 * J < D) ↔ S3 < D := by
      rw [← hS3, ← hS2, ← hS1, ← hS0]
      unfold sat clamp
      repeat' split
      all_goals omega
    exact decide_eq_decide.2 this
  rw [hfin]
  have b := a.blk
  have l := (List.getElem?_eq_some_iff.1 b).1
  have f25 := fX_25 (r := r) a.len F.L.length F.used F.held
  have b2 : (h ++ [(⟨.tip false, .ints .i64 [x, y, z]⟩ : ABlk), ⟨.tip false, .ints .i64 [x', y', z']⟩])[p]? = some ⟨.tip false, .vals (fX r C F.L.length F.used F.held)⟩ := by rw [List.getElem?_append_left l]; exact b
  have hn1 : ¬ h.length + 2 ≤ h.length + 1 := by omega
  refine W_quietP (m := M77) rfl rfl (by simp [AV.lts, AV.lt]) rfl rfl hg ?_
  simp (maxDischargeDepth := 9) -implicitDefEqProofs only [push_cast, simprocAttr, M77, nadd1, nadd2, nadd3, nadd4, nadd5, nadd6, nadd7, nadd8, nadd9, nadd10, nadd11, nadd12, eB, hset, hnl, b2, f25, h3', Nat.zero_add, e1, e2, f1, hn1, decide_false, Bool.not_false, Bool.and_true]
  refine wp_kRes (wp_kSeq (wp_kBlock ?_))
  refine wp_loop (fun k xx h' ws => ∃ (i : Nat) (S : Int), k = 3 - i ∧ i ≤ 3 ∧ (i = 0 ∧ S = S0 ∨ i = 1 ∧ S = S1 ∨ i = 2 ∧ S = S2 ∨ i = 3 ∧ S = S3) ∧ xx = [(0, .ptr p 0), (3, .ptr h.length 0), (5, .ptr (h.length + 1) 0), (7, .int .i64 S), (29, .int .i64 (i : Int))] ∧ (∃ H, H = h ++ [(⟨.tip false, .ints .i64 [x, y, z]⟩ : ABlk), ⟨.tip false, .ints .i64 [x', y', z']⟩] ∧ h' = H) ∧ ws = []) 3 ?_ ?_
  · refine ⟨0, S0, by omega, by omega, Or.inl ⟨rfl, rfl⟩, ?_, ⟨_, rfl, rfl⟩, rfl⟩
    simp (maxDischargeDepth := 9) -implicitDefEqProofs only [push_cast, simprocAttr]; try rfl
  · rintro k xx h' ws ⟨i, S, rfl, hi, hor, rfl, ⟨H, hH, hh⟩, rfl⟩
    obtain rfl : h' = H := hh
    rw [← hH] at eJ b2
    have c1 : h'[h.length]? = some ⟨.tip false, .ints .i64 [x, y, z]⟩ := by rw [hH]; exact fend _ _ _
    have c2 : h'[h.length + 1]? = some ⟨.tip false, .ints .i64 [x', y', z']⟩ := by rw [hH]; exact fend1 _ _ _ _
    have c1l := (List.getElem?_eq_some_iff.1 c1).1
    have c2l := (List.getElem?_eq_some_iff.1 c2).1
    rcases hor with ⟨rfl, rfl⟩ | ⟨rfl, rfl⟩ | ⟨rfl, rfl⟩ | ⟨rfl, rfl⟩
    · simp (maxDischargeDepth := 9) -implicitDefEqProofs only [push_cast, simprocAttr, nadd1, nadd2, nadd3, nadd4, nadd5, nadd6, nadd7, nadd8, nadd9, nadd10, nadd11, nadd12, c1, c1l, eJ, f2]
      refine loop_next 2 (by omega) ⟨1, S1, rfl, by omega, Or.inr (Or.inl ⟨rfl, rfl⟩), ?_, ⟨_, hH, rfl⟩, rfl⟩
      simp (maxDischargeDepth := 9) -implicitDefEqProofs only [push_cast, simprocAttr]; try simp
    · simp (maxDischargeDepth := 9) -implicitDefEqProofs only [push_cast, simprocAttr, nadd1, nadd2, nadd3, nadd4, nadd5, nadd6, nadd7, nadd8, nadd9, nadd10, nadd11, nadd12, c1, c1l, eJ, f3]
      refine loop_next 1 (by omega) ⟨2, S2, rfl, by omega, Or.inr (Or.inr (Or.inl ⟨rfl, rfl⟩)), ?_, ⟨_, hH, rfl⟩, rfl⟩
      simp (maxDischargeDepth := 9) -implicitDefEqProofs only [push_cast, simprocAttr]; try simp
    · simp (maxDischargeDepth := 9) -implicitDefEqProofs only [push_cast, simprocAttr, nadd1, nadd2, nadd3, nadd4, nadd5, nadd6, nadd7, nadd8, nadd9, nadd10, nadd11, nadd12, c1, c1l, eJ, f4]
      refine loop_next 0 (by omega) ⟨3, S3, rfl, by omega, Or.inr (Or.inr (Or.inr ⟨rfl, rfl⟩)), ?_, ⟨_, hH, rfl⟩, rfl⟩
      simp (maxDischargeDepth := 9) -implicitDefEqProofs only [push_cast, simprocAttr]; try simp
    · simp (maxDischargeDepth := 9) -implicitDefEqProofs only [push_cast, simprocAttr, nadd1, nadd2, nadd3, nadd4, nadd5, nadd6, nadd7, nadd8, nadd9, nadd10, nadd11, nadd12, c1, c1l, c2, c2l, eP]
      exact ⟨rfl, ⟨_, hH⟩, rfl⟩
end
end Go.Proofs.YthcjmmngenogmaaW.AI.E

import Derived.Test.YtcpiohklljppaaaAIDspr1
namespace Go.Proofs.YtcpiohklljppaaaW.AI.D
open Go Go.Proofs.YtcpiohklljppaaaW.AI
set_option maxRecDepth 100000
set_option linter.unusedSimpArgs false
set_option linter.unusedVariables false
set_option linter.unusedSectionVars false
theorem BigS.uv {S : Int} {n : Nat} {H : AHeap} {p : Bool} {v : AV} (b : BigS S n H (.agg [.bool p, v])) : p = decide (S < 0) ∧ ∃ L, UV H v L ∧ val L = aN S ∧ Can L ∧ L.length ≤ n := by
  obtain ⟨v', L, e, u⟩ := b
  simp only [AV.agg.injEq, List.cons.injEq, AV.bool.injEq, and_true] at e
  obtain ⟨rfl, rfl⟩ := e
  exact ⟨rfl, L, u⟩
set_option maxHeartbeats 8000000 in
theorem ref_sum {h : AHeap} {q : Nat} {l : List Int} (hg : Good h) (hq : h[q]? = some ⟨.tip false, .ints .i64 l⟩) (hl : l.length < 100) (hI : ∀ x ∈ l, I64 x) : W CP 52 [.sl q 0 l.length l.length] h = some (.int .i64 (bro l.sum), h, []) := by
  have hql := (List.getElem?_eq_some_iff.1 hq).1
  refine W_quietP (m := M52) rfl rfl (by simp [AV.lts, AV.lt]) rfl rfl hg ?_
  obtain ⟨Y, hY⟩ : ∃ Y, h ++ [ABlk.new (.vals [.bool false, .nils])] = Y := ⟨_, rfl⟩
  have kY : Keeps h Y none := by rw [← hY]; exact Keeps.app h [⟨.tip false, .vals [.bool false, .nils]⟩] none rfl
  have bY : Y[h.length]? = some ⟨.tip false, .vals [.bool false, .nils]⟩ := by rw [← hY]; exact end_get4 _ _ _
  have lY := (List.getElem?_eq_some_iff.1 bY).1
  obtain ⟨Z, hZ⟩ : ∃ Z, Y.set h.length ⟨.tip false, .vals [.bool false, .nils]⟩ = Z := ⟨_, rfl⟩
  have kZ : Keeps h Z none := by rw [← hZ]; exact keepsS kY (Nat.le_refl _) rfl
  have bZ : Z[h.length]? = some ⟨.tip false, .vals [.bool false, .nils]⟩ := by rw [← hZ]; exact List.getElem?_set_self lY
  simp (maxDischargeDepth := 9) -implicitDefEqProofs only [push_cast, simprocAttr, M52, hY, bY, lY, hZ]
  refine wp_kRes (wp_kSeq (wp_kBlock ?_))
  refine wp_loop (fun k a h' ws => ∃ (i : Nat) (v : AV) (L : List Int), k = l.length - i ∧ i ≤ l.length ∧ a = [(0, .sl q 0 l.length l.length), (3, .ptr h.length 0), (4, .int .i64 (i : Int))] ∧
      h'[h.length]? = some ⟨.tip false, .vals [.bool (decide ((l.take i).sum < 0)), v]⟩ ∧ UV h' v L ∧ val L = aN (l.take i).sum ∧ Can L ∧ L.length ≤ 4 + i ∧ Keeps h h' none ∧ ws = []) l.length ?_ ?_
  · refine ⟨0, .nils, [], by omega, by omega, ?_, ?_, UV.nil _, by simp [val, aN], by intro d hd; simp at hd, by simp, ?_, rfl⟩
    · simp (maxDischargeDepth := 9) -implicitDefEqProofs only [push_cast, simprocAttr]; try rfl
    · first | (simp only [List.take_zero, List.sum_nil]; exact bZ) | exact bZ
    · exact kZ
  · rintro k aa h' ws ⟨i, v, L, rfl, hi, rfl, b0, uv, vL, cL, lL, kh, rfl⟩
    have hgh := kh.2.2 hg
    have lb := (List.getElem?_eq_some_iff.1 b0).1
    have nv := uv.na
    have cv := uv.cell
    have v1 : IntKind.i64.wrap ((i : Int) + 1) = (i : Int) + 1 := wr_i64 _ (by omega) (by omega)
    have hq' := keepsN kh _ _ hq
    have hql' := (List.getElem?_eq_some_iff.1 hq').1
    obtain ⟨S, hS⟩ : ∃ S, (l.take i).sum = S := ⟨_, rfl⟩
    rw [hS] at b0 vL
    by_cases hlt : i < l.length
    · have hlt' : (i : Int) < (l.length : Int) := by omega
      obtain ⟨x, hx⟩ : ∃ x, l[i]? = some x := ⟨_, List.getElem?_eq_getElem hlt⟩
      have ix := hI x (List.mem_of_getElem? hx)
      have htk : (l.take (i + 1)).sum = S + x := by rw [List.take_add_one, hx, List.sum_append, hS]; simp
      obtain ⟨r1, j1, e1, bb1, hG1, _⟩ := Of_c (z := x) ix.1 ix.2 hgh
      have k1 : Keeps h' (h' ++ j1) none := keepsG hG1
      obtain ⟨H1, hH1⟩ : ∃ H, h' ++ j1 = H := ⟨_, rfl⟩
      rw [hH1] at e1 bb1 hG1 k1
      have uv1 := uv.keep (keepsN k1)
      obtain ⟨r2, j2, e2, bb2, hG2, _⟩ := Plus_c hG1 (⟨v, L, rfl, uv1, vL, cL, lL⟩ : BigS S (4 + i) H1 _) (bb1 : BigS x 4 H1 r1) (by omega) (by decide)
      have k2 : Keeps H1 (H1 ++ j2) none := keepsG hG2
      obtain ⟨H2, hH2⟩ : ∃ H, H1 ++ j2 = H := ⟨_, rfl⟩
      rw [hH2] at e2 bb2 hG2 k2
      obtain ⟨x1, L1, rfl, u1, _⟩ := bb1
      obtain ⟨x2, L2, rfl, u2, w2, c2, l2⟩ := bb2
      have n1 := u1.na
      have i1 := u1.cell
      have n2 := u2.na
      have i2 := u2.cell
      have b2 := keepsN k2 _ _ (keepsN k1 _ _ b0)
      have lb2 := (List.getElem?_eq_some_iff.1 b2).1
      have hlo : ¬ h'.length ≤ h.length := by omega
      obtain ⟨H3, hH3⟩ : ∃ H, H2.set h.length ⟨.tip false, .vals [.bool (decide (S + x < 0)), x2]⟩ = H := ⟨_, rfl⟩
      have b3 : H3[h.length]? = some ⟨.tip false, .vals [.bool (decide (S + x < 0)), x2]⟩ := by rw [← hH3]; exact List.getElem?_set_self lb2
      have u3 : UV H3 x2 L2 := by rw [← hH3]; exact UV.setv b2 u2
      have k3 : Keeps h H3 none := by rw [← hH3]; exact keepsS (keepsT kh (keepsT k1 k2)) (Nat.le_refl _) rfl
      obtain ⟨pS, hpS⟩ : ∃ p, decide (S < 0) = p := ⟨_, rfl⟩
      rw [hpS] at b0 b2 e2
      obtain ⟨pT, hpT⟩ : ∃ p, decide (S + x < 0) = p := ⟨_, rfl⟩
      rw [hpT] at e2 hH3
      obtain ⟨px, hpx⟩ : ∃ p, decide (x < 0) = p := ⟨_, rfl⟩
      rw [hpx] at e1 e2
      have lz := uv.shape
      rcases uv.shape with rfl | ⟨_, _, _, rfl⟩ | ⟨_, _, _, rfl⟩
      all_goals
        simp (maxDischargeDepth := 9) -implicitDefEqProofs only [push_cast, simprocAttr, nadd1, nadd2, nadd3, nadd4, nadd5, nadd6, nadd7, nadd8, nadd9, nadd10, nadd11, nadd12, hlt, hlt', v1, hq', hql', hx, b0, lb, nv, cv, e1, n1, i1, e2, n2, i2, b2, lb2, hlo, hH3, decide_false, Bool.not_false, Bool.and_true]
        refine loop_next (l.length - (i + 1)) (by omega) ⟨i + 1, x2, L2, rfl, by omega, ?_, by rw [htk]; exact b3, u3, by rw [htk]; exact w2, c2, by omega, k3, rfl⟩
        simp (maxDischargeDepth := 9) -implicitDefEqProofs only [push_cast, simprocAttr]; try simp
    · have hi2 : i = l.length := by omega
      subst hi2
      rw [List.take_length] at hS
      have hnl : ¬ (l.length : Int) < (l.length : Int) := by omega
      rw [hS]
      obtain ⟨js, hj⟩ := kh.behind
      have eI := Int_c (s := decide (S < 0)) hgh uv (by omega)
      rw [vL] at eI
      by_cases c1 : S < 0
      · have e : bro S = 0 := by unfold bro clamp; rw [if_pos c1]
        rw [e]
        rw [decide_eq_true c1] at b0
        simp (maxDischargeDepth := 9) -implicitDefEqProofs only [push_cast, simprocAttr, nadd1, nadd2, nadd3, nadd4, nadd5, nadd6, nadd7, nadd8, nadd9, nadd10, nadd11, nadd12, hnl, b0, lb, nv, cv]
        exact ⟨rfl, ⟨js, hj⟩, rfl⟩
      · have e : aN S = S := if_neg c1
        rw [e, decide_eq_false c1] at eI
        rw [decide_eq_false c1] at b0
        by_cases c2 : S ≤ 9223372036854775807
        · have eR : intR false S = true := by simp [intR, c2]
          have eN := fun g => ref_Near (t := S) g
          rw [intZ_ok (by omega) eR, eR] at eI
          have eZ : sgn false S = S := rfl
          rw [eZ] at eI
          obtain ⟨Q, hQ⟩ : ∃ Q, bro S = Q := ⟨_, rfl⟩
          rw [hQ] at eN ⊢
          rcases uv.shape with rfl | ⟨_, _, _, rfl⟩ | ⟨_, _, _, rfl⟩
          all_goals
            simp (maxDischargeDepth := 9) -implicitDefEqProofs only [push_cast, simprocAttr, nadd1, nadd2, nadd3, nadd4, nadd5, nadd6, nadd7, nadd8, nadd9, nadd10, nadd11, nadd12, hnl, b0, lb, nv, cv, eI, eN]
            exact ⟨rfl, ⟨js, hj⟩, rfl⟩
        · have eR : intR false S = false := by simp [intR]; omega
          have e : bro S = 4611686018427387904 := by unfold bro clamp; rw [if_neg c1, if_pos (by omega)]
          rw [e]
          rw [eR] at eI
          rcases uv.shape with rfl | ⟨_, _, _, rfl⟩ | ⟨_, _, _, rfl⟩
          all_goals
            simp (maxDischargeDepth := 9) -implicitDefEqProofs only [push_cast, simprocAttr, nadd1, nadd2, nadd3, nadd4, nadd5, nadd6, nadd7, nadd8, nadd9, nadd10, nadd11, nadd12, hnl, b0, lb, nv, cv, eI]
            exact ⟨rfl, ⟨js, hj⟩, rfl⟩
theorem ref_New {t f : Int} (h1 : 1 ≤ t) (h2 : t ≤ 1000000000) (h3 : 0 ≤ f) (h4 : f ≤ 500000) (h : AHeap) :
    W CP 16 [.int .i64 t, .int .i64 f] h = some (.tup [.ptr h.length 0, .int .i64 0], h ++ [⟨.tip false, .ints .i64 [t, f]⟩], []) := by
  have c1 : ¬ t < 1 := by omega
  have c2 : ¬ 1000000000 < t := by omega
  have c3 : ¬ f < 0 := by omega
  have c4 : ¬ 500000 < f := by omega
  have hb : ∀ h : AHeap, xbody (W CP) M16 [.int .i64 t, .int .i64 f] h = some (.tup [.ptr h.length 0, .int .i64 0], h ++ [⟨.tip false, .ints .i64 [t, f]⟩], []) := by
    intro h
    simp (maxDischargeDepth := 9) -implicitDefEqProofs only [push_cast, simprocAttr, M16, c1, c2, c3, c4]
    try rfl
  rw [W_made (m := M16) rfl rfl rfl (hb _) rfl (hb h)]
  have : M16.trim = true := rfl
  rw [this, if_pos rfl, trim_addr (by simp [AV.lt, AV.lts])]
theorem ref_New_bad {t f : Int} (hb : t < 1 ∨ 1000000000 < t ∨ f < 0 ∨ 500000 < f) (h : AHeap) : W CP 16 [.int .i64 t, .int .i64 f] h = some (.tup [.nilp, .int .i64 1], h, []) := by
  refine W_val (m := M16) (fun _ => rfl) rfl rfl rfl ?_ h
  by_cases c1 : t < 1
  · simp (maxDischargeDepth := 9) -implicitDefEqProofs only [push_cast, simprocAttr, M16, c1]
  · by_cases c2 : 1000000000 < t
    · simp (maxDischargeDepth := 9) -implicitDefEqProofs only [push_cast, simprocAttr, M16, c1, c2]
    · by_cases c3 : f < 0
      · simp (maxDischargeDepth := 9) -implicitDefEqProofs only [push_cast, simprocAttr, M16, c1, c2, c3]
      · have c4 : 500000 < f := by omega
        simp (maxDischargeDepth := 9) -implicitDefEqProofs only [push_cast, simprocAttr, M16, c1, c2, c3, c4]
theorem gt1 (h : AHeap) (a b : ABlk) : (h ++ [a, b])[h.length + 1]? = some b := by rw [List.getElem?_append_right (by omega)]; simp
theorem gt2 (h : AHeap) (a b c : ABlk) : (h ++ [a, b, c])[h.length + 2]? = some c := by rw [List.getElem?_append_right (by omega)]; simp
theorem gt3 (h : AHeap) (a b c d : ABlk) : (h ++ [a, b, c, d])[h.length + 3]? = some d := by rw [List.getElem?_append_right (by omega)]; simp
theorem sum_of {h : AHeap} {q : Nat} {l : List Int} {n : Nat} {S : Int} (hg : Good h) (hq : h[q]? = some ⟨.tip false, .ints .i64 l⟩) (hn : l.length = n) (hl : n < 100) (hI : ∀ x ∈ l, I64 x) (hS : l.sum = S) : W CP 52 [.sl q 0 n n] h = some (.int .i64 (bro S), h, []) := by
  subst hn hS
  exact ref_sum hg hq hl hI
theorem ref_Of {h : AHeap} {p : Nat} {t f left came took gave rho : Int} (hg : Good h) (r : RulR h p t f) :
    W CP 21 [.ptr p 0, .int .i64 left, .int .i64 came, .int .i64 took, .int .i64 gave, .int .i64 rho] h =
      some (if ([left, came, took, gave, rho].all okT) = true ∧ left ≤ came then (if ofLo gave rho ≤ ofHi t f left came took rho then .tup [spA came (ofLo gave rho) (ofHi t f left came took rho), .int .i64 0] else .tup [spA 0 0 0, .int .i64 30]) else .tup [spA 0 0 0, .int .i64 1], h, []) := by
  have hr := r
  obtain ⟨h1, h2, h3, h4, h5, h6⟩ := r
  have hG1 : Good (h ++ [⟨.tip false, .ints .i64 [0, 0, 0]⟩]) := good_app hg rfl
  have hG2 : Good (h ++ [⟨.tip false, .ints .i64 [0, 0, 0]⟩, ⟨.tip false, .ints .i64 [left, came, took, gave, rho]⟩]) := good_app hg rfl
  have et := ref_is (q := h.length + 1) (l := [left, came, took, gave, rho]) hG2 (gt1 _ _ _) (by simp)
  simp only [List.length_cons, List.length_nil, Nat.reduceAdd] at et
  refine W_quietP (m := M21) rfl rfl (by simp [AV.lts, AV.lt]) rfl (by split <;> (try split) <;> rfl) hg ?_
  cases hall : [left, came, took, gave, rho].all okT with
  | false =>
    rw [hall] at et
    simp only [Bool.false_eq_true, false_and, if_false]
    simp (maxDischargeDepth := 9) -implicitDefEqProofs only [push_cast, simprocAttr, M21, et]
    exact quiet_i
  | true =>
    rw [hall] at et
    simp only [true_and]
    simp only [List.all_cons, List.all_nil, Bool.and_true, Bool.and_eq_true, okT, decide_eq_true_eq] at hall
    obtain ⟨r1, r2, r3, r4, r5⟩ := hall
    by_cases c1 : left ≤ came
    · have c1' : ¬ came < left := by omega
      rw [if_pos c1]
      have w1 : IntKind.i64.wrap (0 - rho) = -rho := by rw [wr_i64 _ (by omega) (by omega)]; omega
      obtain ⟨d, hd⟩ : ∃ d, came - left = d := ⟨_, rfl⟩
      have w2 : IntKind.i64.wrap (came - left) = d := by rw [wr_i64 _ (by omega) (by omega)]; exact hd
      have rU := upV_in t f d
      unfold ofHi ofLo
      rw [hd]
      have eL := sum_of (h := h ++ [⟨.tip false, .ints .i64 [0, 0, 0]⟩, ⟨.tip false, .ints .i64 [left, came, took, gave, rho]⟩, ⟨.tip false, .ints .i64 [gave, -rho]⟩]) (q := h.length + 2) (l := [gave, -rho]) (n := 2) (S := gave - rho) (good_app hg rfl) (gt2 _ _ _ _) rfl (by decide) (by intro x hx; simp at hx; unfold I64; omega) (by simp; omega)
      have eU := ref_Up (x := d) (h := h ++ [⟨.tip false, .ints .i64 [0, 0, 0]⟩, ⟨.tip false, .ints .i64 [left, came, took, gave, rho]⟩, ⟨.tip false, .ints .i64 [gave, -rho]⟩]) (good_app hg rfl) (hr.app _)
      obtain ⟨U, hU⟩ : ∃ U, upV t f d = U := ⟨_, rfl⟩
      rw [hU] at eU rU ⊢
      have eH := sum_of (h := h ++ [⟨.tip false, .ints .i64 [0, 0, 0]⟩, ⟨.tip false, .ints .i64 [left, came, took, gave, rho]⟩, ⟨.tip false, .ints .i64 [gave, -rho]⟩, ⟨.tip false, .ints .i64 [took, rho, 1, U]⟩]) (q := h.length + 3) (l := [took, rho, 1, U]) (n := 4) (S := took + rho + 1 + U) (good_app hg rfl) (gt3 _ _ _ _ _) rfl (by decide) (by intro x hx; simp at hx; unfold I64; omega) (by simp; omega)
      obtain ⟨L, hL⟩ : ∃ L, bro (gave - rho) = L := ⟨_, rfl⟩
      obtain ⟨E, hE⟩ : ∃ E, bro (took + rho + 1 + U) = E := ⟨_, rfl⟩
      rw [hL] at eL ⊢
      rw [hE] at eH ⊢
      by_cases c2 : L ≤ E
      · have c2' : ¬ E < L := by omega
        rw [if_pos c2]
        simp (maxDischargeDepth := 9) -implicitDefEqProofs only [push_cast, simprocAttr, M21, et, c1', w1, eL, w2, eU, eH, c2']
        exact quiet_i
      · have c2' : E < L := by omega
        rw [if_neg c2]
        simp (maxDischargeDepth := 9) -implicitDefEqProofs only [push_cast, simprocAttr, M21, et, c1', w1, eL, w2, eU, eH, c2']
        exact quiet_i
    · have c1' : came < left := by omega
      rw [if_neg c1]
      simp (maxDischargeDepth := 9) -implicitDefEqProofs only [push_cast, simprocAttr, M21, et, c1']
      exact quiet_i
theorem ref_Age {h : AHeap} {p : Nat} {t f a l u raw : Int} (hg : Good h) (r : RulR h p t f) :
    W CP 40 [.ptr p 0, spA a l u, .int .i64 raw] h = some (if mayS a l u = true ∧ a ≤ raw ∧ raw ≤ 4611686018427387904 then .tup [spA raw (bro (l + downV t f (raw - a))) (bro (u + upV t f (raw - a))), .int .i64 0] else .tup [spA 0 0 0, .int .i64 1], h, []) := by
  have em := fun g => ref_May (a := a) (l := l) (u := u) g
  have hr := r
  obtain ⟨h1, h2, h3, h4, h5, h6⟩ := r
  refine W_quietP (m := M40) rfl rfl (by simp [AV.lts, AV.lt]) rfl (by split <;> rfl) hg ?_
  cases hm : mayS a l u with
  | false =>
    rw [hm] at em
    simp only [Bool.false_eq_true, false_and, if_false]
    simp (maxDischargeDepth := 9) -implicitDefEqProofs only [push_cast, simprocAttr, M40, em]
    exact quiet_i
  | true =>
    rw [hm] at em
    simp only [true_and]
    by_cases c1 : a ≤ raw
    · have c1' : ¬ raw < a := by omega
      by_cases c2 : raw ≤ 4611686018427387904
      · have c2' : ¬ 4611686018427387904 < raw := by omega
        have hmm := mayS_iff.1 hm
        rw [if_pos ⟨c1, c2⟩]
        obtain ⟨d, hd⟩ : ∃ d, raw - a = d := ⟨_, rfl⟩
        have w1 : IntKind.i64.wrap (raw - a) = d := by rw [wr_i64 _ (by omega) (by omega)]; exact hd
        rw [hd]
        have rU := upV_in t f d
        have rD := downV_in t f d
        have eD := ref_Down (x := d) (h := h ++ [⟨.tip false, .ints .i64 [a, l, u]⟩, ⟨.tip false, .ints .i64 [0, 0, 0]⟩]) (good_app hg rfl) (hr.app _)
        obtain ⟨D, hD⟩ : ∃ U, downV t f d = U := ⟨_, rfl⟩
        rw [hD] at eD rD ⊢
        have eL := sum_of (h := h ++ [⟨.tip false, .ints .i64 [a, l, u]⟩, ⟨.tip false, .ints .i64 [0, 0, 0]⟩, ⟨.tip false, .ints .i64 [l, D]⟩]) (q := h.length + 2) (l := [l, D]) (n := 2) (S := l + D) (good_app hg rfl) (gt2 _ _ _ _) rfl (by decide) (by intro x hx; simp at hx; unfold I64; omega) (by simp)
        have eU := ref_Up (x := d) (h := h ++ [⟨.tip false, .ints .i64 [a, l, u]⟩, ⟨.tip false, .ints .i64 [0, 0, 0]⟩, ⟨.tip false, .ints .i64 [l, D]⟩]) (good_app hg rfl) (hr.app _)
        obtain ⟨U, hU⟩ : ∃ U, upV t f d = U := ⟨_, rfl⟩
        rw [hU] at eU rU ⊢
        have eH := sum_of (h := h ++ [⟨.tip false, .ints .i64 [a, l, u]⟩, ⟨.tip false, .ints .i64 [0, 0, 0]⟩, ⟨.tip false, .ints .i64 [l, D]⟩, ⟨.tip false, .ints .i64 [u, U]⟩]) (q := h.length + 3) (l := [u, U]) (n := 2) (S := u + U) (good_app hg rfl) (gt3 _ _ _ _ _) rfl (by decide) (by intro x hx; simp at hx; unfold I64; omega) (by simp)
        have hlo1 : ¬ h.length + 2 ≤ h.length := by omega
        simp (maxDischargeDepth := 9) -implicitDefEqProofs only [push_cast, simprocAttr, M40, em, c1', c2', w1, eD, eL, eU, eH, decide_false, Bool.not_false, Bool.and_true]
        exact quiet_i
      · have c2' : 4611686018427387904 < raw := by omega
        rw [if_neg (fun e => c2 e.2)]
        simp (maxDischargeDepth := 9) -implicitDefEqProofs only [push_cast, simprocAttr, M40, em, c1', c2']
        exact quiet_i
    · have c1' : raw < a := by omega
      rw [if_neg (fun e => c1 e.1)]
      simp (maxDischargeDepth := 9) -implicitDefEqProofs only [push_cast, simprocAttr, M40, em, c1']
      exact quiet_i
end Go.Proofs.YtcpiohklljppaaaW.AI.D

import Derived.Test.YtimlhgpjmjmjhaaAIBplaceC
namespace Go.Proofs.YtimlhgpjmjmjhaaW.AI.B
open Go Go.Proofs.YtimlhgpjmjmjhaaW.AI Go.Proofs.YtimlhgpjmjmjhaaW.AI.Oct Go.RowKit
set_option maxRecDepth 100000
set_option linter.unusedSimpArgs false
set_option linter.unusedVariables false
set_option linter.unusedSectionVars false
theorem T1_bv {h : AHeap} {v : AV} {L : List Int} {n : Nat} (t : T1 h v L n) (hB : Byt L) : BV h v L := by
  rcases t with k | ⟨p, _, ⟨e, hp⟩ | ⟨o, mn, e, hp⟩⟩
  · exact ⟨hB, Or.inl k⟩
  · exact ⟨hB, Or.inr ⟨p, 0, L.length, _, L, false, hp, Or.inr ⟨_, rfl⟩, by omega, by simp, Or.inl ⟨e, Nat.le_refl _⟩⟩⟩
  · exact ⟨hB, Or.inr ⟨p, 0, 0, _, L, mn, hp, Or.inr ⟨_, rfl⟩, by omega, by simp, Or.inr e⟩⟩
theorem T1_len {h : AHeap} {v : AV} {L : List Int} {n : Nat} (t : T1 h v L n) : slen v = some L.length := by
  rcases t with ⟨rfl, rfl⟩ | ⟨p, _, ⟨rfl, hp⟩ | ⟨o, mn, rfl, hp⟩⟩ <;> rfl
theorem own_t1 {D : List Int} (H : AHeap) {n : Nat} (hn : n ≤ H.length) : T1 (H ++ ownH D) (ownV H.length D) D n := by
  by_cases h0 : D = []
  · subst h0; exact Or.inl ⟨rfl, rfl⟩
  · rw [ownV_ne h0, ownH_ne h0]
    exact Or.inr ⟨H.length, hn, Or.inr ⟨false, false, rfl, end_get _ _ _⟩⟩
theorem own_src {D : List Int} (hB : Byt D) (h0 : D ≠ []) (H : AHeap) : Src (H ++ ownH D) (ownV H.length D) D := by
  rw [ownV_ne h0, ownH_ne h0]
  exact ⟨hB, H.length, 0, 0, .tip false, D, end_get _ _ _, Or.inr ⟨false, rfl⟩, by omega, by rw [List.drop_zero, List.take_length], Or.inr rfl⟩
section
variable {h : AHeap} {x : AV} {D : List Int} {p k v : Int}
theorem refput_bad (hg : Good h) (hx : BV h x D) (hD : D.length < 1000000) (p0 : -9223372036854775808 ≤ p) (p1 : p ≤ 9223372036854775807) (v0 : 0 ≤ v) (v1 : v < 18446744073709551616) (he : ptE D p k v ≠ 0) : W CP 47 [x, .int .i64 p, .int .i64 k, .int .u64 v] h = some (.tup [.nils, .int .i64 (ptE D p k v)], h, []) := by
  refine W_bothH (m := M47) (fun g => BV g x D) (fun _ => rfl) rfl rfl rfl glG (fun h0 => hx.gl (by simp only [AV.lts, Bool.and_eq_true] at h0; exact h0.1)) (fun g hg hx => ?_) hg hx
  have nx := hx.na
  have e1 := fun g => rsize_c k g
  unfold ptE at he ⊢
  cases hk : okS k with
  | false =>
    rw [hk] at e1
    rw [if_pos (Or.inl rfl)]
    simp (maxDischargeDepth := 9) -implicitDefEqProofs only [push_cast, simprocAttr, M47, nx, e1]
    exact quiet_0
  | true =>
    rw [hk] at e1 he
    obtain ⟨m, rfl, m1, m8⟩ := okS_nat hk
    obtain ⟨n, hn⟩ : ∃ n, D.length = n := ⟨_, rfl⟩
    rw [hn] at he ⊢
    rw [Int.toNat_natCast] at he ⊢
    by_cases c0 : p < 0
    · rw [if_pos (Or.inr c0)]
      simp (maxDischargeDepth := 9) -implicitDefEqProofs only [push_cast, simprocAttr, M47, nx, e1, c0]
      exact quiet_0
    · rw [if_neg (by simp [c0])] at he ⊢
      have e2 := digits_c v0 v1 m1 m8 g
      by_cases cv : v < 256 ^ m
      · rw [if_neg (fun h => h cv)] at he ⊢
        rw [decide_eq_true cv] at e2
        have e3 := refat_c (p := p) (k := (m : Int)) (good_app (js := [⟨.tip false, .ints .u8 (dg m v)⟩]) hg rfl) (hx.app _) hD p0 p1
        have cp : ¬ p + (m : Int) ≤ n := fun c => he (if_pos c)
        rw [if_neg cp]
        have hb : atB D p (m : Int) = false := by unfold atB; rw [hk, decide_eq_false (by omega)]; rfl
        have hv : atV D p (m : Int) = 0 := by unfold atV; rw [hb]; rfl
        rw [hb, hv] at e3
        simp (maxDischargeDepth := 9) -implicitDefEqProofs only [push_cast, simprocAttr, M47, nx, e1, c0, e2, e3]
        exact quiet_i
      · rw [if_pos cv]
        rw [decide_eq_false cv] at e2
        simp (maxDischargeDepth := 9) -implicitDefEqProofs only [push_cast, simprocAttr, M47, nx, e1, c0, e2]
        exact quiet_i
theorem refput_good {h : AHeap} (hg : Good h) (hx : BV h x D) (hD : D.length < 900000) (v0 : 0 ≤ v) (v1 : v < 18446744073709551616) (he : ptE D p k v = 0) :
    ∃ w js, W CP 47 [x, .int .i64 p, .int .i64 k, .int .u64 v] h = some (.tup [w, .int .i64 0], h ++ js, []) ∧ BV (h ++ js) w (splice D p.toNat (dg k.toNat v)) ∧ Good (h ++ js) := by
  obtain ⟨p, m, rfl, rfl, hk, m1, m8, cv, cp⟩ := ptE_0 he
  rw [Int.toNat_natCast, Int.toNat_natCast]
  have key : ∀ g, Good g ∧ BV g x D → Wp (xbody (W CP) M47 [x, .int .i64 (p : Int), .int .i64 (m : Int), .int .u64 v] g) fun r => r.1.lt g.length = false ∧ ∃ w js, r = (.tup [w, .int .i64 0], g ++ js, []) ∧ BV (g ++ js) w (splice D p (dg m v)) ∧ Good (g ++ js) := by
    rintro g ⟨hg, hx⟩
    have nx := hx.na
    have e1 := fun g => rsize_c (m : Int) g
    rw [hk] at e1
    have e2 := digits_c v0 v1 m1 m8 g
    rw [decide_eq_true cv] at e2
    have hG1 : Good (g ++ [⟨.tip false, .ints .u8 (dg m v)⟩]) := good_app hg rfl
    have hx1 := hx.app [⟨.tip false, .ints .u8 (dg m v)⟩]
    have e3 := refat_c (p := (p : Int)) (k := (m : Int)) hG1 hx1 (by omega) (by omega) (by omega)
    have hb : atB D (p : Int) (m : Int) = true := by unfold atB; rw [hk, decide_eq_true (by omega)]; rfl
    rw [hb] at e3
    obtain ⟨av, hav⟩ : ∃ av, atV D (p : Int) (m : Int) = av := ⟨_, rfl⟩
    rw [hav] at e3
    have hpD : p ≤ D.length := by omega
    have e4 := slcV_hi (h := g ++ [⟨.tip false, .ints .u8 (dg m v)⟩]) hx1 hpD
    have hxt := hx1.take hpD
    have nt := hxt.na
    have htl : (D.take p).length = p := by rw [List.length_take]; omega
    have e5 := own_c hG1 hxt (by omega)
    have t2 := own_t1 (D := D.take p) (g ++ [⟨.tip false, .ints .u8 (dg m v)⟩]) (n := g.length) (by simp)
    have hno := ownH_notOld (D.take p)
    have kb := keepsJ (Keeps.app g [⟨.tip false, .ints .u8 (dg m v)⟩] none rfl) (ownH (D.take p)) hno
    have hq2 : ((g ++ [(⟨.tip false, .ints .u8 (dg m v)⟩ : ABlk)]) ++ ownH (D.take p))[g.length]? = some ⟨.tip false, .ints .u8 (dg m v)⟩ := by rw [List.append_assoc]; exact end_get _ _ _
    have hx2 := hx1.app (ownH (D.take p))
    obtain ⟨w2, hw2⟩ : ∃ w2, ownV (g ++ [(⟨.tip false, .ints .u8 (dg m v)⟩ : ABlk)]).length (D.take p) = w2 := ⟨_, rfl⟩
    obtain ⟨G2, hG2⟩ : ∃ G2, (g ++ [(⟨.tip false, .ints .u8 (dg m v)⟩ : ABlk)]) ++ ownH (D.take p) = G2 := ⟨_, rfl⟩
    rw [hw2, hG2] at e5
    rw [hw2, hG2] at t2
    rw [hG2] at kb hq2 hx2
    have hdl : (dg m v).length = m := dg_len m v
    have hn3 : newCells G2 (.ints .u8 [0]) (.sl g.length 0 m m) = some (.ints .u8 (dg m v)) := by
      have := sl_cells (c := m) hq2
      rw [hdl] at this
      exact this
    obtain ⟨v3, H3, ws3, ea3, t3, w3, k3⟩ := app1 t2 hdl (by rw [htl]; omega) kb.2.1
    have kk3 : Keeps g H3 none := keepsO hg kb k3 (t2.blk)
    have hx3 := hx.keep (keepsN kk3)
    obtain ⟨u, hu⟩ : ∃ u, p + m = u := ⟨_, rfl⟩
    have huD : u ≤ D.length := by omega
    have hw : IntKind.i64.wrap ((p : Int) + (m : Int)) = (u : Int) := by rw [wr_i64 _ (by omega) (by omega)]; omega
    have e6 := slcV_lo (h := H3) hx3 huD
    have hxo := hx3.off huD
    have no := hxo.na
    have lo := hxo.len
    have hn4 := hxo.new
    obtain ⟨r, hr⟩ : ∃ r, (D.drop u).length = r := ⟨_, rfl⟩
    rw [hr] at lo
    obtain ⟨v4, H4, ws4, ea4, t4, w4, k4⟩ := app1 t3 hr (by rw [List.length_append, htl, hdl, ← hr, List.length_drop]; omega) kk3.2.1
    have kk4 : Keeps g H4 none := keepsO hg kk3 k4 t3.blk
    have hsp : splice D p (dg m v) = D.take p ++ dg m v ++ D.drop u := by unfold splice; rw [hdl, hu]
    rw [← hsp] at t4
    have hB : Byt (splice D p (dg m v)) := by
      rw [hsp]
      refine Byt.app (Byt.app (fun z hz => hx.1 z (List.mem_of_mem_take hz)) (dg_byt m v)) (fun z hz => hx.1 z (List.mem_of_mem_drop hz))
    have hwa3 : wadd g.length [] ws3 = [] := wadd_ge w3
    have hwa4 : wadd g.length [] ws4 = [] := wadd_ge w4
    have nv2 := na_slen (T1_len t2)
    have nv3 := na_slen (T1_len t3)
    have nv4 := na_slen (T1_len t4)
    have c0 : ¬ (p : Int) < 0 := by omega
    obtain ⟨js, rfl⟩ := kk4.behind
    have hlt : v4.lt g.length = false := by
      rcases t4 with ⟨_, e⟩ | ⟨q, hq, ⟨rfl, _⟩ | ⟨o, mn, rfl, _⟩⟩
      · rw [hsp] at e
        have : (D.take p ++ dg m v ++ D.drop u).length = 0 := by rw [e]; rfl
        simp [hdl] at this
        omega
      · simp [AV.lt]; omega
      · simp [AV.lt]; omega
    simp (maxDischargeDepth := 9) -implicitDefEqProofs only [push_cast, simprocAttr, M47, nadd1, nadd2, nadd3, nadd4, nadd5, nadd6, nadd7, nadd8, nadd9, nadd10, nadd11, nadd12, nx, e1, c0, e2, e3, ↓slc_eqH, e4, nt, e5, nv2, hn3, ea3, hwa3, nv3, hw, ↓slc_eqL, e6, no, lo, hn4, ea4, hwa4, nv4]
    exact ⟨by simp [AV.lt, AV.lts, hlt], v4, js, rfl, T1_bv t4 hB, kk4.2.2 hg⟩
  obtain ⟨r, e, w, js, rfl, h1, h2⟩ := W_addrH (C := CP) (f := 47) (args := [x, .int .i64 (p : Int), .int .i64 (m : Int), .int .u64 v]) (m := M47) (fun g => Good g ∧ BV g x D) (fun g r => ∃ w js, r = (.tup [w, .int .i64 0], g ++ js, []) ∧ BV (g ++ js) w (splice D p (dg m v)) ∧ Good (g ++ js)) (fun _ => rfl) rfl rfl (fun h0 => ⟨glG, hx.gl (by simp only [AV.lts, Bool.and_eq_true] at h0; exact h0.1)⟩) (fun g hi => key g hi) ⟨hg, hx⟩
  exact ⟨w, js, e, h1, h2⟩
end
end Go.Proofs.YtimlhgpjmjmjhaaW.AI.B

import Derived.Test.YtimlhgpjmjmjhaaAIBplaceB
import Derived.Test.YtimlhgpjmjmjhaaAIT1
namespace Go.Proofs.YtimlhgpjmjmjhaaW.AI.B
open Go Go.Proofs.YtimlhgpjmjmjhaaW.AI Go.Proofs.YtimlhgpjmjmjhaaW.AI.Oct Go.RowKit
set_option maxRecDepth 100000
set_option linter.unusedSimpArgs false
set_option linter.unusedVariables false
set_option linter.unusedSectionVars false
theorem quiet_0 {h : AHeap} {v : AV} : Quiet h v (v, h, []) := ⟨rfl, ⟨[], by simp⟩, rfl⟩
theorem writeg_c {h : AHeap} {b o n : Nat} {mn : Bool} {l : List Int} {v : Int} (hb : h[b]? = some ⟨.tip false, .ints .u8 l⟩) (h0 : 0 < n) (h8 : n ≤ 8) (ho : o + n ≤ l.length) :
    W CP 65 [.gsl b o n 1 mn, .int .u64 v] h = some (.tup [], h.set b ⟨.tip false, .ints .u8 (splice l o (dg n v))⟩, [b]) := by
  refine W_prim ?_
  show some (primWrite h _ v) = _
  unfold primWrite bytesAt
  simp only [if_true]
  rw [if_pos ⟨h0, by omega⟩]
  unfold change
  rw [hb]
  simp only [digA_dg v n h8]
  rw [storeL_ints _ _ _ (by rw [dg_len]; exact ho)]
  simp
theorem rsize_c (n : Int) (h : AHeap) : W CP 74 [.int .i64 n] h = some (.bool (okS n), h, []) := by
  cases hk : okS n with
  | false => exact r74_out (okS_bad hk) h
  | true =>
    rcases okS_cases hk with e | e | e | e | e | e | e | e <;> subst e
    · exact r74_in (k := 1) (by decide) (by decide) h
    · exact r74_in (k := 2) (by decide) (by decide) h
    · exact r74_in (k := 3) (by decide) (by decide) h
    · exact r74_in (k := 4) (by decide) (by decide) h
    · exact r74_in (k := 5) (by decide) (by decide) h
    · exact r74_in (k := 6) (by decide) (by decide) h
    · exact r74_in (k := 7) (by decide) (by decide) h
    · exact r74_in (k := 8) (by decide) (by decide) h
theorem okS_nat {k : Int} (h : okS k = true) : ∃ n : Nat, k = (n : Int) ∧ 1 ≤ n ∧ n ≤ 8 := by
  rcases okS_cases h with e | e | e | e | e | e | e | e <;> subst e
  · exact ⟨1, rfl, by decide, by decide⟩
  · exact ⟨2, rfl, by decide, by decide⟩
  · exact ⟨3, rfl, by decide, by decide⟩
  · exact ⟨4, rfl, by decide, by decide⟩
  · exact ⟨5, rfl, by decide, by decide⟩
  · exact ⟨6, rfl, by decide, by decide⟩
  · exact ⟨7, rfl, by decide, by decide⟩
  · exact ⟨8, rfl, by decide, by decide⟩
theorem within_c {h : AHeap} {x : AV} {n k : Nat} {p : Int} (hg : Good h) (hx : slen x = some n) (hn : n < 1000000) (p0 : -9223372036854775808 ≤ p) (p1 : p ≤ 9223372036854775807) (k8 : k ≤ 8) : W CP 75 [x, .int .i64 p, .int .i64 (k : Int)] h = some (.bool (decide (0 ≤ p ∧ p + k ≤ n)), h, []) := by
  have nx := na_slen hx
  refine W_bothH (m := M75) (fun _ => True) (fun _ => rfl) rfl rfl rfl glG (fun _ => trivial) (fun g hg _ => ?_) hg trivial
  by_cases c0 : 0 ≤ p
  · by_cases c1 : p ≤ n
    · have w1 : IntKind.i64.wrap ((n : Int) - p) = (n : Int) - p := wr_i64 _ (by omega) (by omega)
      by_cases c2 : (k : Int) ≤ (n : Int) - p
      · rw [decide_eq_true (by omega)]
        simp (maxDischargeDepth := 9) -implicitDefEqProofs only [push_cast, simprocAttr, M75, nx, hx, c0, c1, w1, c2]
        exact quiet_0
      · rw [decide_eq_false (by omega)]
        simp (maxDischargeDepth := 9) -implicitDefEqProofs only [push_cast, simprocAttr, M75, nx, hx, c0, c1, w1, c2]
        exact quiet_0
    · rw [decide_eq_false (by omega)]
      simp (maxDischargeDepth := 9) -implicitDefEqProofs only [push_cast, simprocAttr, M75, nx, hx, c0, c1]
      exact quiet_0
  · rw [decide_eq_false (by omega)]
    simp (maxDischargeDepth := 9) -implicitDefEqProofs only [push_cast, simprocAttr, M75, nx, c0]
    exact quiet_0
/-- Is the place within? what stands there? -/
def atB (D : List Int) (p k : Int) : Bool := okS k && decide (0 ≤ p ∧ p + k ≤ D.length)
def atV (D : List Int) (p k : Int) : Int := if atB D p k = true then be ((D.drop p.toNat).take k.toNat) else 0
section
variable {h : AHeap} {x : AV} {D : List Int} {p k v : Int}
theorem at_c (hg : Good h) (hx : BV h x D) (hD : D.length < 1000000) (p0 : -9223372036854775808 ≤ p) (p1 : p ≤ 9223372036854775807) : W CP 44 [x, .int .i64 p, .int .i64 k] h = some (.tup [.int .u64 (atV D p k), .bool (atB D p k)], h, []) := by
  refine W_bothH (m := M44) (fun g => BV g x D) (fun _ => rfl) rfl rfl rfl glG (fun h0 => hx.gl (by simp only [AV.lts, Bool.and_eq_true] at h0; exact h0.1)) (fun g hg hx => ?_) hg hx
  have nx := hx.na
  have e1 := fun g => sized_c k g
  unfold atV atB
  cases hk : okS k with
  | false =>
    rw [hk] at e1
    simp (maxDischargeDepth := 9) -implicitDefEqProofs only [push_cast, simprocAttr, M44, nx, e1, Bool.false_and]
    exact quiet_0
  | true =>
    rw [hk] at e1
    obtain ⟨m, rfl, m1, m8⟩ := okS_nat hk
    obtain ⟨n, hn⟩ : ∃ n, D.length = n := ⟨_, rfl⟩
    have lx := hx.len
    rw [hn] at lx hD ⊢
    have e2 := within_c (p := p) hg lx hD p0 p1 m8
    by_cases c : 0 ≤ p ∧ p + m ≤ n
    · rw [decide_eq_true c] at e2 ⊢
      obtain ⟨q, rfl⟩ : ∃ q : Nat, p = (q : Int) := ⟨p.toNat, by omega⟩
      obtain ⟨u, hu⟩ : ∃ u, q + m = u := ⟨_, rfl⟩
      have hw : IntKind.i64.wrap ((q : Int) + (m : Int)) = (u : Int) := by rw [wr_i64 _ (by omega) (by omega)]; omega
      have e3 := BV.slc hx (show q ≤ u by omega) (show u ≤ D.length by omega)
      have bs := (hx.take (show u ≤ D.length by omega)).off (k := q) (by rw [List.length_take]; omega)
      have hds : (D.take u).drop q = (D.drop q).take m := by rw [List.drop_take]; congr 1; omega
      rw [hds] at bs
      have hl : ((D.drop q).take m).length = m := by rw [List.length_take, List.length_drop]; omega
      have bb : BytAt g (offX (cutX x u) q) ((D.drop q).take m) := by
        rcases bs.bytAt with ⟨_, e⟩ | b
        · rw [e] at hl; simp at hl; omega
        · exact b
      have e4 := value_c bb (by omega) (by omega)
      have nb := bs.na
      rw [Int.toNat_natCast, Int.toNat_natCast]
      simp (maxDischargeDepth := 9) -implicitDefEqProofs only [push_cast, simprocAttr, M44, nx, e1, e2, hw, ↓slc_eqB, e3, nb, e4, Bool.and_self]
      exact quiet_0
    · rw [decide_eq_false c] at e2 ⊢
      simp (maxDischargeDepth := 9) -implicitDefEqProofs only [push_cast, simprocAttr, M44, nx, e1, e2, Bool.and_false]
      exact quiet_0
theorem refat_c (hg : Good h) (hx : BV h x D) (hD : D.length < 1000000) (p0 : -9223372036854775808 ≤ p) (p1 : p ≤ 9223372036854775807) : W CP 45 [x, .int .i64 p, .int .i64 k] h = some (.tup [.int .u64 (atV D p k), .bool (atB D p k)], h, []) := by
  refine W_bothH (m := M45) (fun g => BV g x D) (fun _ => rfl) rfl rfl rfl glG (fun h0 => hx.gl (by simp only [AV.lts, Bool.and_eq_true] at h0; exact h0.1)) (fun g hg hx => ?_) hg hx
  have nx := hx.na
  have e1 := fun g => rsize_c k g
  unfold atV atB
  cases hk : okS k with
  | false =>
    rw [hk] at e1
    simp (maxDischargeDepth := 9) -implicitDefEqProofs only [push_cast, simprocAttr, M45, nx, e1, Bool.false_and]
    exact quiet_0
  | true =>
    rw [hk] at e1
    obtain ⟨m, rfl, m1, m8⟩ := okS_nat hk
    obtain ⟨n, hn⟩ : ∃ n, D.length = n := ⟨_, rfl⟩
    have lx := hx.len
    rw [hn] at lx hD ⊢
    by_cases c : 0 ≤ p ∧ p + m ≤ n
    · rw [decide_eq_true c]
      obtain ⟨q, rfl⟩ : ∃ q : Nat, p = (q : Int) := ⟨p.toNat, by omega⟩
      obtain ⟨u, hu⟩ : ∃ u, q + m = u := ⟨_, rfl⟩
      have hw : IntKind.i64.wrap ((q : Int) + (m : Int)) = (u : Int) := by rw [wr_i64 _ (by omega) (by omega)]; omega
      have hw2 : IntKind.i64.wrap ((n : Int) - (q : Int)) = (n : Int) - (q : Int) := wr_i64 _ (by omega) (by omega)
      have c1 : ¬ (q : Int) < 0 := by omega
      have c2 : ¬ (n : Int) < (q : Int) := by omega
      have c3 : ¬ (n : Int) - (q : Int) < (m : Int) := by omega
      have e3 := BV.slc hx (show q ≤ u by omega) (show u ≤ D.length by omega)
      have bs := (hx.take (show u ≤ D.length by omega)).off (k := q) (by rw [List.length_take]; omega)
      have hds : (D.take u).drop q = (D.drop q).take m := by rw [List.drop_take]; congr 1; omega
      rw [hds] at bs
      have hl : ((D.drop q).take m).length = m := by rw [List.length_take, List.length_drop]; omega
      have e4 := number_c hg bs (by omega)
      have nb := bs.na
      rw [Int.toNat_natCast, Int.toNat_natCast]
      simp (maxDischargeDepth := 9) -implicitDefEqProofs only [push_cast, simprocAttr, M45, nx, lx, e1, c1, c2, c3, hw, hw2, ↓slc_eqB, e3, nb, e4, Bool.and_self]
      exact quiet_0
    · rw [decide_eq_false c]
      by_cases c1 : p < 0
      · simp (maxDischargeDepth := 9) -implicitDefEqProofs only [push_cast, simprocAttr, M45, nx, lx, e1, c1, Bool.and_false]
        exact quiet_0
      · by_cases c2 : (n : Int) < p
        · simp (maxDischargeDepth := 9) -implicitDefEqProofs only [push_cast, simprocAttr, M45, nx, lx, e1, c1, c2, Bool.and_false]
          exact quiet_0
        · have hw2 : IntKind.i64.wrap ((n : Int) - p) = (n : Int) - p := wr_i64 _ (by omega) (by omega)
          have c3 : (n : Int) - p < (m : Int) := by omega
          simp (maxDischargeDepth := 9) -implicitDefEqProofs only [push_cast, simprocAttr, M45, nx, lx, e1, c1, c2, hw2, c3, Bool.and_false]
          exact quiet_0
/-- What Put answers. -/
def ptE (D : List Int) (p k v : Int) : Int := if okS k = false ∨ p < 0 then 1 else if ¬ v < 256 ^ k.toNat then 20 else if p + k ≤ D.length then 0 else 4
theorem put_bad (hg : Good h) (hx : BV h x D) (hD : D.length < 1000000) (p0 : -9223372036854775808 ≤ p) (p1 : p ≤ 9223372036854775807) (v0 : 0 ≤ v) (v1 : v < 18446744073709551616) (he : ptE D p k v ≠ 0) : W CP 46 [x, .int .i64 p, .int .i64 k, .int .u64 v] h = some (.tup [.nils, .int .i64 (ptE D p k v)], h, []) := by
  refine W_bothH (m := M46) (fun g => BV g x D) (fun _ => rfl) rfl rfl rfl glG (fun h0 => hx.gl (by simp only [AV.lts, Bool.and_eq_true] at h0; exact h0.1)) (fun g hg hx => ?_) hg hx
  have nx := hx.na
  have e1 := fun g => sized_c k g
  unfold ptE at he ⊢
  cases hk : okS k with
  | false =>
    rw [hk] at e1
    rw [if_pos (Or.inl rfl)]
    simp (maxDischargeDepth := 9) -implicitDefEqProofs only [push_cast, simprocAttr, M46, nx, e1]
    exact quiet_0
  | true =>
    rw [hk] at e1 he
    obtain ⟨m, rfl, m1, m8⟩ := okS_nat hk
    obtain ⟨n, hn⟩ : ∃ n, D.length = n := ⟨_, rfl⟩
    have lx := hx.len
    rw [hn] at lx hD he ⊢
    rw [Int.toNat_natCast] at he ⊢
    by_cases c0 : p < 0
    · rw [if_pos (Or.inr c0)]
      simp (maxDischargeDepth := 9) -implicitDefEqProofs only [push_cast, simprocAttr, M46, nx, e1, c0]
      exact quiet_0
    · rw [if_neg (by simp [c0])] at he ⊢
      have e2 := fun g => fits_c (h := g) v0 v1 m1 m8
      by_cases cv : v < 256 ^ m
      · rw [if_neg (fun h => h cv)] at he ⊢
        rw [decide_eq_true cv] at e2
        have e3 := within_c (p := p) hg lx hD p0 p1 m8
        have cp : ¬ p + (m : Int) ≤ n := fun c => he (if_pos c)
        rw [if_neg cp]
        rw [decide_eq_false (by omega)] at e3
        simp (maxDischargeDepth := 9) -implicitDefEqProofs only [push_cast, simprocAttr, M46, nx, e1, c0, e2, e3]
        exact quiet_0
      · rw [if_pos cv]
        rw [decide_eq_false cv] at e2
        simp (maxDischargeDepth := 9) -implicitDefEqProofs only [push_cast, simprocAttr, M46, nx, e1, c0, e2]
        exact quiet_0
theorem ptE_0 (he : ptE D p k v = 0) : ∃ q m : Nat, p = (q : Int) ∧ k = (m : Int) ∧ okS k = true ∧ 1 ≤ m ∧ m ≤ 8 ∧ v < 256 ^ m ∧ q + m ≤ D.length := by
  unfold ptE at he
  split at he
  · cases he
  · rename_i c
    split at he
    · cases he
    · split at he
      · have hk : okS k = true := by cases e : okS k with
          | true => rfl
          | false => exact absurd (Or.inl e) c
        obtain ⟨m, rfl, m1, m8⟩ := okS_nat hk
        rename_i cv cp
        rw [Int.toNat_natCast] at cv
        refine ⟨p.toNat, m, by omega, rfl, hk, m1, m8, by omega, by omega⟩
      · cases he
theorem put_good {g : AHeap} (hg : Good g) (hx : Src g x D) (hD : D.length < 1000000) (v0 : 0 ≤ v) (v1 : v < 18446744073709551616) (he : ptE D p k v = 0) :
    ∃ q js, W CP 46 [x, .int .i64 p, .int .i64 k, .int .u64 v] g = some (.tup [.gsl q 0 D.length 1 false, .int .i64 0], g ++ js, []) ∧ (g ++ js)[q]? = some ⟨.tip false, .ints .u8 (splice D p.toNat (dg k.toNat v))⟩ ∧ g.length ≤ q ∧ Good (g ++ js) := by
  obtain ⟨p, m, rfl, rfl, hk, m1, m8, cv, cp⟩ := ptE_0 he
  rw [Int.toNat_natCast, Int.toNat_natCast]
  have nx := na_slen hx.len
  have e1 := fun g => sized_c (m : Int) g
  rw [hk] at e1
  have e2 := fun g => fits_c (h := g) v0 v1 m1 m8
  rw [decide_eq_true cv] at e2
  have e3 := within_c (p := (p : Int)) hg hx.len hD (by omega) (by omega) m8
  rw [decide_eq_true (by omega)] at e3
  obtain ⟨rv, js, eC, rR, ⟨q, rb, rl⟩, rN⟩ := clone_c hg hx (by omega)
  obtain ⟨n, hn⟩ : ∃ n, D.length = n := ⟨_, rfl⟩
  rw [hn] at hD cp ⊢
  obtain ⟨q', hq, ⟨_, e⟩ | e⟩ := rR
  · rw [e] at hn; simp at hn; omega
  rw [hn] at e
  subst e
  simp only [blkS, Option.some.injEq] at rb
  subst rb
  have hql := (List.getElem?_eq_some_iff.1 hq).1
  have hG2 := good_app hg rN
  obtain ⟨H, hH⟩ : ∃ H, g ++ js = H := ⟨_, rfl⟩
  rw [hH] at eC hq hql hG2
  obtain ⟨u, hu⟩ : ∃ u, p + m = u := ⟨_, rfl⟩
  have hw : IntKind.i64.wrap ((p : Int) + (m : Int)) = (u : Int) := by rw [wr_i64 _ (by omega) (by omega)]; omega
  have hu2 : u ≤ n := by omega
  have hpu : p ≤ u := by omega
  have hsub : u - p = m := by omega
  have e5 : W CP 65 [.gsl q' p m 1 false, .int .u64 v] H = some (.tup [], H.set q' ⟨.tip false, .ints .u8 (splice D p (dg m v))⟩, [q']) := writeg_c hq (by omega) m8 (by omega)
  have hlo : ¬ q' < g.length := by omega
  have key : Wp (xbody (W CP) M46 [x, .int .i64 (p : Int), .int .i64 (m : Int), .int .u64 v] g) fun r => r = (.tup [.gsl q' 0 n 1 false, .int .i64 0], H.set q' ⟨.tip false, .ints .u8 (splice D p (dg m v))⟩, []) := by
    have c0 : ¬ (p : Int) < 0 := by omega
    simp (maxDischargeDepth := 9) -implicitDefEqProofs only [push_cast, simprocAttr, M46, nadd1, nadd2, nadd3, nadd4, nadd5, nadd6, nadd7, nadd8, nadd9, nadd10, nadd11, nadd12, nx, e1, c0, e2, e3, eC, hw, hu2, hpu, hsub, e5, hlo, Nat.zero_add]
  obtain ⟨r, er, rfl⟩ := key
  have hk2 : Keeps g (H.set q' ⟨.tip false, .ints .u8 (splice D p (dg m v))⟩) none := by
    rw [← hH]
    exact keeps_set (Keeps.app _ _ _ rN) rl rfl
  obtain ⟨js2, hj2⟩ := hk2.behind
  refine ⟨q', js2, ?_, ?_, rl, by rw [← hj2]; exact hk2.2.2 hg⟩
  · have hx0 : AV.lts 0 [x, .int .i64 (p : Int), .int .i64 (m : Int), .int .u64 v] = false := by
      obtain ⟨_, b, o, c, st, l, _, _, _, _, ⟨rfl, _⟩ | rfl⟩ := hx <;> simp [AV.lts, AV.lt]
    rw [W_body (m := M46) rfl rfl hx0 er, show (M46).trim = true from rfl, if_pos rfl, trim_addr (by simp [AV.lt, AV.lts]; omega), hj2]
  · rw [← hj2, List.getElem?_set_self hql]
end
end Go.Proofs.YtimlhgpjmjmjhaaW.AI.B

import Derived.Test.YtdpbbagllhfjbaaDoorAIFextD
namespace Go.Proofs.YtdpbbagllhfjbaaDoorW.AI.F
open Go Go.Proofs.YtdpbbagllhfjbaaDoorW.AI Go.Proofs.YtdpbbagllhfjbaaDoorW.AI.Oct
set_option maxRecDepth 100000
set_option linter.unusedSimpArgs false
set_option linter.unusedVariables false
set_option linter.unusedSectionVars false
set_option maxHeartbeats 1000000
/-- Digits' bytes, when the last j are written. -/
def dj (k j : Nat) (v : Int) : List Int := List.replicate (k - j) 0 ++ dg j v
theorem dj_next {k j : Nat} {v : Int} (h : j < k) : (dj k j v).set (k - 1 - j) (v / 256 ^ j % 256) = dj k (j + 1) v := by
  unfold dj
  obtain ⟨d, hd⟩ : ∃ d, k - j = d + 1 := ⟨k - j - 1, by omega⟩
  have e1 : k - 1 - j = d := by omega
  have e2 : k - (j + 1) = d := by omega
  rw [hd, e1, e2, List.replicate_succ', List.append_assoc, List.set_append_right _ _ (by simp)]
  simp only [List.length_replicate, Nat.sub_self, List.singleton_append, List.set_cons_zero]
  congr 1
  unfold dg
  rw [List.range_succ_eq_map, List.map_cons, List.map_map]
  congr 1
  refine List.map_congr_left fun x hx => ?_
  show v / 256 ^ (j - 1 - x) % 256 = v / 256 ^ (j + 1 - 1 - (x + 1)) % 256
  congr 3; omega

theorem digits_c {v : Int} {k : Nat} (v0 : 0 ≤ v) (v1 : v < 18446744073709551616) (k1 : 1 ≤ k) (k8 : k ≤ 8) (h : AHeap) : W CP 64 [.int .u64 v, .int .i64 (k : Int)] h = some (.tup [.sl h.length 0 k k, .bool (decide (v < 256 ^ k))], h ++ [⟨.tip false, .ints .u8 (dg k v)⟩], []) := by
  have hb : ∀ h : AHeap, xbody (W CP) M64 [.int .u64 v, .int .i64 (k : Int)] h = some (.tup [.sl h.length 0 k k, .bool (decide (v < 256 ^ k))], h ++ [⟨.tip false, .ints .u8 (dg k v)⟩], []) := by
    intro h
    have w1 : IntKind.i64.wrap ((k : Int) - 1) = (k : Int) - 1 := wr_i64 _ (by omega) (by omega)
    have m1 : (k ≤ 281474976710656 ∧ k < 9223372036854775808) := by omega
    have fl : (List.replicate k [(0 : Int)]).flatten = dj k 0 v := by unfold dj; simp [dg]
    refine wp_eqP ?_
    simp (maxDischargeDepth := 9) -implicitDefEqProofs only [push_cast, simprocAttr, M64, w1, m1, and_self, fl, ABlk.new]
    refine wp_kRes (wp_kSeq (wp_kBlock ?_))
    refine wp_loop (fun n a h' ws => ∃ j : Nat, n = k - j ∧ j ≤ k ∧ a = [(0, .int .u64 (v / 256 ^ j)), (6, .sl h.length 0 k k), (7, .int .i64 ((k : Int) - 1 - (j : Int)))] ∧ h' = h ++ [⟨.tip false, .ints .u8 (dj k j v)⟩] ∧ ws = []) k ?_ ?_
    · refine ⟨0, by omega, by omega, ?_, ?_, rfl⟩
      · simp (maxDischargeDepth := 9) -implicitDefEqProofs only [push_cast, simprocAttr]; simp
      · rfl
    · rintro n aa h' ws ⟨j, rfl, hj, rfl, rfl, rfl⟩
      by_cases hlt : j < k
      · obtain ⟨y, hy⟩ : ∃ y, v / 256 ^ j = y := ⟨_, rfl⟩
        have hp : (0 : Int) < 256 ^ j := Int.pow_pos (by omega)
        have y0 : 0 ≤ y := by rw [← hy]; exact Int.ediv_nonneg v0 (by omega)
        have y1 : y ≤ v := by rw [← hy]; exact Int.ediv_le_self _ v0
        have hnext : v / 256 ^ (j + 1) = y / 256 := by rw [← hy, Int.pow_succ, Int.ediv_ediv_of_nonneg (by omega)]
        obtain ⟨t, ht⟩ : ∃ t, k - 1 - j = t := ⟨_, rfl⟩
        have ht' : (k : Int) - 1 - (j : Int) = (t : Int) := by omega
        have hset := dj_next (v := v) hlt
        rw [hy, ht] at hset
        have tk : t < k := by omega
        have c1 : (0 : Int) ≤ (t : Int) := by omega
        have w2 : IntKind.i64.wrap ((t : Int) - 1) = (t : Int) - 1 := wr_i64 _ (by omega) (by omega)
        have w3 : IntKind.u64.wrap (y.tmod 256) = y % 256 := by rw [Int.tmod_eq_emod_of_nonneg y0, IntKind.wrap_u64]; omega
        have w4 : IntKind.u8.wrap (y.tmod 256) = y % 256 := by rw [Int.tmod_eq_emod_of_nonneg y0, IntKind.wrap_u8]; omega
        have w5 : IntKind.u64.wrap (y.tdiv 256) = y / 256 := by rw [Int.tdiv_eq_ediv_of_nonneg y0, IntKind.wrap_u64]; omega
        have hl : t < (dj k j v).length := by unfold dj; simp [dg_len]; omega
        simp (maxDischargeDepth := 9) -implicitDefEqProofs only [push_cast, simprocAttr, hy, ht', tk, c1, w2, w3, w4, w5, hl, hset]
        refine loop_next (k - (j + 1)) (by omega) ⟨j + 1, rfl, by omega, ?_, ?_, rfl⟩
        · have e9 : (k : Int) - 1 - ((j + 1 : Nat) : Int) = (t : Int) - 1 := by omega
          rw [hnext, e9]
          simp (maxDischargeDepth := 9) -implicitDefEqProofs only [push_cast, simprocAttr]
        · first | rfl | simp [hset]
      · have hjk : j = k := by omega
        subst hjk
        have c1 : ¬ (0 : Int) ≤ (j : Int) - 1 - (j : Int) := by omega
        have d0 : dj j j v = dg j v := by unfold dj; simp
        have hz : (v / 256 ^ j = 0) = (v < 256 ^ j) := by
          apply propext; constructor
          · intro h0
            have := Int.lt_ediv_add_one_mul_self v (show (0 : Int) < 256 ^ j from Int.pow_pos (by omega))
            rw [h0] at this; omega
          · intro h0; exact Int.ediv_eq_zero_of_lt v0 h0
        simp (maxDischargeDepth := 9) -implicitDefEqProofs only [push_cast, simprocAttr, c1, d0, hz]
        try (refine loop_exit ?_; simp (maxDischargeDepth := 9) -implicitDefEqProofs only [push_cast, simprocAttr, d0, hz])
  rw [W_made (m := M64) rfl rfl rfl (hb _) rfl (hb h)]
  have : M64.trim = true := rfl
  rw [this, if_pos rfl, trim_addr (by simp [AV.lt, AV.lts])]
/-- Number: what digits say. -/
theorem number_c {h : AHeap} {x : AV} {D : List Int} (hg : Good h) (hx : BV h x D) (h8 : D.length ≤ 8) : W CP 57 [x] h = some (.int .u64 (be D), h, []) := by
  have hn := hx.na
  have hlx := hx.len
  refine W_bothH (m := M57) (fun g => BV g x D) (fun _ => rfl) rfl rfl rfl glG (fun h0 => ?_) (fun g hg hx => ?_) hg hx
  · simp only [AV.lts, Bool.and_eq_true] at h0
    exact hx.gl h0.1
  have hB := hx.1
  obtain ⟨n, hnl⟩ : ∃ n, D.length = n := ⟨_, rfl⟩
  rw [hnl] at hlx
  simp (maxDischargeDepth := 9) -implicitDefEqProofs only [push_cast, simprocAttr, M57, hn]
  refine wp_kRes (wp_kSeq (wp_kBlock ?_))
  refine wp_loop (fun k a h' ws => ∃ i : Nat, k = n - i ∧ i ≤ n ∧ a = [(0, x), (3, .int .u64 (be (D.take i))), (4, .int .i64 (i : Int))] ∧ h' = g ∧ ws = []) n ?_ ?_
  · refine ⟨0, by omega, by omega, ?_, rfl, rfl⟩
    simp (maxDischargeDepth := 9) -implicitDefEqProofs only [push_cast, simprocAttr, List.take_zero, be, hn]; try rfl
  · rintro k aa h' ws ⟨i, rfl, hi, rfl, rfl, rfl⟩
    have v1 : IntKind.i64.wrap ((i : Int) + 1) = (i : Int) + 1 := wr_i64 _ (by omega) (by omega)
    by_cases hlt : i < n
    · have hlt' : (i : Int) < (n : Int) := by omega
      obtain ⟨b, o, st, l, hb, hst, hia, hat⟩ := hx.byte (by rintro rfl; simp at hnl; omega)
      obtain ⟨z, hz⟩ : ∃ z, D[i]? = some z := ⟨_, List.getElem?_eq_getElem (by omega)⟩
      have hi1 := hia h' i (by omega)
      have hld : ldV none h' (some (.ptr b (o + i))) = some (.int .u8 z, h', []) := by
        have hc : cellsAt h' b = some (.ints .u8 l) := cellsAt_of hb (by rcases hst with rfl | ⟨_, rfl⟩ <;> simp)
        simp only [ldV, hc, Option.bind_some, loadA, ACells.get?, hat i z hz, Option.map_some]
      have hs : be (D.take (i + 1)) = be (D.take i) * 256 + z := by rw [← be_snoc, List.take_add_one, hz]; rfl
      obtain ⟨y, hy⟩ : ∃ y, be (D.take i) = y := ⟨_, rfl⟩
      have hzb := hB _ (List.mem_of_getElem? hz)
      have hyb := be_bound (l := D.take i) fun x hx' => hB x (List.mem_of_mem_take hx')
      rw [hy, List.length_take, hnl, Nat.min_eq_left hi] at hyb
      have hp : (256 : Int) ^ i ≤ 72057594037927936 := by
        have h1 : (256 : Nat) ^ i ≤ 256 ^ 7 := Nat.pow_le_pow_right (by omega) (by omega)
        have h2 : ((256 ^ i : Nat) : Int) ≤ ((256 ^ 7 : Nat) : Int) := Int.ofNat_le.2 h1
        rw [Int.natCast_pow] at h2
        exact h2
      rw [hy] at hs
      have v2 : IntKind.u64.wrap (y * 256) = y * 256 := by rw [IntKind.wrap_u64]; omega
      have v3 : IntKind.u64.wrap z = z := by rw [IntKind.wrap_u64]; omega
      have v4 : IntKind.u64.wrap (y * 256 + z) = y * 256 + z := by rw [IntKind.wrap_u64]; omega
      simp (maxDischargeDepth := 9) -implicitDefEqProofs only [push_cast, simprocAttr, hlt, hlt', v1, hy, hn, hlx, ↓ia_eq, hi1, ↓ldv_eq 15, hld, v2, v3, v4]
      refine loop_next (n - (i + 1)) (by omega) ⟨i + 1, rfl, by omega, ?_, rfl, rfl⟩
      rw [hs]
      simp (maxDischargeDepth := 9) -implicitDefEqProofs only [push_cast, simprocAttr, hn]
    · have hi2 : i = n := by omega
      have he : be (D.take i) = be D := by rw [hi2, ← hnl, List.take_length]
      have hnl' : ¬ (i : Int) < (n : Int) := by omega
      simp (maxDischargeDepth := 9) -implicitDefEqProofs only [push_cast, simprocAttr, hnl', he, hn, hlx]
      first | exact quiet_0 | (refine loop_exit ?_; simp (maxDischargeDepth := 9) -implicitDefEqProofs only [push_cast, simprocAttr, he]; exact quiet_0)
end Go.Proofs.YtdpbbagllhfjbaaDoorW.AI.F

import Derived.Test.YtdpbbagllhfjbaaDoorAIFmacA
import Derived.Test.YtdpbbagllhfjbaaDoorAIFpkt2
namespace Go.Proofs.YtdpbbagllhfjbaaDoorW.AI.F
open Go Go.Proofs.YtdpbbagllhfjbaaDoorW.AI Go.Proofs.YtdpbbagllhfjbaaDoorW.AI.Oct
set_option maxRecDepth 100000
set_option linter.unusedSimpArgs false
set_option linter.unusedVariables false
set_option linter.unusedSectionVars false
theorem wrap_u64 (x : Int) : IntKind.u64.wrap x = x % 18446744073709551616 := by
  simp only [IntKind.wrap, IntKind.bits, IntKind.signed]
  simp
/-- Turned round by one. -/
def turn1 (x : Nat) : Nat := (2 * x) % 18446744073709551616 + x / 9223372036854775808
def turnN : Nat → Nat → Nat
  | 0, x => x
  | n + 1, x => turn1 (turnN n x)
theorem turnN_eq (x : Nat) (hx : x < 2 ^ 64) : ∀ k : Nat, k ≤ 63 → turnN k x = (x * 2 ^ k) % 2 ^ 64 + (x * 2 ^ k) / 2 ^ 64
  | 0, _ => by simp only [turnN, Nat.pow_zero, Nat.mul_one]; rw [Nat.mod_eq_of_lt hx, Nat.div_eq_of_lt hx]; rfl
  | k + 1, hk => by
    have ih := turnN_eq x hx k (by omega)
    simp only [turnN]
    rw [ih]
    obtain ⟨p, hp⟩ : ∃ p, 2 ^ k = p := ⟨_, rfl⟩
    obtain ⟨m, hm⟩ : ∃ m, 2 ^ (63 - k) = m := ⟨_, rfl⟩
    have hp0 : 0 < p := by rw [← hp]; exact Nat.two_pow_pos k
    have hm0 : 0 < m := by rw [← hm]; exact Nat.two_pow_pos _
    have h63 : p * m = 2 ^ 63 := by rw [← hp, ← hm, ← Nat.pow_add]; congr 1; omega
    have h64 : 2 ^ 64 = p * (2 * m) := by rw [show p * (2 * m) = 2 * (p * m) by rw [Nat.mul_left_comm], h63]
    have hr : (x * p) % 2 ^ 64 = p * (x % (2 * m)) := by rw [h64, Nat.mul_comm x p, Nat.mul_mod_mul_left]
    have hq : (x * p) / 2 ^ 64 = x / (2 * m) := by rw [h64, Nat.mul_comm x p, Nat.mul_div_mul_left _ _ hp0]
    rw [show (2 : Nat) ^ (k + 1) = p * 2 by rw [← hp, Nat.pow_succ], hp, hr, hq]
    obtain ⟨s, hs⟩ : ∃ s, x % (2 * m) = s := ⟨_, rfl⟩
    obtain ⟨q, hq2⟩ : ∃ q, x / (2 * m) = q := ⟨_, rfl⟩
    have hs2 : s < 2 * m := by rw [← hs]; exact Nat.mod_lt _ (by omega)
    have hqp : q < p := by rw [← hq2]; apply Nat.div_lt_of_lt_mul; rw [Nat.mul_comm, ← h64]; exact hx
    have hx2 : x = 2 * m * q + s := by rw [← hs, ← hq2]; exact (Nat.div_add_mod x (2 * m)).symm
    rw [hs, hq2]
    have e1 : (p * s + q) / 9223372036854775808 = s / m := by
      rw [show 9223372036854775808 = p * m from h63.symm, ← Nat.div_div_eq_div_mul]
      congr 1
      rw [Nat.mul_add_div hp0, Nat.div_eq_of_lt hqp, Nat.add_zero]
    have hxp : x * (p * 2) = 2 ^ 64 * (2 * q) + p * (2 * s) := by rw [h64, hx2]; grind
    have hc : s / m = 0 ∧ s < m ∨ s / m = 1 ∧ m ≤ s := by
      by_cases h : s < m
      · exact Or.inl ⟨Nat.div_eq_of_lt h, h⟩
      · refine Or.inr ⟨?_, by omega⟩
        have := Nat.div_add_mod s m
        have h1 : s / m < 2 := by apply Nat.div_lt_of_lt_mul; omega
        have h2 : 1 ≤ s / m := (Nat.one_le_div_iff hm0).2 (by omega)
        omega
    unfold turn1
    rw [e1, hxp]
    rcases hc with ⟨e, h⟩ | ⟨e, h⟩
    · have hb : p * (2 * s) + 2 * q < 2 ^ 64 := by
        rw [h64]
        have : p * (2 * s + 2) ≤ p * (2 * m) := Nat.mul_le_mul_left p (by omega)
        rw [Nat.mul_add] at this
        omega
      rw [e, show 2 * (p * s + q) = p * (2 * s) + 2 * q by rw [Nat.mul_add, Nat.mul_left_comm], Nat.mod_eq_of_lt (by omega), Nat.mul_add_mod, Nat.mul_add_div (by decide), Nat.mod_eq_of_lt (by omega), Nat.div_eq_of_lt (show p * (2 * s) < 2 ^ 64 by omega)]
      omega
    · obtain ⟨u, hu⟩ : ∃ u, s = m + u := ⟨s - m, by omega⟩
      have e2 : p * (2 * s) = 2 ^ 64 + p * (2 * u) := by rw [h64, hu]; grind
      have hb : p * (2 * u) + 2 * q < 2 ^ 64 := by
        rw [h64]
        have : p * (2 * u + 2) ≤ p * (2 * m) := Nat.mul_le_mul_left p (by omega)
        rw [Nat.mul_add] at this
        omega
      rw [e, show 2 * (p * s + q) = p * (2 * s) + 2 * q by rw [Nat.mul_add, Nat.mul_left_comm], e2, show 2 ^ 64 + p * (2 * u) + 2 * q = 2 ^ 64 + (p * (2 * u) + 2 * q) by omega, show (18446744073709551616 : Nat) = 2 ^ 64 by decide, Nat.add_mod_left, Nat.mod_eq_of_lt hb, show 2 ^ 64 * (2 * q) + (2 ^ 64 + p * (2 * u)) = 2 ^ 64 * (2 * q + 1) + p * (2 * u) by omega, Nat.mul_add_mod, Nat.mul_add_div (by decide), Nat.mod_eq_of_lt (show p * (2 * u) < 2 ^ 64 by omega), Nat.div_eq_of_lt (show p * (2 * u) < 2 ^ 64 by omega)]
      omega
theorem or_add {a b j : Nat} (ha : a < 2 ^ j) : (a ||| b * 2 ^ j) = a + b * 2 ^ j := by
  rw [Nat.or_comm, Nat.mul_comm, ← Nat.two_pow_add_eq_or_of_lt ha, Nat.add_comm]
/-- The bits of two numbers that do not meet. -/
theorem abits_or {a b : Nat} (ha : a < 2 ^ 64) (hb : b < 2 ^ 64) : abits .or .u64 (a : Int) (b : Int) = ((a ||| b : Nat) : Int) := by
  have e : abits .or .u64 (a : Int) (b : Int) = IntKind.u64.wrap ((BitVec.ofInt 64 (a : Int) ||| BitVec.ofInt 64 (b : Int)).toNat : Int) := rfl
  rw [e, BitVec.ofInt_natCast, BitVec.ofInt_natCast, BitVec.toNat_or, BitVec.toNat_ofNat, BitVec.toNat_ofNat, Nat.mod_eq_of_lt ha, Nat.mod_eq_of_lt hb, wrap_u64]
  have := Nat.or_lt_two_pow ha hb
  omega
theorem rot_turn (x : Nat) (hx : x < 2 ^ 64) {k : Nat} (hk : k ≤ 63) : rotI (x : Int) k = (turnN k x : Int) := by
  have hM : (2 : Nat) ^ 64 = 2 ^ k * 2 ^ (64 - k) := by rw [← Nat.pow_add]; congr 1; omega
  have h1 : IntKind.u64.wrap ((x : Int) * 2 ^ k) = ((((x % 2 ^ (64 - k)) * 2 ^ k : Nat)) : Int) := by
    rw [wrap_u64, show ((x : Int) * 2 ^ k) = ((x * 2 ^ k : Nat) : Int) by push_cast; try rfl, show (18446744073709551616 : Int) = ((2 ^ 64 : Nat) : Int) by decide, ← Int.natCast_emod, hM, Nat.mul_comm x, Nat.mul_mod_mul_left, Nat.mul_comm (2 ^ k)]
  have h2 : (x : Int).fdiv (2 ^ (64 - k)) = ((x / 2 ^ (64 - k) : Nat) : Int) := by
    rw [Int.fdiv_eq_ediv_of_nonneg _ (Int.le_of_lt (Int.pow_pos (by decide))), show ((2 : Int) ^ (64 - k)) = ((2 ^ (64 - k) : Nat) : Int) by push_cast; try rfl, ← Int.natCast_ediv]
  have hq : x / 2 ^ (64 - k) < 2 ^ k := by apply Nat.div_lt_of_lt_mul; rw [Nat.mul_comm, ← hM]; exact hx
  unfold rotI
  rw [h1, h2, abits_or, Nat.or_comm, or_add hq, turnN_eq x hx k hk]
  · congr 1
    rw [hM, Nat.mul_comm x, Nat.mul_mod_mul_left, Nat.mul_div_mul_left _ _ (Nat.two_pow_pos k), Nat.mul_comm, Nat.add_comm]
  · rw [hM, Nat.mul_comm]
    exact Nat.mul_lt_mul_of_pos_left (Nat.mod_lt _ (Nat.two_pow_pos _)) (Nat.two_pow_pos _)
  · exact Nat.lt_of_le_of_lt (Nat.div_le_self _ _) hx
end Go.Proofs.YtdpbbagllhfjbaaDoorW.AI.F
namespace Go.Proofs.YtdpbbagllhfjbaaDoorW.AI.F
open Go Go.Proofs.YtdpbbagllhfjbaaDoorW.AI Go.Proofs.YtdpbbagllhfjbaaDoorW.AI.Oct
set_option maxRecDepth 100000
set_option linter.unusedSimpArgs false
set_option linter.unusedVariables false
set_option linter.unusedSectionVars false
theorem u64_in (p : Int) : 0 ≤ IntKind.u64.wrap p ∧ IntKind.u64.wrap p < 18446744073709551616 := by
  rw [wrap_u64]
  omega
theorem turnN_lt (x : Nat) (hx : x < 18446744073709551616) : ∀ k, turnN k x < 18446744073709551616
  | 0 => hx
  | k + 1 => by
    have := turnN_lt x hx k
    simp only [turnN, turn1]
    omega
theorem turn_c {x : Int} {k : Nat} (h0 : 0 ≤ x) (h1 : x < 18446744073709551616) (hk : k ≤ 63) (h : AHeap) : W CP 115 [.int .u64 x, .int .i64 (k : Int)] h = some (.int .u64 (rotI x k), h, []) := by
  obtain ⟨z, rfl⟩ : ∃ z : Nat, x = (z : Int) := ⟨x.toNat, by omega⟩
  have hz : z < 18446744073709551616 := by omega
  rw [rot_turn z hz hk]
  refine W_val (m := M115) (fun _ => rfl) rfl rfl rfl ?_ h
  simp (maxDischargeDepth := 9) -implicitDefEqProofs only [push_cast, simprocAttr, M115]
  refine wp_kRes (wp_kSeq (wp_kBlock ?_))
  refine wp_loop (fun j a h' ws => ∃ i : Nat, j = k - i ∧ i ≤ k ∧ a = [(0, .int .u64 (turnN i z : Int)), (1, .int .i64 (k : Int)), (5, .int .i64 (i : Int))]) k ?_ ?_
  · exact ⟨0, by omega, by omega, by simp (maxDischargeDepth := 9) -implicitDefEqProofs only [push_cast, simprocAttr]; try rfl⟩
  · rintro j aa h' ws ⟨i, rfl, hi, rfl⟩
    have v1 : IntKind.i64.wrap ((i : Int) + 1) = (i : Int) + 1 := wr_i64 _ (by omega) (by omega)
    by_cases hlt : i < k
    · have hlt' : (i : Int) < (k : Int) := by omega
      have hy := turnN_lt z hz i
      have hs : turnN (i + 1) z = turn1 (turnN i z) := rfl
      obtain ⟨y, hyy⟩ : ∃ y, turnN i z = y := ⟨_, rfl⟩
      rw [hyy] at hy hs ⊢
      obtain ⟨r, hr⟩ : ∃ r, y / 9223372036854775808 = r := ⟨_, rfl⟩
      obtain ⟨s, hs2⟩ : ∃ s, (2 * y) % 18446744073709551616 = s := ⟨_, rfl⟩
      have d1 : Int.tdiv (y : Int) 9223372036854775808 = (r : Int) := by rw [Int.tdiv_eq_ediv_of_nonneg (by omega)]; omega
      have w1 : IntKind.u64.wrap (r : Int) = (r : Int) := wr_u64 _ (by omega) (by omega)
      have w2 : IntKind.u64.wrap (2 * (y : Int)) = (s : Int) := by rw [wrap_u64]; omega
      have w3 : IntKind.u64.wrap ((s : Int) + (r : Int)) = ((turn1 y : Nat) : Int) := by rw [wr_u64 _ (by omega) (by omega)]; unfold turn1; rw [hs2, hr]; omega
      have hcast : (((i + 1 : Nat)) : Int) = (i : Int) + 1 := by omega
      simp (maxDischargeDepth := 9) -implicitDefEqProofs only [push_cast, simprocAttr, hlt', d1, w1, w2, w3, v1]
      refine loop_next (k - (i + 1)) (by omega) ⟨i + 1, rfl, by omega, ?_⟩
      rw [hs, hcast]
      simp (maxDischargeDepth := 9) -implicitDefEqProofs only [push_cast, simprocAttr]; try simp
    · have hi2 : i = k := by omega
      subst hi2
      have hnl : ¬ (i : Int) < (i : Int) := by omega
      simp (maxDischargeDepth := 9) -implicitDefEqProofs only [push_cast, simprocAttr, hnl]
set_option maxHeartbeats 16000000 in
theorem rround_c {h : AHeap} {v : V4} {q : Nat} (hg : Good h) (hq : h[q]? = some ⟨.tip false, .ints .u64 [v.a, v.b, v.c, v.d]⟩) (b0 : 0 ≤ v.b) (b1 : v.b < 18446744073709551616) (d0 : 0 ≤ v.d) (d1 : v.d < 18446744073709551616) :
    W CP 98 [.ptr q 0] h = some (.tup [], h.set q ⟨.tip false, .ints .u64 [(roundV v).a, (roundV v).b, (roundV v).c, (roundV v).d]⟩, [q]) := by
  have lq := (List.getElem?_eq_some_iff.1 hq).1
  refine W_set0 (m := M98) rfl rfl rfl rfl rfl hg lq rfl rfl ?_
  have t1 := fun h => turn_c (x := v.b) (k := 13) b0 b1 (by decide) h
  have t2 := fun h => turn_c (x := IntKind.u64.wrap (v.a + v.b)) (k := 32) (u64_in _).1 (u64_in _).2 (by decide) h
  have t3 := fun h => turn_c (x := v.d) (k := 16) d0 d1 (by decide) h
  have t4 := fun h => turn_c (x := abits .xor .u64 (rotI v.d 16) (IntKind.u64.wrap (v.c + v.d))) (k := 21) (u64_in _).1 (u64_in _).2 (by decide) h
  have t5 := fun h => turn_c (x := abits .xor .u64 (rotI v.b 13) (IntKind.u64.wrap (v.a + v.b))) (k := 17) (u64_in _).1 (u64_in _).2 (by decide) h
  have t6 := fun h => turn_c (x := IntKind.u64.wrap (IntKind.u64.wrap (v.c + v.d) + abits .xor .u64 (rotI v.b 13) (IntKind.u64.wrap (v.a + v.b)))) (k := 32) (u64_in _).1 (u64_in _).2 (by decide) h
  simp only [Int.cast_ofNat_Int] at t1 t2 t3 t4 t5 t6
  have hle : ¬ h.length ≤ q := by omega
  simp (maxDischargeDepth := 9) -implicitDefEqProofs only [push_cast, simprocAttr, M98, hq, lq, t1, t2, t3, t4, t5, t6, hle, decide_false, Bool.not_false, Bool.and_true, List.length_set, List.set_set, List.getElem?_set_self, List.mem_cons, true_or, not_true_eq_false, and_false, if_false, if_true]
  rfl
/-- The lowest digit first. -/
def le : List Int → Int
  | [] => 0
  | c :: t => c + 256 * le t
theorem le_bound : ∀ (D : List Int), Byt D → 0 ≤ le D ∧ le D < 256 ^ D.length
  | [], _ => by simp [le]
  | c :: t, hB => by
    have h1 := le_bound t (fun z hz => hB z (List.mem_cons_of_mem _ hz))
    have h2 := hB c (List.mem_cons_self ..)
    rw [List.length_cons, Int.pow_succ]
    simp only [le]
    omega
theorem le_lt8 {D : List Int} (hB : Byt D) (h8 : D.length ≤ 8) : 0 ≤ le D ∧ le D < 18446744073709551616 := by
  have h := le_bound D hB
  have : (256 : Int) ^ D.length ≤ 256 ^ 8 := by
    have := Nat.pow_le_pow_right (show 0 < 256 by decide) h8
    exact_mod_cast this
  have e : (256 : Int) ^ 8 = 18446744073709551616 := by decide
  omega
theorem le_drop {D : List Int} {i : Nat} {c : Int} (h : D[i]? = some c) : le (D.drop i) = c + 256 * le (D.drop (i + 1)) := by
  obtain ⟨hi, hc⟩ := List.getElem?_eq_some_iff.1 h
  rw [List.drop_eq_getElem_cons hi, hc]
  rfl
set_option maxHeartbeats 4000000 in
theorem rword_c {h : AHeap} {x : AV} {D : List Int} (hg : Good h) (hx : BV h x D) (h8 : D.length ≤ 8) : W CP 114 [x] h = some (.int .u64 (le D), h, []) := by
  obtain ⟨n, hn⟩ : ∃ n, D.length = n := ⟨_, rfl⟩
  refine W_bothH (m := M114) (fun g => BV g x D) (fun _ => rfl) rfl rfl rfl glG (fun h0 => ?_) (fun g hg hx => ?_) hg hx
  · exact hx.gl (by simpa [AV.lts] using h0)
  have nx := hx.na
  have lx := hx.len
  rw [hn] at lx h8
  have w1 : IntKind.i64.wrap ((n : Int) - 1) = (n : Int) - 1 := wr_i64 _ (by omega) (by omega)
  simp (maxDischargeDepth := 9) -implicitDefEqProofs only [push_cast, simprocAttr, M114, nx, lx, w1]
  refine wp_kRes (wp_kSeq (wp_kBlock ?_))
  refine wp_loop (fun k a h' ws => ∃ i : Nat, k = i + 1 ∧ i ≤ n ∧ a = [(0, x), (3, .int .u64 (le (D.drop i))), (4, .int .i64 ((i : Int) - 1))] ∧ h' = g ∧ ws = []) (n + 1) ?_ ?_
  · refine ⟨n, rfl, by omega, ?_, rfl, rfl⟩
    rw [← hn, List.drop_length]
    simp (maxDischargeDepth := 9) -implicitDefEqProofs only [push_cast, simprocAttr, nx, hn]; try rfl
  · rintro k aa h' ws ⟨i, rfl, hi, rfl, rfl, rfl⟩
    by_cases h0 : 0 < i
    · obtain ⟨j, rfl⟩ : ∃ j, i = j + 1 := ⟨i - 1, by omega⟩
      have hge : (0 : Int) ≤ ((j + 1 : Nat) : Int) - 1 := by omega
      have hj : ((j + 1 : Nat) : Int) - 1 = (j : Int) := by omega
      obtain ⟨bb, o, st, l, hbb, hst, hia, hat⟩ := hx.byte (by rintro rfl; simp at hn; omega)
      obtain ⟨c, hc⟩ : ∃ c, D[j]? = some c := ⟨_, List.getElem?_eq_getElem (by omega)⟩
      have hi1 := hia h' j (by omega)
      have hld : ldV none h' (some (.ptr bb (o + j))) = some (.int .u8 c, h', []) := by
        have hcc : cellsAt h' bb = some (.ints .u8 l) := cellsAt_of hbb (by rcases hst with rfl | ⟨_, rfl⟩ <;> simp)
        simp only [ldV, hcc, Option.bind_some, loadA, ACells.get?, hat j c hc, Option.map_some]
      have hcb := hx.1 _ (List.mem_of_getElem? hc)
      have w2 : IntKind.u64.wrap c = c := wr_u64 _ (by omega) (by omega)
      have hb := le_lt8 (D := D.drop j) (fun z hz => hx.1 z (List.mem_of_mem_drop hz)) (by rw [List.length_drop]; omega)
      have hb2 := le_lt8 (D := D.drop (j + 1)) (fun z hz => hx.1 z (List.mem_of_mem_drop hz)) (by rw [List.length_drop]; omega)
      rw [le_drop hc] at hb
      have w3 : IntKind.u64.wrap (le (D.drop (j + 1)) * 256) = le (D.drop (j + 1)) * 256 := wr_u64 _ (by omega) (by omega)
      have w4 : IntKind.u64.wrap (le (D.drop (j + 1)) * 256 + c) = le (D.drop (j + 1)) * 256 + c := wr_u64 _ (by omega) (by omega)
      have w5 : IntKind.i64.wrap ((j : Int) - 1) = (j : Int) - 1 := wr_i64 _ (by omega) (by omega)
      have hge' : (0 : Int) ≤ (j : Int) := by omega
      rw [hj]
      simp (maxDischargeDepth := 9) -implicitDefEqProofs only [push_cast, simprocAttr, hge', nx, ↓ia_eq, hi1, ↓ldv_eq 16, hld, w2, w3, w4, w5]
      refine loop_next (j + 1) (by omega) ⟨j, rfl, by omega, ?_, rfl, rfl⟩
      rw [le_drop hc, show c + 256 * le (D.drop (j + 1)) = le (D.drop (j + 1)) * 256 + c by omega]
      simp (maxDischargeDepth := 9) -implicitDefEqProofs only [push_cast, simprocAttr, nx]; try simp
    · obtain rfl : i = 0 := by omega
      have hnl : ¬ (0 : Int) ≤ ((0 : Nat) : Int) - 1 := by decide
      rw [List.drop_zero]
      simp (maxDischargeDepth := 9) -implicitDefEqProofs only [push_cast, simprocAttr, hnl, nx]
      first | exact quiet_i | exact ⟨rfl, ⟨[], by simp⟩, rfl⟩
end Go.Proofs.YtdpbbagllhfjbaaDoorW.AI.F
namespace Go.Proofs.YtdpbbagllhfjbaaDoorW.AI.F
open Go Go.Proofs.YtdpbbagllhfjbaaDoorW.AI Go.Proofs.YtdpbbagllhfjbaaDoorW.AI.Oct
set_option maxRecDepth 100000
set_option linter.unusedSimpArgs false
set_option linter.unusedVariables false
set_option linter.unusedSectionVars false
def wordAt (D : List Int) (k : Nat) : Int := le ((D.drop (8 * k)).take 8)
def wordsI (D : List Int) (m : Nat) : List Int := (List.range m).map (wordAt D)
theorem wordsI_succ (D : List Int) (m : Nat) : wordsI D (m + 1) = wordsI D m ++ [wordAt D m] := by
  simp [wordsI, List.range_succ]
theorem wordsI_len (D : List Int) (m : Nat) : (wordsI D m).length = m := by simp [wordsI]
def lastW (D : List Int) : Int := le (D.drop (8 * (D.length / 8))) + ((D.length % 256 : Nat) : Int) * 72057594037927936
def absorb (v : V4) (l : List Int) : V4 := l.foldl takeW v
theorem absorb_snoc (v : V4) (l : List Int) (w : Int) : absorb v (l ++ [w]) = takeW (absorb v l) w := by simp [absorb]
theorem le_snoc (R : List Int) (c : Int) : le (R ++ [c]) = le R + c * 256 ^ R.length := by
  induction R with
  | nil => simp [le]
  | cons d t ih =>
    simp only [List.cons_append, le, ih, List.length_cons, Int.pow_succ]
    grind
theorem or_le {R : List Int} {c : Int} (hB : Byt R) (h7 : R.length ≤ 7) (c0 : 0 ≤ c) (c1 : c < 256) : orI (le R) (shlI c (8 * R.length)) = le (R ++ [c]) := by
  have hb := le_bound R hB
  obtain ⟨j, hj⟩ : ∃ j, R.length = j := ⟨_, rfl⟩
  rw [le_snoc]
  rw [hj] at hb h7 ⊢
  obtain ⟨a, ha⟩ : ∃ a : Nat, le R = (a : Int) := ⟨(le R).toNat, by omega⟩
  obtain ⟨b, rfl⟩ : ∃ b : Nat, c = (b : Int) := ⟨c.toNat, by omega⟩
  rw [ha] at hb ⊢
  have hp : (256 : Nat) ^ j = 2 ^ (8 * j) := by rw [show (256 : Nat) = 2 ^ 8 by decide, ← Nat.pow_mul]
  have ha2 : a < 2 ^ (8 * j) := by
    rw [← hp]
    have := hb.2
    rw [show (256 : Int) ^ j = ((256 ^ j : Nat) : Int) by push_cast; try rfl] at this
    omega
  have h64 : b * 2 ^ (8 * j) < 2 ^ 64 := by
    calc b * 2 ^ (8 * j) < 2 ^ 8 * 2 ^ (8 * j) := Nat.mul_lt_mul_of_pos_right (by omega) (Nat.two_pow_pos _)
      _ = 2 ^ (8 + 8 * j) := by rw [← Nat.pow_add]
      _ ≤ 2 ^ 64 := Nat.pow_le_pow_right (by decide) (by omega)
  have hs : shlI (b : Int) (8 * j) = ((b * 2 ^ (8 * j) : Nat) : Int) := by
    unfold shlI
    rw [show ((b : Int) * 2 ^ (8 * j)) = ((b * 2 ^ (8 * j) : Nat) : Int) by push_cast; try rfl, wrap_u64]
    omega
  have ha3 : a < 2 ^ 64 := Nat.lt_of_lt_of_le ha2 (Nat.pow_le_pow_right (by decide) (by omega))
  unfold orI
  rw [hs, abits_or ha3 h64, or_add ha2, ← hp]
  push_cast
  try rfl
theorem runT_words (A B : Int) (D : List Int) (hB : Byt D) : runT A B D = ⟨absorb (startV A B) (wordsI D (D.length / 8)), le (D.drop (8 * (D.length / 8))), D.length⟩ := by
  induction D using snoc_ind with
  | h0 => rfl
  | h1 l c ih =>
    have hBl : Byt l := fun z hz => hB z (by simp [hz])
    have hc := hB c (by simp)
    rw [runT_snoc, ih hBl, List.length_append, List.length_singleton]
    obtain ⟨n, hn⟩ : ∃ n, l.length = n := ⟨_, rfl⟩
    rw [hn]
    have hRl : (l.drop (8 * (n / 8))).length = n % 8 := by rw [List.length_drop, hn]; omega
    have hBR : Byt (l.drop (8 * (n / 8))) := fun z hz => hBl z (List.mem_of_mem_drop hz)
    have hor := or_le hBR (by omega) hc.1 hc.2
    rw [hRl] at hor
    have hdrop : (l ++ [c]).drop (8 * (n / 8)) = l.drop (8 * (n / 8)) ++ [c] := by rw [List.drop_append_of_le_length (by omega)]
    have hwords : ∀ m, m ≤ n / 8 → wordsI (l ++ [c]) m = wordsI l m := by
      intro m hm
      unfold wordsI
      refine List.map_congr_left fun k hk => ?_
      have hk := List.mem_range.1 hk
      unfold wordAt
      rw [List.drop_append_of_le_length (by omega), List.take_append_of_le_length (by rw [List.length_drop]; omega)]
    unfold stepT
    simp only
    rw [hor]
    by_cases h8 : (n + 1) % 8 = 0
    · rw [if_pos h8, show (n + 1) / 8 = n / 8 + 1 by omega, wordsI_succ, absorb_snoc, hwords _ (Nat.le_refl _)]
      have e1 : wordAt (l ++ [c]) (n / 8) = le (l.drop (8 * (n / 8)) ++ [c]) := by
        unfold wordAt
        rw [hdrop, List.take_of_length_le (by rw [List.length_append, hRl, List.length_singleton]; omega)]
      have e2 : (l ++ [c]).drop (8 * (n / 8 + 1)) = [] := List.drop_of_length_le (by rw [List.length_append, hn, List.length_singleton]; omega)
      rw [e1, e2]
      rfl
    · rw [if_neg h8, show (n + 1) / 8 = n / 8 by omega, hwords _ (Nat.le_refl _), hdrop]
theorem last_or {D : List Int} (hB : Byt D) (hl : D.length < 1000000) : orI (le (D.drop (8 * (D.length / 8)))) (shlI ((D.length : Nat) : Int) 56) = lastW D := by
  obtain ⟨n, hn⟩ : ∃ n, D.length = n := ⟨_, rfl⟩
  have hRl : (D.drop (8 * (n / 8))).length = n % 8 := by rw [List.length_drop, hn]
                                                         omega
  have hb := le_bound (D.drop (8 * (n / 8))) (fun z hz => hB z (List.mem_of_mem_drop hz))
  rw [hRl] at hb
  unfold lastW
  rw [hn]
  obtain ⟨a, ha⟩ : ∃ a : Nat, le (D.drop (8 * (n / 8))) = (a : Int) := ⟨(le (D.drop (8 * (n / 8)))).toNat, by omega⟩
  rw [ha] at hb ⊢
  have hp : (256 : Int) ^ (n % 8) ≤ 256 ^ 7 := by
    have := Nat.pow_le_pow_right (show 0 < 256 by decide) (show n % 8 ≤ 7 by omega)
    exact_mod_cast this
  have e7 : (256 : Int) ^ 7 = 72057594037927936 := by decide
  have ha2 : a < 2 ^ 56 := by omega
  have hs : shlI (n : Int) 56 = (((n % 256) * 2 ^ 56 : Nat) : Int) := by
    unfold shlI
    rw [wrap_u64]
    omega
  unfold orI
  rw [hs, abits_or (by omega) (by omega), or_add ha2]
  omega
/-- The tag, word by word. -/
def tagR (A B : Int) (D : List Int) : Int :=
  let u := absorb (startV A B) (wordsI D (D.length / 8) ++ [lastW D])
  let z := iterV 4 { u with c := xorI u.c 255 }
  xorI (xorI (xorI z.a z.b) z.c) z.d
theorem tag_eq {A B : Int} {D : List Int} (hB : Byt D) (hl : D.length < 1000000) : tagI A B D = tagR A B D := by
  unfold tagI tagR
  simp only [runT_words A B D hB, absorb_snoc, last_or hB hl]
theorem last_in {D : List Int} (hB : Byt D) : 0 ≤ le (D.drop (8 * (D.length / 8))) ∧ le (D.drop (8 * (D.length / 8))) < 72057594037927936 := by
  have hb := le_bound (D.drop (8 * (D.length / 8))) (fun z hz => hB z (List.mem_of_mem_drop hz))
  have hp : (256 : Int) ^ (D.drop (8 * (D.length / 8))).length ≤ 256 ^ 7 := by
    have := Nat.pow_le_pow_right (show 0 < 256 by decide) (show (D.drop (8 * (D.length / 8))).length ≤ 7 by rw [List.length_drop]; omega)
    exact_mod_cast this
  have e7 : (256 : Int) ^ 7 = 72057594037927936 := by decide
  omega
set_option maxHeartbeats 16000000 in
theorem rwords_key {g : AHeap} {x : AV} {D : List Int} (hg : Good g) (hx : BV g x D) (hl : D.length < 1000000) :
    Wp (xbody (W CP) M97 [x] g) fun r => r.1.lt g.length = false ∧ ∃ v js, r = (v, g ++ js, []) ∧ Gs8At (g ++ js) v (wordsI D (D.length / 8) ++ [lastW D]) ∧ Good (g ++ js) ∧ v.lt g.length = false := by
  obtain ⟨n, hn⟩ : ∃ n, D.length = n := ⟨_, rfl⟩
  have nx := hx.na
  have lx := hx.len
  have hlw := last_in hx.1
  have hlast : lastW D = le (D.drop (8 * (n / 8))) + ((n % 256 : Nat) : Int) * 72057594037927936 := by unfold lastW; rw [hn]
  rw [hn] at lx hl hlw ⊢
  simp (maxDischargeDepth := 9) -implicitDefEqProofs only [push_cast, simprocAttr, M97, nx]
  refine wp_kRes (wp_kSeq (wp_kBlock ?_))
  refine wp_loop (fun k a h' ws => ∃ (i : Nat) (lv : AV), k = n / 8 + 1 - i ∧ i ≤ n / 8 ∧ a = [(0, x), (3, lv), (4, .int .i64 ((8 * i : Nat) : Int))] ∧ Gs8At h' lv (wordsI D i) ∧ Keeps g h' none ∧ (∀ p, blkOf lv = some p → g.length ≤ p) ∧ ws = []) (n / 8 + 1) ?_ ?_
  · refine ⟨0, .nils, by omega, by omega, ?_, Or.inl ⟨rfl, rfl⟩, Keeps.refl _ _, by simp [blkOf], rfl⟩
    simp (maxDischargeDepth := 9) -implicitDefEqProofs only [push_cast, simprocAttr, nx]; try rfl
  · rintro k aa h' ws ⟨i, lv, rfl, hi, rfl, hv, kp, hvb, rfl⟩
    have hxh := hx.keep (keepsAll kp)
    have hgh := kp.2.2 hg
    have nlv := na_slen hv.slen
    obtain ⟨at_, hat⟩ : ∃ a, 8 * i = a := ⟨_, rfl⟩
    obtain ⟨u, hu⟩ : ∃ u, at_ + 8 = u := ⟨_, rfl⟩
    have w1 : IntKind.i64.wrap ((at_ : Int) + 8) = (u : Int) := by rw [wr_i64 _ (by omega) (by omega)]; omega
    rw [hat]
    by_cases hlt : i < n / 8
    · have hle : (u : Int) ≤ (n : Int) := by omega
      have hle2 : u ≤ D.length := by omega
      have hle3 : at_ ≤ u := by omega
      have e1 := BV.slc hxh hle3 hle2
      have bs := (hxh.take hle2).off (k := at_) (by rw [List.length_take]; omega)
      have hbs : (D.take u).drop at_ = (D.drop (8 * i)).take 8 := by rw [List.drop_take, hat]; congr 1; omega
      rw [hbs] at bs
      have ew := rword_c hgh bs (by rw [List.length_take]; omega)
      obtain ⟨d, hd⟩ : ∃ d, wordAt D i = d := ⟨_, rfl⟩
      rw [show le ((D.drop (8 * i)).take 8) = d from hd] at ew
      have nb := bs.na
      have hkb : Keeps h' (h' ++ [⟨.tip false, .ints .u64 [d]⟩]) none := Keeps.app _ _ _ rfl
      obtain ⟨v', h2, ws2, ea, g2, k2, w4, b2, l2⟩ := app_one8 (xs := [d]) (k := 1) (hv.keeps hkb (by simp)) rfl (by omega) (by rw [wordsI_len]; omega)
      have en := new_one8 (H := h') d
      have na2 := na_slen g2.slen
      have kk : Keeps g h2 none := keeps_own hg (keeps_js kp [⟨.tip false, .ints .u64 [d]⟩] rfl) k2 hvb
      have hwa : wadd g.length [] ws2 = [] := wadd_ge fun b hb => by exact hvb b (w4 b hb)
      have hlo : ¬ h'.length < g.length := by have := kp.2.1; omega
      rw [← hd, ← wordsI_succ] at g2
      simp (maxDischargeDepth := 9) -implicitDefEqProofs only [push_cast, simprocAttr, nadd1, nadd2, nadd3, nadd4, nadd5, nadd6, nadd7, nadd8, nadd9, nadd10, nadd11, nadd12, nx, nlv, lx, w1, hle, ↓slc_eqB, e1, nb, ew, en, ea, hwa, na2, hlo]
      refine loop_next (n / 8 + 1 - (i + 1)) (by omega) ⟨i + 1, v', rfl, by omega, ?_, g2, kk, fun p hp => ?_, rfl⟩
      · rw [show (8 : Int) * ((i + 1 : Nat) : Int) = (u : Int) by omega]
        simp (maxDischargeDepth := 9) -implicitDefEqProofs only [push_cast, simprocAttr, nx, na2]; try simp
      · rw [b2] at hp
        cases hp
        have := kp.2.1
        simp
        omega
    · have hi2 : i = n / 8 := by omega
      have hnl : ¬ (u : Int) ≤ (n : Int) := by omega
      have hle2 : at_ ≤ D.length := by omega
      have e1 := BV.slc_lo hxh hle2
      have bs := hxh.off hle2
      have ew := rword_c hgh bs (by rw [List.length_drop]; omega)
      have hdr : D.drop at_ = D.drop (8 * (n / 8)) := by rw [← hat, hi2]
      rw [hdr] at ew bs
      obtain ⟨a, ha⟩ : ∃ a, le (D.drop (8 * (n / 8))) = a := ⟨_, rfl⟩
      obtain ⟨r, hr⟩ : ∃ r, n % 256 = r := ⟨_, rfl⟩
      rw [ha] at ew hlw hlast
      rw [hr] at hlast
      have nb := bs.na
      have m1 : Int.tmod (n : Int) 256 = (r : Int) := by rw [Int.tmod_eq_emod_of_nonneg (by omega)]; omega
      have w2 : IntKind.i64.wrap (r : Int) = (r : Int) := wr_i64 _ (by omega) (by omega)
      have w3 : IntKind.u64.wrap (r : Int) = (r : Int) := wr_u64 _ (by omega) (by omega)
      have w4 : IntKind.u64.wrap ((r : Int) * 72057594037927936) = (r : Int) * 72057594037927936 := wr_u64 _ (by omega) (by omega)
      have w5 : IntKind.u64.wrap (a + (r : Int) * 72057594037927936) = lastW D := by rw [wr_u64 _ (by omega) (by omega), hlast]
      obtain ⟨d, hd⟩ : ∃ d, lastW D = d := ⟨_, rfl⟩
      rw [hd] at w5 ⊢
      have hkb : Keeps h' (h' ++ [⟨.tip false, .ints .u64 [d]⟩]) none := Keeps.app _ _ _ rfl
      obtain ⟨v', h2, ws2, ea, g2, k2, w4', b2, l2⟩ := app_one8 (xs := [d]) (k := 1) (hv.keeps hkb (by simp)) rfl (by omega) (by rw [wordsI_len]; omega)
      have en := new_one8 (H := h') d
      have na2 := na_slen g2.slen
      have kk : Keeps g h2 none := keeps_own hg (keeps_js kp [⟨.tip false, .ints .u64 [d]⟩] rfl) k2 hvb
      have hwa : wadd g.length [] ws2 = [] := wadd_ge fun b hb => by exact hvb b (w4' b hb)
      have hlo : ¬ h'.length < g.length := by have := kp.2.1; omega
      rw [hi2] at g2
      obtain ⟨js, rfl⟩ := kk.behind
      have hvl : v'.lt g.length = false := by
        rcases g2 with ⟨_, e⟩ | ⟨p, mn, o, rfl, _⟩
        · simp at e
        · simp only [blkOf, Option.some.injEq] at b2
          have := kp.2.1
          simp [AV.lt, b2]
          omega
      simp (maxDischargeDepth := 9) -implicitDefEqProofs only [push_cast, simprocAttr, nadd1, nadd2, nadd3, nadd4, nadd5, nadd6, nadd7, nadd8, nadd9, nadd10, nadd11, nadd12, nx, nlv, lx, w1, hnl, ↓slc_eqL, e1, nb, ew, m1, w2, w3, w4, w5, en, ea, hwa, na2, hlo]
      exact ⟨hvl, v', js, rfl, g2, kk.2.2 hg, hvl⟩
theorem rwords_c {h : AHeap} {x : AV} {D : List Int} (hg : Good h) (hx : BV h x D) (hl : D.length < 1000000) : ∃ v js, W CP 97 [x] h = some (v, h ++ js, []) ∧ Gs8At (h ++ js) v (wordsI D (D.length / 8) ++ [lastW D]) ∧ Good (h ++ js) ∧ v.lt h.length = false := by
  obtain ⟨r, e, v, js, rfl, h1, h2, h3⟩ := W_addrH (C := CP) (f := 97) (args := [x]) (m := M97) (fun g => Good g ∧ BV g x D) (fun g r => ∃ v js, r = (v, g ++ js, []) ∧ Gs8At (g ++ js) v (wordsI D (D.length / 8) ++ [lastW D]) ∧ Good (g ++ js) ∧ v.lt g.length = false) (fun _ => rfl) rfl rfl (fun h0 => ⟨glG, hx.gl (by simpa [AV.lts] using h0)⟩) (fun g hi => rwords_key hi.1 hi.2 hl) ⟨hg, hx⟩
  exact ⟨v, js, e, h1, h2, h3⟩
end Go.Proofs.YtdpbbagllhfjbaaDoorW.AI.F
namespace Go.Proofs.YtdpbbagllhfjbaaDoorW.AI.F
open Go Go.Proofs.YtdpbbagllhfjbaaDoorW.AI Go.Proofs.YtdpbbagllhfjbaaDoorW.AI.Oct
set_option maxRecDepth 100000
set_option linter.unusedSimpArgs false
set_option linter.unusedVariables false
set_option linter.unusedSectionVars false
structure R4 (v : V4) : Prop where
  b0 : 0 ≤ v.b
  b1 : v.b < 18446744073709551616
  d0 : 0 ≤ v.d
  d1 : v.d < 18446744073709551616
theorem xor_in (x y : Int) : 0 ≤ xorI x y ∧ xorI x y < 18446744073709551616 := by
  unfold xorI abits
  exact u64_in _
theorem R4.round (v : V4) : R4 (roundV v) := by
  have hb : (roundV v).b = xorI (rotI (half1 v).b 17) (addI (half1 v).c (half1 v).b) := rfl
  have hd : (roundV v).d = xorI (rotI (half1 v).d 21) (addI (half1 v).a (half1 v).d) := rfl
  exact ⟨by rw [hb]; exact (xor_in _ _).1, by rw [hb]; exact (xor_in _ _).2, by rw [hd]; exact (xor_in _ _).1, by rw [hd]; exact (xor_in _ _).2⟩
theorem R4.iter : ∀ (n : Nat) {v : V4}, R4 v → R4 (iterV n v)
  | 0, v, h => h
  | n + 1, v, _ => R4.iter n (R4.round v)
theorem R4.take (v : V4) (m : Int) (h : R4 v) : R4 (takeW v m) := by
  have h2 : R4 { v with d := xorI v.d m } := ⟨h.b0, h.b1, (xor_in _ _).1, (xor_in _ _).2⟩
  have h1 := R4.iter 2 h2
  obtain ⟨w, hw⟩ : ∃ w, iterV 2 { v with d := xorI v.d m } = w := ⟨_, rfl⟩
  have ht : takeW v m = { w with a := xorI w.a m } := by unfold takeW; rw [hw]
  rw [hw] at h1
  rw [ht]
  exact ⟨h1.b0, h1.b1, h1.d0, h1.d1⟩
theorem R4.start (A B : Int) : R4 (startV A B) := ⟨(xor_in _ _).1, (xor_in _ _).2, (xor_in _ _).1, (xor_in _ _).2⟩
theorem R4.absorb : ∀ (l : List Int) (v : V4), R4 v → R4 (absorb v l)
  | [], v, h => h
  | w :: t, v, h => R4.absorb t _ (R4.take v w h)
set_option maxHeartbeats 16000000 in
theorem rtag_key {g : AHeap} {id A B : Int} {b : AV} {D : List Int} (hg : Good g) (hb : BV g b D) (hl : D.length < 1000000) : Wp (xbody (W CP) M61 [.agg [.int .u32 id, .int .u64 A, .int .u64 B], b] g) fun r => r.1 = .int .u64 (tagR A B D) ∧ (∃ js, r.2.1 = g ++ js) ∧ r.2.2 = [] := by
  have nb := hb.na
  obtain ⟨q, hq⟩ : ∃ q, g.length + 1 = q := ⟨_, rfl⟩
  obtain ⟨lv, js, eW, gl, hG, hlt0⟩ := rwords_c (h := g ++ [⟨.tip false, .vals [.int .u32 id, .int .u64 A, .int .u64 B]⟩, ⟨.tip false, .ints .u64 (startV A B).l⟩]) (good_app hg rfl) (hb.app _) hl
  have hqH : ((g ++ [(⟨.tip false, .vals [.int .u32 id, .int .u64 A, .int .u64 B]⟩ : ABlk), ⟨.tip false, .ints .u64 (startV A B).l⟩]) ++ js)[q]? = some ⟨.tip false, .ints .u64 (startV A B).l⟩ := by rw [List.append_assoc, ← hq, List.getElem?_append_right (by omega)]; simp
  have hout : ∀ z : ABlk, ∃ js', ((g ++ [(⟨.tip false, .vals [.int .u32 id, .int .u64 A, .int .u64 B]⟩ : ABlk), ⟨.tip false, .ints .u64 (startV A B).l⟩]) ++ js).set q z = g ++ js' := fun z => by
    rw [List.append_assoc, ← hq, List.set_append_right _ _ (by omega)]
    exact ⟨_, rfl⟩
  obtain ⟨H, hH⟩ : ∃ H, (g ++ [(⟨.tip false, .vals [.int .u32 id, .int .u64 A, .int .u64 B]⟩ : ABlk), ⟨.tip false, .ints .u64 (startV A B).l⟩]) ++ js = H := ⟨_, rfl⟩
  rw [hH] at eW gl hG hqH
  simp only [hH] at hout
  have lq := (List.getElem?_eq_some_iff.1 hqH).1
  have hlo : ¬ q < g.length := by omega
  have hlen : (wordsI D (D.length / 8) ++ [lastW D]).length = D.length / 8 + 1 := by simp [wordsI_len]
  have htag : tagR A B D = (let u := absorb (startV A B) (wordsI D (D.length / 8) ++ [lastW D]); let z := iterV 4 { u with c := xorI u.c 255 }; xorI (xorI (xorI z.a z.b) z.c) z.d) := rfl
  obtain ⟨WL, hWL⟩ : ∃ WL, wordsI D (D.length / 8) ++ [lastW D] = WL := ⟨_, rfl⟩
  rw [hWL] at gl hlen htag
  obtain ⟨m, hm⟩ : ∃ m, WL.length = m := ⟨_, rfl⟩
  have hm1 : m < 1000000 := by omega
  obtain ⟨p, mn, o, rfl, hp⟩ : ∃ p mn o, lv = .gsl p 0 m 1 mn ∧ H[p]? = some ⟨.tip o, .ints .u64 WL⟩ := by
    rcases gl with ⟨_, e⟩ | ⟨p, mn, o, e, h⟩
    · rw [e] at hlen; simp at hlen
    · exact ⟨p, mn, o, by rw [e, hm], h⟩
  have hpq : p ≠ q := by
    rintro rfl
    simp [AV.lt] at hlt0
    omega
  have hqs : ∀ z : ABlk, (H.set q z)[q]? = some z := fun z => List.getElem?_set_self lq
  have hps : ∀ z : ABlk, (H.set q z)[p]? = some ⟨.tip o, .ints .u64 WL⟩ := fun z => by rw [List.getElem?_set_ne (Ne.symm hpq)]; exact hp
  have lp := (List.getElem?_eq_some_iff.1 hp).1
  have hs0 : H = H.set q ⟨.tip false, .ints .u64 (startV A B).l⟩ := (set_same hqH).symm
  have eW' : W CP 97 [b] (g ++ [ABlk.new (.vals [.int .u32 id, .int .u64 A, .int .u64 B]), ABlk.new (.ints .u64 [abits .xor .u64 A 8317987319222330741, abits .xor .u64 B 7237128888997146477, abits .xor .u64 A 7816392313619706465, abits .xor .u64 B 8387220255154660723])]) = some (.gsl p 0 m 1 mn, H, []) := eW
  simp (maxDischargeDepth := 9) -implicitDefEqProofs only [push_cast, simprocAttr, M61, nadd1, nadd2, nadd3, nadd4, nadd5, nadd6, nadd7, nadd8, nadd9, nadd10, nadd11, nadd12, nb, eW', hq]
  have eR := fun (v : V4) (hv : R4 v) => by
    have e := rround_c (h := H.set q ⟨.tip false, .ints .u64 [v.a, v.b, v.c, v.d]⟩) (v := v) (q := q) (good_set hG rfl) (hqs _) hv.b0 hv.b1 hv.d0 hv.d1
    rw [List.set_set] at e
    exact e
  refine wp_kRes (wp_kSeq (wp_kBlock ?_))
  refine wp_loop (fun k a h' ws => ∃ i : Nat, k = m - i ∧ i ≤ m ∧ a = [(5, .ptr q 0), (6, .gsl p 0 m 1 mn), (7, .int .i64 (i : Int))] ∧ h' = H.set q ⟨.tip false, .ints .u64 (absorb (startV A B) (WL.take i)).l⟩ ∧ ws = []) m ?_ ?_
  · refine ⟨0, by omega, by omega, ?_, hs0, rfl⟩
    simp (maxDischargeDepth := 9) -implicitDefEqProofs only [push_cast, simprocAttr]; try rfl
  · rintro k aa h' ws ⟨i, rfl, hi, rfl, rfl, rfl⟩
    have v1 : IntKind.i64.wrap ((i : Int) + 1) = (i : Int) + 1 := wr_i64 _ (by omega) (by omega)
    have hR := R4.absorb (WL.take i) _ (R4.start A B)
    by_cases hlt : i < m
    · have hlt' : (i : Int) < (m : Int) := by omega
      obtain ⟨w, hw⟩ : ∃ w, WL[i]? = some w := ⟨_, List.getElem?_eq_getElem (by omega)⟩
      have hs : absorb (startV A B) (WL.take (i + 1)) = takeW (absorb (startV A B) (WL.take i)) w := by
        rw [List.take_add_one, hw]; exact absorb_snoc _ _ _
      have hil : i < WL.length := by omega
      obtain ⟨v, hv⟩ : ∃ v, absorb (startV A B) (WL.take i) = v := ⟨_, rfl⟩
      rw [hv] at hs hR ⊢
      have e1 := eR { v with d := xorI v.d w } ⟨hR.b0, hR.b1, (xor_in _ _).1, (xor_in _ _).2⟩
      have e2 := eR (roundV { v with d := xorI v.d w }) (R4.round _)
      have ht : takeW v w = { roundV (roundV { v with d := xorI v.d w }) with a := xorI (roundV (roundV { v with d := xorI v.d w })).a w } := rfl
      obtain ⟨y, hy⟩ : ∃ y, roundV (roundV { v with d := xorI v.d w }) = y := ⟨_, rfl⟩
      rw [hy] at e2 ht
      obtain ⟨x, hx⟩ : ∃ x, roundV { v with d := xorI v.d w } = x := ⟨_, rfl⟩
      rw [hx] at e1 e2
      simp only [xorI] at e1
      have hcast : (((i + 1 : Nat)) : Int) = (i : Int) + 1 := by omega
      have hle : ¬ H.length ≤ q := by omega
      have hle2 : ¬ H.length ≤ p := by omega
      simp (maxDischargeDepth := 9) -implicitDefEqProofs only [push_cast, simprocAttr, nadd1, nadd2, nadd3, nadd4, nadd5, nadd6, nadd7, nadd8, nadd9, nadd10, nadd11, nadd12, hlt', V4.l, hqs, hps, lq, lp, hlt, hw, hil, e1, e2, hlo, v1, List.set_set, List.length_set, hle, hle2, decide_false, Bool.not_false, Bool.and_true, Nat.mul_one]
      refine loop_next (m - (i + 1)) (by omega) ⟨i + 1, rfl, by omega, ?_, ?_, rfl⟩
      · rw [hcast]
        simp (maxDischargeDepth := 9) -implicitDefEqProofs only [push_cast, simprocAttr]; try simp
      · rw [hs, ht]; rfl
    · have hi2 : i = m := by omega
      have hnl : ¬ (i : Int) < (m : Int) := by omega
      have hD : WL.take i = WL := by rw [hi2, ← hm, List.take_length]
      rw [hD] at hR ⊢
      rw [htag]
      obtain ⟨u, hu⟩ : ∃ u, absorb (startV A B) WL = u := ⟨_, rfl⟩
      rw [hu] at hR ⊢
      have hRu : R4 { u with c := xorI u.c 255 } := ⟨hR.b0, hR.b1, hR.d0, hR.d1⟩
      have hle : ¬ H.length ≤ q := by omega
      simp (maxDischargeDepth := 9) -implicitDefEqProofs only [push_cast, simprocAttr, nadd1, nadd2, nadd3, nadd4, nadd5, nadd6, nadd7, nadd8, nadd9, nadd10, nadd11, nadd12, hnl, V4.l, hqs, lq, hlo, List.set_set, List.length_set]
      refine wp_kSeq (wp_kBlock ?_)
      refine wp_loop (fun k a h' ws => ∃ i : Nat, k = 4 - i ∧ i ≤ 4 ∧ a = [(5, .ptr q 0), (8, .int .i64 (i : Int))] ∧ h' = H.set q ⟨.tip false, .ints .u64 (iterV i { u with c := xorI u.c 255 }).l⟩ ∧ ws = []) 4 ?_ ?_
      · refine ⟨0, by omega, by omega, ?_, rfl, rfl⟩
        simp (maxDischargeDepth := 9) -implicitDefEqProofs only [push_cast, simprocAttr]; try rfl
      · rintro k aa h' ws ⟨j, rfl, hj, rfl, rfl, rfl⟩
        have v2 : IntKind.i64.wrap ((j : Int) + 1) = (j : Int) + 1 := wr_i64 _ (by omega) (by omega)
        by_cases hlt2 : j < 4
        · have hlt2' : (j : Int) < 4 := by omega
          have e3 := eR _ (R4.iter j hRu)
          rw [← iterV_succ] at e3
          have hcast : (((j + 1 : Nat)) : Int) = (j : Int) + 1 := by omega
          obtain ⟨x, hx⟩ : ∃ x, iterV j { u with c := xorI u.c 255 } = x := ⟨_, rfl⟩
          rw [hx] at e3 ⊢
          simp (maxDischargeDepth := 9) -implicitDefEqProofs only [push_cast, simprocAttr, nadd1, nadd2, nadd3, nadd4, nadd5, nadd6, nadd7, nadd8, nadd9, nadd10, nadd11, nadd12, hlt2', V4.l, e3, hlo, v2]
          refine loop_next (4 - (j + 1)) (by omega) ⟨j + 1, rfl, by omega, ?_, rfl, rfl⟩
          rw [hcast]
          simp (maxDischargeDepth := 9) -implicitDefEqProofs only [push_cast, simprocAttr]; try simp
        · obtain rfl : j = 4 := by omega
          have hnl2 : ¬ ((4 : Nat) : Int) < 4 := by decide
          obtain ⟨z, hz⟩ : ∃ z, iterV 4 { u with c := xorI u.c 255 } = z := ⟨_, rfl⟩
          simp only [hz]
          simp (maxDischargeDepth := 9) -implicitDefEqProofs only [push_cast, simprocAttr, nadd1, nadd2, nadd3, nadd4, nadd5, nadd6, nadd7, nadd8, nadd9, nadd10, nadd11, nadd12, hnl2, V4.l, hqs, lq, List.length_set, hle, decide_false, Bool.not_false, Bool.and_true]
          exact ⟨rfl, hout _⟩
theorem rtag_c {h : AHeap} {id A B : Int} {b : AV} {D : List Int} (hg : Good h) (hb : BV h b D) (hl : D.length < 1000000) : W CP 61 [.agg [.int .u32 id, .int .u64 A, .int .u64 B], b] h = some (.int .u64 (tagI A B D), h, []) := by
  rw [tag_eq hb.1 hl]
  refine W_bothH (m := M61) (fun g => BV g b D) (fun _ => rfl) rfl rfl rfl glG (fun h0 => ?_) (fun g hg hb => rtag_key hg hb hl) hg hb
  refine hb.gl ?_
  simp only [AV.lts, AV.lt, Bool.and_eq_true] at h0
  simp_all
end Go.Proofs.YtdpbbagllhfjbaaDoorW.AI.F

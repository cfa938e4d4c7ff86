import Derived.Test.YtimlhgpjmjmjhaaAIBsigned
import Derived.Test.YtimlhgpjmjmjhaaAIOct
namespace Go.Proofs.YtimlhgpjmjmjhaaW.AI.B
open Go Go.Proofs.YtimlhgpjmjmjhaaW.AI Go.Proofs.YtimlhgpjmjmjhaaW.AI.Oct
set_option maxRecDepth 100000
set_option linter.unusedSimpArgs false
set_option linter.unusedVariables false
set_option linter.unusedSectionVars false

theorem pow256 (j : Nat) : (2 : Int) ^ (8 * j) = 256 ^ j := by rw [Int.pow_mul]; rfl
theorem npow256 (j : Nat) : (2 : Nat) ^ (8 * j) = 256 ^ j := by rw [Nat.pow_mul]

theorem bits_or_add {s x : Int} {i : Nat} (h0 : 0 ≤ s) (hx : 0 ≤ x) (hi : x < 2 ^ i) (hd : ∃ a : Nat, s = 2 ^ i * (a : Int)) (hs : s + x < 18446744073709551616) : bits BinOp.or IntKind.u64 s x = s + x := by
  obtain ⟨a, rfl⟩ := hd
  obtain ⟨y, rfl⟩ : ∃ y : Nat, x = (y : Int) := ⟨x.toNat, by omega⟩
  have e1 : (2 : Int) ^ i * (a : Int) = ((2 ^ i * a : Nat) : Int) := by rw [Int.natCast_mul, Int.natCast_pow]; rfl
  have hy : y < 2 ^ i := by
    have : ((y : Nat) : Int) < ((2 ^ i : Nat) : Int) := by rw [Int.natCast_pow]; exact hi
    omega
  rw [e1] at hs ⊢
  have hn : 2 ^ i * a + y < 18446744073709551616 := by omega
  have e2 : (2 ^ i * a) ||| y = 2 ^ i * a + y := (Nat.two_pow_add_eq_or_of_lt hy a).symm
  have e3 : (BitVec.ofInt 64 ((2 ^ i * a : Nat) : Int) ||| BitVec.ofInt 64 (y : Int)).toNat = 2 ^ i * a + y := by
    rw [BitVec.toNat_or, BitVec.ofInt_natCast, BitVec.ofInt_natCast, BitVec.toNat_ofNat, BitVec.toNat_ofNat, Nat.mod_eq_of_lt (by omega), Nat.mod_eq_of_lt (by omega), e2]
  show IntKind.u64.wrap (((BitVec.ofInt 64 ((2 ^ i * a : Nat) : Int) ||| BitVec.ofInt 64 (y : Int)).toNat : Nat) : Int) = _
  rw [e3, wr_u64 _ (by omega) (by omega)]
  omega

theorem accN_be {l : List Int} (hl : Byt l) (h8 : l.length ≤ 8) : ∀ j, j ≤ l.length → accN (fun k => l.getD k 0) l.length (List.range j) = be (l.take j) * 256 ^ (l.length - j)
  | 0, _ => by simp [accN, be]
  | j + 1, hj => by
    have ih := accN_be hl h8 j (by omega)
    have hb : l[j]? = some l[j] := List.getElem?_eq_getElem (by omega)
    have hbb := hl l[j] (List.getElem_mem _)
    have hg : l.getD j 0 = l[j] := by rw [List.getD_eq_getElem?_getD, hb]; rfl
    unfold accN at ih ⊢
    rw [List.range_succ, List.foldl_append, ih]
    simp only [List.foldl_cons, List.foldl_nil, accD]
    rw [hg, wr_u64 _ hbb.1 (by omega)]
    have hm : min (8 * (l.length - 1 - j)) 64 = 8 * (l.length - 1 - j) := by omega
    rw [hm, pow256]
    have ht := be_bound (hl.sub 0 j)
    rw [List.drop_zero, List.length_take, Nat.min_eq_left (by omega)] at ht
    obtain ⟨d, hd⟩ : ∃ d, l.length = j + 1 + d := ⟨l.length - (j + 1), by omega⟩
    have e1 : l.length - 1 - j = d := by omega
    have e2 : l.length - (j + 1) = d := by omega
    have e3 : l.length - j = d + 1 := by omega
    rw [e1, e2, e3]
    have htk : l.take (j + 1) = l.take j ++ [l[j]] := List.take_succ_eq_append_getElem (by omega)
    rw [htk, be_snoc]
    have hp : (256 : Int) ^ j * 256 ^ (d + 1) ≤ 18446744073709551616 := by
      rw [← Int.pow_add]
      have : j + (d + 1) ≤ 8 := by omega
      have h1 : (256 : Nat) ^ (j + (d + 1)) ≤ 256 ^ 8 := Nat.pow_le_pow_right (by omega) this
      have h2 : ((256 ^ (j + (d + 1)) : Nat) : Int) ≤ ((256 ^ 8 : Nat) : Int) := Int.ofNat_le.2 h1
      rw [Int.natCast_pow] at h2
      exact h2
    have hpd : (0 : Int) < 256 ^ d := Int.pow_pos (by omega)
    have hpd1 : (256 : Int) ^ (d + 1) = 256 ^ d * 256 := Int.pow_succ ..
    have hprod : l[j] * 256 ^ d < 256 ^ (d + 1) := by
      rw [hpd1, Int.mul_comm (256 ^ d) 256]
      exact Int.mul_lt_mul_of_pos_right hbb.2 hpd
    have hprod0 : 0 ≤ l[j] * 256 ^ d := Int.mul_nonneg hbb.1 (by omega)
    have hle : be (l.take j) * 256 ^ (d + 1) + 256 ^ (d + 1) ≤ 256 ^ j * 256 ^ (d + 1) := by
      have h1 : be (l.take j) + 1 ≤ 256 ^ j := by omega
      have := Int.mul_le_mul_of_nonneg_right h1 (show (0 : Int) ≤ 256 ^ (d + 1) by rw [hpd1]; omega)
      rw [Int.add_mul, Int.one_mul] at this
      exact this
    have hs0 : 0 ≤ be (l.take j) * 256 ^ (d + 1) := Int.mul_nonneg ht.1 (by rw [hpd1]; omega)
    rw [wr_u64 _ hprod0 (by omega), bits_or_add (i := 8 * (d + 1)) hs0 hprod0 (by rw [pow256]; exact hprod) ⟨(be (l.take j)).toNat, by rw [pow256, Int.toNat_of_nonneg ht.1, Int.mul_comm]⟩ (by omega)]
    rw [hpd1, Int.add_mul, Int.mul_assoc, Int.mul_comm 256 (256 ^ d)]

theorem accN_congr {f g : Nat → Int} {n : Nat} : ∀ {ks : List Nat} (s : Int), (∀ k ∈ ks, f k = g k) → ks.foldl (accD f n) s = ks.foldl (accD g n) s
  | [], s, _ => rfl
  | k :: ks, s, h => by
    simp only [List.foldl_cons]
    have : accD f n s k = accD g n s k := by unfold accD; rw [h k List.mem_cons_self]
    rw [this]
    exact accN_congr _ fun k' h' => h k' (List.mem_cons_of_mem _ h')

/-- A slice's bytes. -/
def BytAt (h : AHeap) (x : AV) (l : List Int) : Prop := slen x = some l.length ∧ sliceCells h 1 x = some (.ints .u8 l) ∧ Byt l

theorem v68 {h : AHeap} {x : AV} {l : List Int} (hx : BytAt h x l) (h0 : 0 < l.length) (h8 : l.length ≤ 8) : W CP 68 [x] h = some (.int .u64 (be l), h, []) := by
  obtain ⟨h1, h2, h3⟩ := hx
  refine W_prim ?_
  show some (primValue h x) = _
  unfold primValue
  rw [h1]
  simp only
  rw [if_pos ⟨h0, by omega⟩, h2, Option.bind_some]
  have hall : (ACells.ints .u8 l).list.all isU8 = true := by
    simp [ACells.list, isU8]
  rw [if_pos hall]
  have e : accN (fun k => intAt ((ACells.ints .u8 l).list.getD k .any)) l.length (List.range l.length) = be l := by
    have := accN_be h3 h8 l.length (Nat.le_refl _)
    rw [List.take_length, Nat.sub_self, Int.pow_zero, Int.mul_one] at this
    rw [← this]
    unfold accN
    refine accN_congr _ fun k hk => ?_
    have hk' := List.mem_range.1 hk
    simp only [ACells.list, List.getD_eq_getElem?_getD, List.getElem?_map, List.getElem?_eq_getElem hk', Option.map_some, Option.getD_some, intAt]
  rw [e]

theorem storeL_ints {k : IntKind} : ∀ (xs l : List Int) (o : Nat), o + xs.length ≤ l.length → storeL (.ints k l) o (xs.map (AV.int k)) = some (.ints k (splice l o xs))
  | [], l, o, h => by simp [storeL, splice]
  | x :: xs, l, o, h => by
    have hl : o < l.length := by simp at h; omega
    simp only [List.map_cons, storeL, ACells.set?, hl, and_self, if_true, Option.bind_some]
    rw [storeL_ints xs (l.set o x) (o + 1) (by simp at h ⊢; omega)]
    unfold splice
    have e1 : (l.set o x).take (o + 1) = l.take o ++ [x] := by
      rw [List.take_succ_eq_append_getElem (by simpa using hl)]
      simp [List.take_set_of_le]
    have e2 : (l.set o x).drop (o + 1 + xs.length) = l.drop (o + (xs.length + 1)) := by
      rw [List.drop_set_of_lt (by omega)]; congr 1; omega
    rw [e1, e2]
    simp

theorem digA_dg (v : Int) (n : Nat) (h8 : n ≤ 8) : (List.range n).map (digA v n) = (dg n v).map (AV.int .u8) := by
  unfold dg
  rw [List.map_map]
  refine List.map_congr_left fun k hk => ?_
  have hk' := List.mem_range.1 hk
  have : min (8 * (n - 1 - k)) 64 = 8 * (n - 1 - k) := by omega
  simp only [digA, this, pow256, Function.comp]

theorem v65 {h : AHeap} {b o n : Nat} {mn : Bool} {l : List Int} {v : Int} (hb : h[b]? = some ⟨.tip false, .ints .u8 l⟩) (h0 : 0 < n) (h8 : n ≤ 8) (ho : o + n ≤ l.length) :
    W CP 65 [.gsl b o n 1 mn, .int .u64 v] h = some (.tup [], h.set b ⟨.tip false, .ints .u8 (splice l o (dg n v))⟩, [b]) := by
  refine W_prim ?_
  show some (primWrite h _ v) = _
  unfold primWrite bytesAt
  simp only [if_true]
  rw [if_pos ⟨h0, by omega⟩]
  unfold change
  rw [hb]
  simp only [digA_dg v n h8]
  rw [storeL_ints _ _ _ (by rw [dg_len]; exact ho)]
  simp

/-- A function that looks at no memory. -/
theorem W_any {C : Cfg} {f : Nat} {m : MFunc} {args : List AV} {h : AHeap} {v : AV} (hp : ∀ h, C.prim f args h = none) (hm : C.mp f = some m) (ht : m.trim = true) (hv : v.lt 0 = true) (hg : Good h)
    (e : ∀ g, xbody (W C) m args g = some (v, g, [])) : W C f args h = some (v, h, []) := by
  cases h0 : AV.lts 0 args with
  | true => exact W_pure hp hm h0 hv (e _) h
  | false => exact W_quiet0 (hp h) hm h0 ht (AV.lt_mono (Nat.zero_le _) _ hv) hg (e h)

theorem p75_in {h : AHeap} {x : AV} {n p k : Nat} (hg : Good h) (hx : slen x = some n) (hn : n < 4611686018427387904) (hk : p + k ≤ n) : W CP 75 [x, .int .i64 (p : Int), .int .i64 (k : Int)] h = some (.bool true, h, []) := by
  have hna := na_slen hx
  refine W_any (m := M75) (fun _ => rfl) rfl rfl rfl hg fun g => ?_
  have w1 : IntKind.i64.wrap ((n : Int) - (p : Int)) = (n : Int) - (p : Int) := wr_i64 _ (by omega) (by omega)
  have c1 : (p : Int) ≤ (n : Int) := by omega
  have c2 : (k : Int) ≤ (n : Int) - (p : Int) := by omega
  simp (maxDischargeDepth := 9) -implicitDefEqProofs only [push_cast, reduceIte, Nat.reduceEqDiff, Nat.reduceAdd, Nat.reduceSub, Nat.reduceMul, Nat.reduceDiv, Nat.reduceMod, Nat.reduceLT, Nat.reduceLeDiff, Nat.reduceBEq, Nat.reduceBNe, reduceCtorEq, Int.reduceEq, Int.reduceNe, Int.reduceLT, Int.reduceLE, Int.reduceToNat, Int.reduceNeg, Int.reduceAdd, Int.reduceSub, Int.reduceMul, Int.reducePow, Nat.reducePow, Int.reduceBEq, M75, hx, hna, w1, c1, c2]
theorem p75_out {h : AHeap} {x : AV} {n p k : Nat} (hg : Good h) (hx : slen x = some n) (hn : n < 4611686018427387904) (hk : n < p + k) : W CP 75 [x, .int .i64 (p : Int), .int .i64 (k : Int)] h = some (.bool false, h, []) := by
  have hna := na_slen hx
  refine W_any (m := M75) (fun _ => rfl) rfl rfl rfl hg fun g => ?_
  by_cases c1 : (p : Int) ≤ (n : Int)
  · have w1 : IntKind.i64.wrap ((n : Int) - (p : Int)) = (n : Int) - (p : Int) := wr_i64 _ (by omega) (by omega)
    have c2 : ¬ (k : Int) ≤ (n : Int) - (p : Int) := by omega
    simp (maxDischargeDepth := 9) -implicitDefEqProofs only [push_cast, reduceIte, Nat.reduceEqDiff, Nat.reduceAdd, Nat.reduceSub, Nat.reduceMul, Nat.reduceDiv, Nat.reduceMod, Nat.reduceLT, Nat.reduceLeDiff, Nat.reduceBEq, Nat.reduceBNe, reduceCtorEq, Int.reduceEq, Int.reduceNe, Int.reduceLT, Int.reduceLE, Int.reduceToNat, Int.reduceNeg, Int.reduceAdd, Int.reduceSub, Int.reduceMul, Int.reducePow, Nat.reducePow, Int.reduceBEq, M75, hx, hna, w1, c1, c2]
  · simp (maxDischargeDepth := 9) -implicitDefEqProofs only [push_cast, reduceIte, Nat.reduceEqDiff, Nat.reduceAdd, Nat.reduceSub, Nat.reduceMul, Nat.reduceDiv, Nat.reduceMod, Nat.reduceLT, Nat.reduceLeDiff, Nat.reduceBEq, Nat.reduceBNe, reduceCtorEq, Int.reduceEq, Int.reduceNe, Int.reduceLT, Int.reduceLE, Int.reduceToNat, Int.reduceNeg, Int.reduceAdd, Int.reduceSub, Int.reduceMul, Int.reducePow, Nat.reducePow, Int.reduceBEq, M75, hx, hna, c1]

theorem p64 {h : AHeap} {n : Int} {k : Nat} (h0 : 0 ≤ n) (h1 : n < 18446744073709551616) (hk : 1 ≤ k) (hk8 : k ≤ 8) : W CP 64 [.int .u64 n, .int .i64 (k : Int)] h = some (.bool (decide (n < 256 ^ k)), h, []) := by
  refine W_pure (m := M64) (h' := []) (ws := []) (fun _ => rfl) rfl rfl rfl ?_ h
  show xbody (W CP) M64 _ [] = _
  have : k = 1 ∨ k = 2 ∨ k = 3 ∨ k = 4 ∨ k = 5 ∨ k = 6 ∨ k = 7 ∨ k = 8 := by omega
  rcases this with rfl | rfl | rfl | rfl | rfl | rfl | rfl | rfl
  · have e : (n / 256 = 0) = (n < 256) := by apply propext; constructor <;> intro _ <;> omega
    simp (maxDischargeDepth := 9) -implicitDefEqProofs only [push_cast, reduceIte, Nat.reduceEqDiff, Nat.reduceAdd, Nat.reduceSub, Nat.reduceMul, Nat.reduceDiv, Nat.reduceMod, Nat.reduceLT, Nat.reduceLeDiff, Nat.reduceBEq, Nat.reduceBNe, reduceCtorEq, Int.reduceEq, Int.reduceNe, Int.reduceLT, Int.reduceLE, Int.reduceToNat, Int.reduceNeg, Int.reduceAdd, Int.reduceSub, Int.reduceMul, Int.reducePow, Nat.reducePow, Int.reduceBEq, M64, Int.fdiv_eq_ediv_of_nonneg, e]
  · have e : (n / 65536 = 0) = (n < 65536) := by apply propext; constructor <;> intro _ <;> omega
    simp (maxDischargeDepth := 9) -implicitDefEqProofs only [push_cast, reduceIte, Nat.reduceEqDiff, Nat.reduceAdd, Nat.reduceSub, Nat.reduceMul, Nat.reduceDiv, Nat.reduceMod, Nat.reduceLT, Nat.reduceLeDiff, Nat.reduceBEq, Nat.reduceBNe, reduceCtorEq, Int.reduceEq, Int.reduceNe, Int.reduceLT, Int.reduceLE, Int.reduceToNat, Int.reduceNeg, Int.reduceAdd, Int.reduceSub, Int.reduceMul, Int.reducePow, Nat.reducePow, Int.reduceBEq, M64, Int.fdiv_eq_ediv_of_nonneg, e]
  · have e : (n / 16777216 = 0) = (n < 16777216) := by apply propext; constructor <;> intro _ <;> omega
    simp (maxDischargeDepth := 9) -implicitDefEqProofs only [push_cast, reduceIte, Nat.reduceEqDiff, Nat.reduceAdd, Nat.reduceSub, Nat.reduceMul, Nat.reduceDiv, Nat.reduceMod, Nat.reduceLT, Nat.reduceLeDiff, Nat.reduceBEq, Nat.reduceBNe, reduceCtorEq, Int.reduceEq, Int.reduceNe, Int.reduceLT, Int.reduceLE, Int.reduceToNat, Int.reduceNeg, Int.reduceAdd, Int.reduceSub, Int.reduceMul, Int.reducePow, Nat.reducePow, Int.reduceBEq, M64, Int.fdiv_eq_ediv_of_nonneg, e]
  · have e : (n / 4294967296 = 0) = (n < 4294967296) := by apply propext; constructor <;> intro _ <;> omega
    simp (maxDischargeDepth := 9) -implicitDefEqProofs only [push_cast, reduceIte, Nat.reduceEqDiff, Nat.reduceAdd, Nat.reduceSub, Nat.reduceMul, Nat.reduceDiv, Nat.reduceMod, Nat.reduceLT, Nat.reduceLeDiff, Nat.reduceBEq, Nat.reduceBNe, reduceCtorEq, Int.reduceEq, Int.reduceNe, Int.reduceLT, Int.reduceLE, Int.reduceToNat, Int.reduceNeg, Int.reduceAdd, Int.reduceSub, Int.reduceMul, Int.reducePow, Nat.reducePow, Int.reduceBEq, M64, Int.fdiv_eq_ediv_of_nonneg, e]
  · have e : (n / 1099511627776 = 0) = (n < 1099511627776) := by apply propext; constructor <;> intro _ <;> omega
    simp (maxDischargeDepth := 9) -implicitDefEqProofs only [push_cast, reduceIte, Nat.reduceEqDiff, Nat.reduceAdd, Nat.reduceSub, Nat.reduceMul, Nat.reduceDiv, Nat.reduceMod, Nat.reduceLT, Nat.reduceLeDiff, Nat.reduceBEq, Nat.reduceBNe, reduceCtorEq, Int.reduceEq, Int.reduceNe, Int.reduceLT, Int.reduceLE, Int.reduceToNat, Int.reduceNeg, Int.reduceAdd, Int.reduceSub, Int.reduceMul, Int.reducePow, Nat.reducePow, Int.reduceBEq, M64, Int.fdiv_eq_ediv_of_nonneg, e]
  · have e : (n / 281474976710656 = 0) = (n < 281474976710656) := by apply propext; constructor <;> intro _ <;> omega
    simp (maxDischargeDepth := 9) -implicitDefEqProofs only [push_cast, reduceIte, Nat.reduceEqDiff, Nat.reduceAdd, Nat.reduceSub, Nat.reduceMul, Nat.reduceDiv, Nat.reduceMod, Nat.reduceLT, Nat.reduceLeDiff, Nat.reduceBEq, Nat.reduceBNe, reduceCtorEq, Int.reduceEq, Int.reduceNe, Int.reduceLT, Int.reduceLE, Int.reduceToNat, Int.reduceNeg, Int.reduceAdd, Int.reduceSub, Int.reduceMul, Int.reducePow, Nat.reducePow, Int.reduceBEq, M64, Int.fdiv_eq_ediv_of_nonneg, e]
  · have e : (n / 72057594037927936 = 0) = (n < 72057594037927936) := by apply propext; constructor <;> intro _ <;> omega
    simp (maxDischargeDepth := 9) -implicitDefEqProofs only [push_cast, reduceIte, Nat.reduceEqDiff, Nat.reduceAdd, Nat.reduceSub, Nat.reduceMul, Nat.reduceDiv, Nat.reduceMod, Nat.reduceLT, Nat.reduceLeDiff, Nat.reduceBEq, Nat.reduceBNe, reduceCtorEq, Int.reduceEq, Int.reduceNe, Int.reduceLT, Int.reduceLE, Int.reduceToNat, Int.reduceNeg, Int.reduceAdd, Int.reduceSub, Int.reduceMul, Int.reducePow, Nat.reducePow, Int.reduceBEq, M64, Int.fdiv_eq_ediv_of_nonneg, e]
  · have e : n < 18446744073709551616 := h1
    simp (maxDischargeDepth := 9) -implicitDefEqProofs only [push_cast, reduceIte, Nat.reduceEqDiff, Nat.reduceAdd, Nat.reduceSub, Nat.reduceMul, Nat.reduceDiv, Nat.reduceMod, Nat.reduceLT, Nat.reduceLeDiff, Nat.reduceBEq, Nat.reduceBNe, reduceCtorEq, Int.reduceEq, Int.reduceNe, Int.reduceLT, Int.reduceLE, Int.reduceToNat, Int.reduceNeg, Int.reduceAdd, Int.reduceSub, Int.reduceMul, Int.reducePow, Nat.reducePow, Int.reduceBEq, M64, e]

/-- Bytes behind a slice that came in, or that append made. -/
def Form (x : AV) (n : Nat) : Prop := (∃ q o c, x = .sl q o n c ∧ n ≤ c) ∨ ∃ q o, x = .gsl q o n 1 false

theorem BytAt.part {h : AHeap} {q o n c : Nat} {l : List Int} (hb : BytAt h (.sl q o n c) l) (p k : Nat) (hp : p + k ≤ n) : BytAt h (.sl q (o + p) k (c - p)) ((l.drop p).take k) := by
  obtain ⟨h1, h2, h3⟩ := hb
  simp only [slen, Option.some.injEq] at h1
  simp only [sliceCells, Option.bind_eq_some_iff] at h2
  obtain ⟨cc, g1, g2⟩ := h2
  split at g2
  case isFalse => cases g2
  rename_i hle
  refine ⟨by simp [slen]; omega, ?_, h3.sub p k⟩
  simp only [sliceCells, g1, Option.bind_some]
  rw [if_pos (by omega)]
  cases cc with
  | vals l' => simp [ACells.sub] at g2
  | ints k' l' =>
    simp only [ACells.sub, Option.some.injEq, ACells.ints.injEq] at g2 ⊢
    obtain ⟨rfl, rfl⟩ := g2
    refine ⟨rfl, ?_⟩
    rw [List.drop_take, List.drop_drop, List.take_take]
    congr 1; omega
theorem BytAt.partg {h : AHeap} {q o n : Nat} {mn : Bool} {l : List Int} (hb : BytAt h (.gsl q o n 1 mn) l) (p k : Nat) (hp : p + k ≤ n) : BytAt h (.gsl q (o + p) k 1 mn) ((l.drop p).take k) := by
  obtain ⟨h1, h2, h3⟩ := hb
  simp only [slen, Option.some.injEq] at h1
  simp only [sliceCells, if_true, Option.bind_eq_some_iff] at h2
  obtain ⟨cc, g1, g2⟩ := h2
  split at g2
  case isFalse => cases g2
  rename_i hle
  refine ⟨by simp [slen]; omega, ?_, h3.sub p k⟩
  simp only [sliceCells, if_true, g1, Option.bind_some]
  rw [if_pos (by omega)]
  cases cc with
  | vals l' => simp [ACells.sub] at g2
  | ints k' l' =>
    simp only [ACells.sub, Option.some.injEq, ACells.ints.injEq] at g2 ⊢
    obtain ⟨rfl, rfl⟩ := g2
    refine ⟨rfl, ?_⟩
    rw [List.drop_take, List.drop_drop, List.take_take]
    congr 1; omega

theorem c44_out {h : AHeap} {x : AV} {n p k : Nat} (hg : Good h) (hx : slen x = some n) (hn : n < 4611686018427387904) (hk : n < p + k) (k1 : 1 ≤ k) (k8 : k ≤ 8) : W CP 44 [x, .int .i64 (p : Int), .int .i64 (k : Int)] h = some (.tup [.int .u64 0, .bool false], h, []) := by
  have hna := na_slen hx
  have e73 := fun g => p73 (k : Int) (by omega) (by omega) g
  cases h0 : AV.lts 0 [x, .int .i64 (p : Int), .int .i64 (k : Int)] with
  | true =>
    refine W_pure (m := M44) (h' := []) (ws := []) (fun _ => rfl) rfl h0 rfl ?_ h
    show xbody (W CP) M44 _ [] = _
    have e75 := p75_out (h := []) good_nil hx hn hk
    simp (maxDischargeDepth := 9) -implicitDefEqProofs only [push_cast, reduceIte, Nat.reduceEqDiff, Nat.reduceAdd, Nat.reduceSub, Nat.reduceMul, Nat.reduceDiv, Nat.reduceMod, Nat.reduceLT, Nat.reduceLeDiff, Nat.reduceBEq, Nat.reduceBNe, reduceCtorEq, Int.reduceEq, Int.reduceNe, Int.reduceLT, Int.reduceLE, Int.reduceToNat, Int.reduceNeg, Int.reduceAdd, Int.reduceSub, Int.reduceMul, Int.reducePow, Nat.reducePow, Int.reduceBEq, M44, hna, e73, e75]
  | false =>
    refine W_quiet0 (m := M44) rfl rfl h0 rfl rfl hg ?_
    have e75 := p75_out (h := h) hg hx hn hk
    simp (maxDischargeDepth := 9) -implicitDefEqProofs only [push_cast, reduceIte, Nat.reduceEqDiff, Nat.reduceAdd, Nat.reduceSub, Nat.reduceMul, Nat.reduceDiv, Nat.reduceMod, Nat.reduceLT, Nat.reduceLeDiff, Nat.reduceBEq, Nat.reduceBNe, reduceCtorEq, Int.reduceEq, Int.reduceNe, Int.reduceLT, Int.reduceLE, Int.reduceToNat, Int.reduceNeg, Int.reduceAdd, Int.reduceSub, Int.reduceMul, Int.reducePow, Nat.reducePow, Int.reduceBEq, M44, hna, e73, e75]

theorem c44_in {h : AHeap} {x : AV} {l : List Int} {p k : Nat} (hg : Good h) (hx : BytAt h x l) (hf : Form x l.length) (hn : l.length < 4611686018427387904) (hk : p + k ≤ l.length) (k1 : 1 ≤ k) (k8 : k ≤ 8) :
    W CP 44 [x, .int .i64 (p : Int), .int .i64 (k : Int)] h = some (.tup [.int .u64 (be ((l.drop p).take k)), .bool true], h, []) := by
  have hna := na_slen hx.1
  have e73 := fun g => p73 (k : Int) (by omega) (by omega) g
  have e75 := p75_in (h := h) hg hx.1 hn hk
  have hlen : ((l.drop p).take k).length = k := by simp; omega
  have w1 : IntKind.i64.wrap ((p : Int) + (k : Int)) = ((p + k : Nat) : Int) := by rw [wr_i64 _ (by omega) (by omega)]; omega
  obtain ⟨u, hu⟩ : ∃ u, p + k = u := ⟨_, rfl⟩
  rw [hu] at w1
  have u1 : u - p = k := by omega
  have u2 : p ≤ u := by omega
  rcases hf with ⟨q, o, c, rfl, hc⟩ | ⟨q, o, rfl⟩
  · have e68 := v68 (hx.part p k hk) (by omega) (by omega)
    have u3 : u ≤ c := by omega
    refine W_quiet0 (m := M44) rfl rfl (by simp [AV.lts, AV.lt]) rfl rfl hg ?_
    simp (maxDischargeDepth := 9) -implicitDefEqProofs only [push_cast, reduceIte, Nat.reduceEqDiff, Nat.reduceAdd, Nat.reduceSub, Nat.reduceMul, Nat.reduceDiv, Nat.reduceMod, Nat.reduceLT, Nat.reduceLeDiff, Nat.reduceBEq, Nat.reduceBNe, reduceCtorEq, Int.reduceEq, Int.reduceNe, Int.reduceLT, Int.reduceLE, Int.reduceToNat, Int.reduceNeg, Int.reduceAdd, Int.reduceSub, Int.reduceMul, Int.reducePow, Nat.reducePow, Int.reduceBEq, M44, hna, e73, e75, w1, u1, u2, u3, e68]
  · have e68 := v68 (hx.partg p k hk) (by omega) (by omega)
    have u3 : u ≤ l.length := by omega
    refine W_quiet0 (m := M44) rfl rfl (by simp [AV.lts, AV.lt]) rfl rfl hg ?_
    simp (maxDischargeDepth := 9) -implicitDefEqProofs only [push_cast, reduceIte, Nat.reduceEqDiff, Nat.reduceAdd, Nat.reduceSub, Nat.reduceMul, Nat.reduceDiv, Nat.reduceMod, Nat.reduceLT, Nat.reduceLeDiff, Nat.reduceBEq, Nat.reduceBNe, reduceCtorEq, Int.reduceEq, Int.reduceNe, Int.reduceLT, Int.reduceLE, Int.reduceToNat, Int.reduceNeg, Int.reduceAdd, Int.reduceSub, Int.reduceMul, Int.reducePow, Nat.reducePow, Int.reduceBEq, M44, hna, e73, e75, w1, u1, u2, u3, e68]
end Go.Proofs.YtimlhgpjmjmjhaaW.AI.B

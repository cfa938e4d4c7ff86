import Derived.Test.YtdpbbagllhfjbaaDoorAIGbase
import Derived.Test.YtdpbbagllhfjbaaDoorAITools
namespace Go.Proofs.YtdpbbagllhfjbaaDoorW.AI.G
open Go Go.Proofs.YtdpbbagllhfjbaaDoorW.AI Go.Proofs.YtdpbbagllhfjbaaDoorW.AI.Oct
set_option maxRecDepth 100000
set_option linter.unusedSimpArgs false
set_option linter.unusedVariables false
set_option linter.unusedSectionVars false
theorem W_prim {C : Cfg} {f : Nat} {args : List AV} {h : AHeap} {r : AV × AHeap × List Nat} (hp : C.prim f args h = some (some r)) : W C f args h = some r := W_eq.2 ⟨1, by rw [acall, hp]⟩
theorem pow256 (j : Nat) : (2 : Int) ^ (8 * j) = 256 ^ j := by rw [Int.pow_mul]; rfl
theorem bits_or_add {s x : Int} {i : Nat} (h0 : 0 ≤ s) (hx : 0 ≤ x) (hi : x < 2 ^ i) (hd : ∃ a : Nat, s = 2 ^ i * (a : Int)) (hs : s + x < 18446744073709551616) : bits BinOp.or IntKind.u64 s x = s + x := by
  obtain ⟨a, rfl⟩ := hd
  obtain ⟨y, rfl⟩ : ∃ y : Nat, x = (y : Int) := ⟨x.toNat, by omega⟩
  have e1 : (2 : Int) ^ i * (a : Int) = ((2 ^ i * a : Nat) : Int) := by rw [Int.natCast_mul, Int.natCast_pow]; rfl
  have hy : y < 2 ^ i := by
    have : ((y : Nat) : Int) < ((2 ^ i : Nat) : Int) := by rw [Int.natCast_pow]; exact hi
    omega
  rw [e1] at hs ⊢
  have hn : 2 ^ i * a + y < 18446744073709551616 := by omega
  have e2 : (2 ^ i * a) ||| y = 2 ^ i * a + y := (Nat.two_pow_add_eq_or_of_lt hy a).symm
  have e3 : (BitVec.ofInt 64 ((2 ^ i * a : Nat) : Int) ||| BitVec.ofInt 64 (y : Int)).toNat = 2 ^ i * a + y := by
    rw [BitVec.toNat_or, BitVec.ofInt_natCast, BitVec.ofInt_natCast, BitVec.toNat_ofNat, BitVec.toNat_ofNat, Nat.mod_eq_of_lt (by omega), Nat.mod_eq_of_lt (by omega), e2]
  show IntKind.u64.wrap (((BitVec.ofInt 64 ((2 ^ i * a : Nat) : Int) ||| BitVec.ofInt 64 (y : Int)).toNat : Nat) : Int) = _
  rw [e3, wr_u64 _ (by omega) (by omega)]
  omega

theorem accN_be {l : List Int} (hl : Byt l) (h8 : l.length ≤ 8) : ∀ j, j ≤ l.length → accN (fun k => l.getD k 0) l.length (List.range j) = be (l.take j) * 256 ^ (l.length - j)
  | 0, _ => by simp [accN, be]
  | j + 1, hj => by
    have ih := accN_be hl h8 j (by omega)
    have hb : l[j]? = some l[j] := List.getElem?_eq_getElem (by omega)
    have hbb := hl l[j] (List.getElem_mem _)
    have hg : l.getD j 0 = l[j] := by rw [List.getD_eq_getElem?_getD, hb]; rfl
    unfold accN at ih ⊢
    rw [List.range_succ, List.foldl_append, ih]
    simp only [List.foldl_cons, List.foldl_nil, accD]
    rw [hg, wr_u64 _ hbb.1 (by omega)]
    have hm : min (8 * (l.length - 1 - j)) 64 = 8 * (l.length - 1 - j) := by omega
    rw [hm, pow256]
    have ht := be_bound (hl.sub 0 j)
    rw [List.drop_zero, List.length_take, Nat.min_eq_left (by omega)] at ht
    obtain ⟨d, hd⟩ : ∃ d, l.length = j + 1 + d := ⟨l.length - (j + 1), by omega⟩
    have e1 : l.length - 1 - j = d := by omega
    have e2 : l.length - (j + 1) = d := by omega
    have e3 : l.length - j = d + 1 := by omega
    rw [e1, e2, e3]
    have htk : l.take (j + 1) = l.take j ++ [l[j]] := List.take_succ_eq_append_getElem (by omega)
    rw [htk, be_snoc]
    have hp : (256 : Int) ^ j * 256 ^ (d + 1) ≤ 18446744073709551616 := by
      rw [← Int.pow_add]
      have : j + (d + 1) ≤ 8 := by omega
      have h1 : (256 : Nat) ^ (j + (d + 1)) ≤ 256 ^ 8 := Nat.pow_le_pow_right (by omega) this
      have h2 : ((256 ^ (j + (d + 1)) : Nat) : Int) ≤ ((256 ^ 8 : Nat) : Int) := Int.ofNat_le.2 h1
      rw [Int.natCast_pow] at h2
      exact h2
    have hpd : (0 : Int) < 256 ^ d := Int.pow_pos (by omega)
    have hpd1 : (256 : Int) ^ (d + 1) = 256 ^ d * 256 := Int.pow_succ ..
    have hprod : l[j] * 256 ^ d < 256 ^ (d + 1) := by
      rw [hpd1, Int.mul_comm (256 ^ d) 256]
      exact Int.mul_lt_mul_of_pos_right hbb.2 hpd
    have hprod0 : 0 ≤ l[j] * 256 ^ d := Int.mul_nonneg hbb.1 (by omega)
    have hle : be (l.take j) * 256 ^ (d + 1) + 256 ^ (d + 1) ≤ 256 ^ j * 256 ^ (d + 1) := by
      have h1 : be (l.take j) + 1 ≤ 256 ^ j := by omega
      have := Int.mul_le_mul_of_nonneg_right h1 (show (0 : Int) ≤ 256 ^ (d + 1) by rw [hpd1]; omega)
      rw [Int.add_mul, Int.one_mul] at this
      exact this
    have hs0 : 0 ≤ be (l.take j) * 256 ^ (d + 1) := Int.mul_nonneg ht.1 (by rw [hpd1]; omega)
    rw [wr_u64 _ hprod0 (by omega), bits_or_add (i := 8 * (d + 1)) hs0 hprod0 (by rw [pow256]; exact hprod) ⟨(be (l.take j)).toNat, by rw [pow256, Int.toNat_of_nonneg ht.1, Int.mul_comm]⟩ (by omega)]
    rw [hpd1, Int.add_mul, Int.mul_assoc, Int.mul_comm 256 (256 ^ d)]

theorem accN_congr {f g : Nat → Int} {n : Nat} : ∀ {ks : List Nat} (s : Int), (∀ k ∈ ks, f k = g k) → ks.foldl (accD f n) s = ks.foldl (accD g n) s
  | [], s, _ => rfl
  | k :: ks, s, h => by
    simp only [List.foldl_cons]
    have : accD f n s k = accD g n s k := by unfold accD; rw [h k List.mem_cons_self]
    rw [this]
    exact accN_congr _ fun k' h' => h k' (List.mem_cons_of_mem _ h')

/-- A slice's bytes. -/
def BytAt (h : AHeap) (x : AV) (l : List Int) : Prop := slen x = some l.length ∧ sliceCells h 1 x = some (.ints .u8 l) ∧ Byt l

theorem value_c {h : AHeap} {x : AV} {l : List Int} (hx : BytAt h x l) (h0 : 0 < l.length) (h8 : l.length ≤ 8) : W CP 72 [x] h = some (.int .u64 (be l), h, []) := by
  obtain ⟨h1, h2, h3⟩ := hx
  refine W_prim ?_
  show some (primValue h x) = _
  unfold primValue
  rw [h1]
  simp only
  rw [if_pos ⟨h0, by omega⟩, h2, Option.bind_some]
  have hall : (ACells.ints .u8 l).list.all isU8 = true := by
    simp [ACells.list, isU8]
  rw [if_pos hall]
  have e : accN (fun k => intAt ((ACells.ints .u8 l).list.getD k .any)) l.length (List.range l.length) = be l := by
    have := accN_be h3 h8 l.length (Nat.le_refl _)
    rw [List.take_length, Nat.sub_self, Int.pow_zero, Int.mul_one] at this
    rw [← this]
    unfold accN
    refine accN_congr _ fun k hk => ?_
    have hk' := List.mem_range.1 hk
    simp only [ACells.list, List.getD_eq_getElem?_getD, List.getElem?_map, List.getElem?_eq_getElem hk', Option.map_some, Option.getD_some, intAt]
  rw [e]

theorem storeL_ints {k : IntKind} : ∀ (xs l : List Int) (o : Nat), o + xs.length ≤ l.length → storeL (.ints k l) o (xs.map (AV.int k)) = some (.ints k (splice l o xs))
  | [], l, o, h => by simp [storeL, splice]
  | x :: xs, l, o, h => by
    have hl : o < l.length := by simp at h; omega
    simp only [List.map_cons, storeL, ACells.set?, hl, and_self, if_true, Option.bind_some]
    rw [storeL_ints xs (l.set o x) (o + 1) (by simp at h ⊢; omega)]
    unfold splice
    have e1 : (l.set o x).take (o + 1) = l.take o ++ [x] := by
      rw [List.take_succ_eq_append_getElem (by simpa using hl)]
      simp [List.take_set_of_le]
    have e2 : (l.set o x).drop (o + 1 + xs.length) = l.drop (o + (xs.length + 1)) := by
      rw [List.drop_set_of_lt (by omega)]; congr 1; omega
    rw [e1, e2]
    simp

theorem digA_dg (v : Int) (n : Nat) (h8 : n ≤ 8) : (List.range n).map (digA v n) = (dg n v).map (AV.int .u8) := by
  unfold dg
  rw [List.map_map]
  refine List.map_congr_left fun k hk => ?_
  have hk' := List.mem_range.1 hk
  have : min (8 * (n - 1 - k)) 64 = 8 * (n - 1 - k) := by omega
  simp only [digA, this, pow256, Function.comp]

theorem write_c {h : AHeap} {b o n c : Nat} {l : List Int} {v : Int} (hb : h[b]? = some ⟨.tip false, .ints .u8 l⟩) (h0 : 0 < n) (h8 : n ≤ 8) (ho : o + n ≤ l.length) :
    W CP 92 [.sl b o n c, .int .u64 v] h = some (.tup [], h.set b ⟨.tip false, .ints .u8 (splice l o (dg n v))⟩, [b]) := by
  refine W_prim ?_
  show some (primWrite h _ v) = _
  unfold primWrite bytesAt
  simp only
  rw [if_pos ⟨h0, by omega⟩]
  unfold change
  rw [hb]
  simp only [digA_dg v n h8]
  rw [storeL_ints _ _ _ (by rw [dg_len]; exact ho)]
  simp
theorem fits_c {h : AHeap} {n : Int} {k : Nat} (h0 : 0 ≤ n) (h1 : n < 18446744073709551616) (hk : 1 ≤ k) (hk8 : k ≤ 8) : W CP 91 [.int .u64 n, .int .i64 (k : Int)] h = some (.bool (decide (n < 256 ^ k)), h, []) := by
  refine W_val (m := M91) (fun _ => rfl) rfl rfl rfl ?_ h
  have : k = 1 ∨ k = 2 ∨ k = 3 ∨ k = 4 ∨ k = 5 ∨ k = 6 ∨ k = 7 ∨ k = 8 := by omega
  rcases this with rfl | rfl | rfl | rfl | rfl | rfl | rfl | rfl
  · have e : (n / 256 = 0) = (n < 256) := by apply propext; constructor <;> intro _ <;> omega
    simp (maxDischargeDepth := 9) -implicitDefEqProofs only [push_cast, simprocAttr, M91, Int.fdiv_eq_ediv_of_nonneg, e]
  · have e : (n / 65536 = 0) = (n < 65536) := by apply propext; constructor <;> intro _ <;> omega
    simp (maxDischargeDepth := 9) -implicitDefEqProofs only [push_cast, simprocAttr, M91, Int.fdiv_eq_ediv_of_nonneg, e]
  · have e : (n / 16777216 = 0) = (n < 16777216) := by apply propext; constructor <;> intro _ <;> omega
    simp (maxDischargeDepth := 9) -implicitDefEqProofs only [push_cast, simprocAttr, M91, Int.fdiv_eq_ediv_of_nonneg, e]
  · have e : (n / 4294967296 = 0) = (n < 4294967296) := by apply propext; constructor <;> intro _ <;> omega
    simp (maxDischargeDepth := 9) -implicitDefEqProofs only [push_cast, simprocAttr, M91, Int.fdiv_eq_ediv_of_nonneg, e]
  · have e : (n / 1099511627776 = 0) = (n < 1099511627776) := by apply propext; constructor <;> intro _ <;> omega
    simp (maxDischargeDepth := 9) -implicitDefEqProofs only [push_cast, simprocAttr, M91, Int.fdiv_eq_ediv_of_nonneg, e]
  · have e : (n / 281474976710656 = 0) = (n < 281474976710656) := by apply propext; constructor <;> intro _ <;> omega
    simp (maxDischargeDepth := 9) -implicitDefEqProofs only [push_cast, simprocAttr, M91, Int.fdiv_eq_ediv_of_nonneg, e]
  · have e : (n / 72057594037927936 = 0) = (n < 72057594037927936) := by apply propext; constructor <;> intro _ <;> omega
    simp (maxDischargeDepth := 9) -implicitDefEqProofs only [push_cast, simprocAttr, M91, Int.fdiv_eq_ediv_of_nonneg, e]
  · have e : n < 18446744073709551616 := h1
    simp (maxDischargeDepth := 9) -implicitDefEqProofs only [push_cast, simprocAttr, M91, e]

theorem BytAt.part {h : AHeap} {q o n c : Nat} {l : List Int} (hb : BytAt h (.sl q o n c) l) (p k : Nat) (hp : p + k ≤ n) : BytAt h (.sl q (o + p) k (c - p)) ((l.drop p).take k) := by
  obtain ⟨h1, h2, h3⟩ := hb
  simp only [slen, Option.some.injEq] at h1
  simp only [sliceCells, Option.bind_eq_some_iff] at h2
  obtain ⟨cc, g1, g2⟩ := h2
  split at g2
  case isFalse => cases g2
  rename_i hle
  refine ⟨by simp [slen]; omega, ?_, h3.sub p k⟩
  simp only [sliceCells, g1, Option.bind_some]
  rw [if_pos (by omega)]
  cases cc with
  | vals l' => simp [ACells.sub] at g2
  | ints k' l' =>
    simp only [ACells.sub, Option.some.injEq, ACells.ints.injEq] at g2 ⊢
    obtain ⟨rfl, rfl⟩ := g2
    refine ⟨rfl, ?_⟩
    rw [List.drop_take, List.drop_drop, List.take_take]
    congr 1; omega
end Go.Proofs.YtdpbbagllhfjbaaDoorW.AI.G
namespace Go.Proofs.YtdpbbagllhfjbaaDoorW.AI.G
open Go Go.Proofs.YtdpbbagllhfjbaaDoorW.AI Go.Proofs.YtdpbbagllhfjbaaDoorW.AI.Oct
set_option maxRecDepth 100000
set_option linter.unusedSimpArgs false
set_option linter.unusedVariables false
set_option linter.unusedSectionVars false
def okS (n : Int) : Bool := decide (0 < n ∧ n ≤ 8)
theorem sized_c (n : Int) (h : AHeap) : W CP 105 [.int .i64 n] h = some (.bool (okS n), h, []) := by
  refine W_val (m := M105) (fun _ => rfl) rfl rfl rfl ?_ h
  unfold okS
  by_cases c1 : 0 < n
  · by_cases c2 : n ≤ 8
    · simp (maxDischargeDepth := 9) -implicitDefEqProofs only [push_cast, simprocAttr, M105, c1, c2, decide_true, and_self]
    · simp (maxDischargeDepth := 9) -implicitDefEqProofs only [push_cast, simprocAttr, M105, c1, c2, decide_false, and_false]
  · simp (maxDischargeDepth := 9) -implicitDefEqProofs only [push_cast, simprocAttr, M105, c1, decide_false, false_and]
theorem width1_c (n : Int) (h : AHeap) : W CP 104 [.int .i64 n] h = some (.bool (!okS n), h, []) := by
  have e := fun h => sized_c n h
  refine W_val (m := M104) (fun _ => rfl) rfl rfl rfl ?_ h
  cases hb : okS n with
  | true => rw [hb] at e; simp (maxDischargeDepth := 9) -implicitDefEqProofs only [push_cast, simprocAttr, M104, e, Bool.not_true]
  | false => rw [hb] at e; simp (maxDischargeDepth := 9) -implicitDefEqProofs only [push_cast, simprocAttr, M104, e, Bool.not_false]
/-- A row of sizes lies there. -/
def SzAt (h : AHeap) (q : Nat) (L : List Int) : Prop := (h[q]? = some ⟨.ext, .ints .i64 L⟩ ∨ h[q]? = some ⟨.tip false, .ints .i64 L⟩) ∧ L.length < 1000000
theorem SzAt.app {h : AHeap} {q : Nat} {L : List Int} (s : SzAt h q L) (js : AHeap) : SzAt (h ++ js) q L := by
  refine ⟨?_, s.2⟩
  rcases s.1 with e | e
  · exact Or.inl (by rw [List.getElem?_append_left (List.getElem?_eq_some_iff.1 e).1]; exact e)
  · exact Or.inr (by rw [List.getElem?_append_left (List.getElem?_eq_some_iff.1 e).1]; exact e)
theorem index_c {h : AHeap} {q c : Nat} {L : List Int} (hg : Good h) (hs : SzAt h q L) : ∃ i : Int, (L.all okS = true → i = -1) ∧ (L.all okS = false → 0 ≤ i) ∧ W CP 118 [.sl q 0 L.length c, .fn 104 []] h = some (.int .i64 i, h, []) := by
  obtain ⟨hq, hl⟩ := hs
  have e := fun n h => width1_c n h
  cases hall : L.all okS with
  | true =>
    refine ⟨-1, fun _ => rfl, fun h => (by cases h), ?_⟩
    refine W_quietP (m := M118) rfl rfl (by simp [AV.lts, AV.lt]) rfl rfl hg ?_
    rcases hq with hq | hq
    all_goals
      have hql := (List.getElem?_eq_some_iff.1 hq).1
      simp (maxDischargeDepth := 9) -implicitDefEqProofs only [push_cast, simprocAttr, M118]
      refine wp_kRes (wp_kSeq (wp_kBlock ?_))
      refine wp_loop (fun k a h' ws => ∃ i : Nat, k = L.length - i ∧ i ≤ L.length ∧ a = [(0, .sl q 0 L.length c), (1, .fn 104 []), (7, .int .i64 (L.length : Int)), (8, .int .i64 (i : Int))] ∧ h' = h ∧ ws = []) L.length ?_ ?_
      · refine ⟨0, by omega, by omega, ?_, rfl, rfl⟩
        simp (maxDischargeDepth := 9) -implicitDefEqProofs only [push_cast, simprocAttr]; try rfl
      · rintro k aa h' ws ⟨i, rfl, hi, rfl, rfl, rfl⟩
        have v1 : IntKind.i64.wrap ((i : Int) + 1) = (i : Int) + 1 := wr_i64 _ (by omega) (by omega)
        by_cases hlt : i < L.length
        · have hlt' : (i : Int) < (L.length : Int) := by omega
          obtain ⟨x, hx⟩ : ∃ x, L[i]? = some x := ⟨_, List.getElem?_eq_getElem hlt⟩
          have hok : okS x = true := List.all_eq_true.1 hall x (List.mem_of_getElem? hx)
          have ex := fun h => e x h
          rw [hok] at ex
          simp (maxDischargeDepth := 9) -implicitDefEqProofs only [push_cast, simprocAttr, hlt, hlt', v1, hq, hx, ex, Bool.not_true]
          refine loop_next (L.length - (i + 1)) (by omega) ⟨i + 1, rfl, by omega, ?_, rfl, rfl⟩
          simp (maxDischargeDepth := 9) -implicitDefEqProofs only [push_cast, simprocAttr]; try simp
        · have hi2 : i = L.length := by omega
          subst hi2
          have hnl : ¬ (L.length : Int) < (L.length : Int) := by omega
          simp (maxDischargeDepth := 9) -implicitDefEqProofs only [push_cast, simprocAttr]
          exact quiet_0
  | false =>
    obtain ⟨j, hj, hbad, hgood⟩ : ∃ j : Nat, ∃ hj : j < L.length, okS L[j] = false ∧ ∀ i, i < j → ∀ x, L[i]? = some x → okS x = true := by
      have h1 : ¬ L.all okS = true := by rw [hall]; simp
      rw [List.all_eq_true] at h1
      obtain ⟨x, hx⟩ := Classical.not_forall.1 h1
      obtain ⟨hx1, hx2⟩ := Classical.not_imp.1 hx
      have hlt : L.findIdx (fun n => !okS n) < L.length := List.findIdx_lt_length.2 ⟨x, hx1, by simpa using hx2⟩
      refine ⟨L.findIdx (fun n => !okS n), hlt, ?_, fun i hi y hy => ?_⟩
      · have := List.findIdx_getElem (p := fun n => !okS n) (xs := L) (w := hlt)
        simpa using this
      · have h2 := List.not_of_lt_findIdx (p := fun n => !okS n) (xs := L) hi
        obtain ⟨hi', rfl⟩ := List.getElem?_eq_some_iff.1 hy
        simpa using h2
    refine ⟨(j : Int), fun h => (by cases h), fun _ => by omega, ?_⟩
    refine W_quietP (m := M118) rfl rfl (by simp [AV.lts, AV.lt]) rfl rfl hg ?_
    rcases hq with hq | hq
    all_goals
      have hql := (List.getElem?_eq_some_iff.1 hq).1
      simp (maxDischargeDepth := 9) -implicitDefEqProofs only [push_cast, simprocAttr, M118]
      refine wp_kRes (wp_kSeq (wp_kBlock ?_))
      refine wp_loop (fun k a h' ws => ∃ i : Nat, k = L.length - i ∧ i ≤ j ∧ a = [(0, .sl q 0 L.length c), (1, .fn 104 []), (7, .int .i64 (L.length : Int)), (8, .int .i64 (i : Int))] ∧ h' = h ∧ ws = []) L.length ?_ ?_
      · refine ⟨0, by omega, by omega, ?_, rfl, rfl⟩
        simp (maxDischargeDepth := 9) -implicitDefEqProofs only [push_cast, simprocAttr]; try rfl
      · rintro k aa h' ws ⟨i, rfl, hi, rfl, rfl, rfl⟩
        have v1 : IntKind.i64.wrap ((i : Int) + 1) = (i : Int) + 1 := wr_i64 _ (by omega) (by omega)
        have hlt : i < L.length := by omega
        have hlt' : (i : Int) < (L.length : Int) := by omega
        obtain ⟨x, hx⟩ : ∃ x, L[i]? = some x := ⟨_, List.getElem?_eq_getElem hlt⟩
        have ex := fun h => e x h
        by_cases hij : i < j
        · rw [hgood i hij x hx] at ex
          simp (maxDischargeDepth := 9) -implicitDefEqProofs only [push_cast, simprocAttr, hlt, hlt', v1, hq, hx, ex, Bool.not_true]
          refine loop_next (L.length - (i + 1)) (by omega) ⟨i + 1, rfl, by omega, ?_, rfl, rfl⟩
          simp (maxDischargeDepth := 9) -implicitDefEqProofs only [push_cast, simprocAttr]; try simp
        · obtain rfl : i = j := by omega
          have hxb : okS x = false := by
            obtain ⟨_, rfl⟩ := List.getElem?_eq_some_iff.1 hx
            exact hbad
          rw [hxb] at ex
          simp (maxDischargeDepth := 9) -implicitDefEqProofs only [push_cast, simprocAttr, hlt, hlt', v1, hq, hx, ex, Bool.not_false]
          exact quiet_0
theorem contains_c {h : AHeap} {q c : Nat} {L : List Int} (hg : Good h) (hs : SzAt h q L) : W CP 103 [.sl q 0 L.length c, .fn 104 []] h = some (.bool (!L.all okS), h, []) := by
  obtain ⟨i, i1, i2, ei⟩ := index_c (c := c) hg hs
  refine W_quietP (m := M103) rfl rfl (by simp [AV.lts, AV.lt]) rfl rfl hg ?_
  cases hall : L.all okS with
  | true =>
    rw [i1 hall] at ei
    simp (maxDischargeDepth := 9) -implicitDefEqProofs only [push_cast, simprocAttr, M103, ei, Bool.not_true]
    exact quiet_0
  | false =>
    have := i2 hall
    simp (maxDischargeDepth := 9) -implicitDefEqProofs only [push_cast, simprocAttr, M103, ei, this, Bool.not_false]
    exact quiet_0
def sumS (L : List Int) : Int := L.foldl (· + ·) 0
theorem sumS_snoc (L : List Int) (x : Int) : sumS (L ++ [x]) = sumS L + x := by simp [sumS]
theorem sumS_from (s : Int) : ∀ L : List Int, L.foldl (· + ·) s = s + sumS L
  | [] => by simp [sumS]
  | x :: L => by
    have h1 := sumS_from (s + x) L
    have h2 := sumS_from (0 + x) L
    unfold sumS at h1 h2 ⊢
    simp only [List.foldl_cons]
    omega
theorem sumS_cons (x : Int) (L : List Int) : sumS (x :: L) = x + sumS L := by
  have := sumS_from (0 + x) L
  unfold sumS at this ⊢
  simp only [List.foldl_cons]
  omega
theorem sumS_bound : ∀ {L : List Int}, L.all okS = true → 0 ≤ sumS L ∧ sumS L ≤ 8 * L.length
  | [], _ => by simp [sumS]
  | x :: L, h => by
    simp only [List.all_cons, Bool.and_eq_true, okS, decide_eq_true_eq] at h
    have := sumS_bound (L := L) h.2
    rw [sumS_cons, List.length_cons]
    omega
theorem width_c {h : AHeap} {q c : Nat} {L : List Int} (hg : Good h) (hs : SzAt h q L) : W CP 69 [.sl q 0 L.length c] h = some (if L.all okS then .tup [.int .i64 (sumS L), .int .i64 0] else .tup [.int .i64 0, .int .i64 1], h, []) := by
  have ec := contains_c (c := c) hg hs
  obtain ⟨hq, hl⟩ := hs
  refine W_quietP (m := M69) rfl rfl (by simp [AV.lts, AV.lt]) rfl (by split <;> rfl) hg ?_
  cases hall : L.all okS with
  | false =>
    rw [hall] at ec
    simp only [Bool.not_false] at ec
    simp (maxDischargeDepth := 9) -implicitDefEqProofs only [push_cast, simprocAttr, M69, ec, Bool.false_eq_true]
    exact quiet_0
  | true =>
    rw [hall] at ec
    simp only [Bool.not_true] at ec
    rcases hq with hq | hq
    all_goals
      have hql := (List.getElem?_eq_some_iff.1 hq).1
      simp (maxDischargeDepth := 9) -implicitDefEqProofs only [push_cast, simprocAttr, M69, ec]
      refine wp_kRes (wp_kSeq (wp_kBlock ?_))
      refine wp_loop (fun k a h' ws => ∃ i : Nat, k = L.length - i ∧ i ≤ L.length ∧ a = [(4, .int .i64 (sumS (L.take i))), (9, .sl q 0 L.length c), (10, .int .i64 (L.length : Int)), (11, .int .i64 (i : Int))] ∧ h' = h ∧ ws = []) L.length ?_ ?_
      · refine ⟨0, by omega, by omega, ?_, rfl, rfl⟩
        simp (maxDischargeDepth := 9) -implicitDefEqProofs only [push_cast, simprocAttr, List.take_zero]; try rfl
      · rintro k aa h' ws ⟨i, rfl, hi, rfl, rfl, rfl⟩
        have v1 : IntKind.i64.wrap ((i : Int) + 1) = (i : Int) + 1 := wr_i64 _ (by omega) (by omega)
        by_cases hlt : i < L.length
        · have hlt' : (i : Int) < (L.length : Int) := by omega
          obtain ⟨x, hx⟩ : ∃ x, L[i]? = some x := ⟨_, List.getElem?_eq_getElem hlt⟩
          have htk : L.take (i + 1) = L.take i ++ [x] := by rw [List.take_add_one, hx]; rfl
          have hb := sumS_bound (L := L.take (i + 1)) (List.all_eq_true.2 fun y hy => List.all_eq_true.1 hall y (List.mem_of_mem_take hy))
          rw [htk, sumS_snoc, List.length_append] at hb
          have hb2 : (L.take i).length ≤ 1000000 := by rw [List.length_take]; omega
          have v2 : IntKind.i64.wrap (sumS (L.take i) + x) = sumS (L.take i) + x := wr_i64 _ (by omega) (by simp only [List.length_cons, List.length_nil] at hb; omega)
          simp (maxDischargeDepth := 9) -implicitDefEqProofs only [push_cast, simprocAttr, hlt, hlt', v1, hq, hx, v2]
          refine loop_next (L.length - (i + 1)) (by omega) ⟨i + 1, rfl, by omega, ?_, rfl, rfl⟩
          rw [htk, sumS_snoc]
          simp (maxDischargeDepth := 9) -implicitDefEqProofs only [push_cast, simprocAttr]; try simp
        · have hi2 : i = L.length := by omega
          subst hi2
          have hnl : ¬ (L.length : Int) < (L.length : Int) := by omega
          simp (maxDischargeDepth := 9) -implicitDefEqProofs only [push_cast, simprocAttr, List.take_length]
          exact quiet_0
end Go.Proofs.YtdpbbagllhfjbaaDoorW.AI.G
namespace Go.Proofs.YtdpbbagllhfjbaaDoorW.AI.G
open Go Go.Proofs.YtdpbbagllhfjbaaDoorW.AI Go.Proofs.YtdpbbagllhfjbaaDoorW.AI.Oct
set_option maxRecDepth 100000
set_option linter.unusedSimpArgs false
set_option linter.unusedVariables false
set_option linter.unusedSectionVars false
/-- A row of numbers lies there. -/
def NuAt (h : AHeap) (r : Nat) (V : List Int) : Prop := (h[r]? = some ⟨.ext, .ints .u64 V⟩ ∨ h[r]? = some ⟨.tip false, .ints .u64 V⟩) ∧ V.length < 1000000
theorem NuAt.app {h : AHeap} {q : Nat} {L : List Int} (s : NuAt h q L) (js : AHeap) : NuAt (h ++ js) q L := by
  refine ⟨?_, s.2⟩
  rcases s.1 with e | e
  · exact Or.inl (by rw [List.getElem?_append_left (List.getElem?_eq_some_iff.1 e).1]; exact e)
  · exact Or.inr (by rw [List.getElem?_append_left (List.getElem?_eq_some_iff.1 e).1]; exact e)
theorem NuAt.lt {h : AHeap} {r : Nat} {V : List Int} (s : NuAt h r V) : r < h.length := by
  rcases s.1 with e | e
  · exact (List.getElem?_eq_some_iff.1 e).1
  · exact (List.getElem?_eq_some_iff.1 e).1
theorem lay1_ok {H : AHeap} {c0 c1 B r cap o s k cc : Nat} {V D : List Int} {v : Int} (hg : Good H) (a0 : H[c0]? = some ⟨.tip false, .vals [.sl r 0 V.length cap]⟩) (a1 : c1 < H.length)
    (a2 : H[B]? = some ⟨.tip false, .ints .u8 D⟩) (hN : NuAt H r V) (hk : V[k]? = some v) (v0 : 0 ≤ v) (v1 : v < 18446744073709551616) (hv : v < 256 ^ s) (s1 : 1 ≤ s) (s8 : s ≤ 8) (ho : o + s ≤ D.length) :
    W CP 90 [.int .i64 (k : Int), .sl B o s cc, .ptr c0 0, .ptr c1 0] H = some (.bool true, H.set B ⟨.tip false, .ints .u8 (splice D o (dg s v))⟩, [B]) := by
  have ef := fun h => fits_c (h := h) v0 v1 s1 s8
  rw [decide_eq_true hv] at ef
  have ew := write_c (c := cc) (v := v) a2 (by omega) s8 ho
  have b0 := (List.getElem?_eq_some_iff.1 a0).1
  have b2 := (List.getElem?_eq_some_iff.1 a2).1
  have br := hN.lt
  have hkl : k < V.length := (List.getElem?_eq_some_iff.1 hk).1
  refine W_set0 (m := M90) rfl rfl (by simp [AV.lts, AV.lt]) rfl rfl hg b2 (by simp [oldIn]) (by simp [ACells.lt]) ?_
  rcases hN.1 with hr | hr
  all_goals simp (maxDischargeDepth := 9) -implicitDefEqProofs only [push_cast, simprocAttr, M90, a0, a2, hr, hk, hkl, b0, b2, br, ef, ew]
end Go.Proofs.YtdpbbagllhfjbaaDoorW.AI.G
namespace Go.Proofs.YtdpbbagllhfjbaaDoorW.AI.G
open Go Go.Proofs.YtdpbbagllhfjbaaDoorW.AI Go.Proofs.YtdpbbagllhfjbaaDoorW.AI.Oct
set_option maxRecDepth 100000
set_option linter.unusedSimpArgs false
set_option linter.unusedVariables false
set_option linter.unusedSectionVars false
theorem W_setsP {C : Cfg} {f : Nat} {m : MFunc} {args : List AV} {h X : AHeap} {v : AV} (P : List Nat → Prop) (hp : C.prim f args h = none) (hm : C.mp f = some m) (h0 : AV.lts 0 args = false) (ht : m.trim = true) (hv : v.lt h.length = true)
    (hX : X.length = h.length) (hg : Good X) (hw : ∀ ws, P ws → ∀ b ∈ ws, ∃ x : ABlk, X[b]? = some x ∧ x.c.lt h.length = true)
    (e : Wp (xbody (W C) m args h) fun r => r.1 = v ∧ r.2.1 = X ∧ P r.2.2) : ∃ ws, P ws ∧ W C f args h = some (v, X, ws) := by
  obtain ⟨⟨v', X', ws⟩, e, rfl, rfl, hP⟩ := e
  refine ⟨ws, hP, ?_⟩
  exact W_sets (js := []) hp hm h0 ht hv hX hg (hw ws hP) (by rw [e, List.append_nil])
/-- The bytes of numbers, each in so many. -/
def layB : List Nat → List Int → List Int
  | s :: Ls, v :: V => dg s v ++ layB Ls V
  | _, _ => []
theorem layB_nil (V : List Int) : layB [] V = [] := by cases V <;> rfl
theorem layB_snoc : ∀ (Ls : List Nat) (V : List Int) (s : Nat) (v : Int), Ls.length = V.length → layB (Ls ++ [s]) (V ++ [v]) = layB Ls V ++ dg s v
  | [], [], s, v, _ => by simp [layB]
  | a :: Ls, b :: V, s, v, h => by
    simp only [List.cons_append, layB]
    rw [layB_snoc Ls V s v (by simpa using h), List.append_assoc]
  | [], b :: V, s, v, h => by simp at h
  | a :: Ls, [], s, v, h => by simp at h
theorem layB_len : ∀ (Ls : List Nat) (V : List Int), Ls.length = V.length → (layB Ls V).length = Ls.sum
  | [], [], _ => rfl
  | a :: Ls, b :: V, h => by
    simp only [layB, List.length_append, dg_len, List.sum_cons]
    rw [layB_len Ls V (by simpa using h)]
  | [], b :: V, h => by simp at h
  | a :: Ls, [], h => by simp at h
theorem layB_byt : ∀ (Ls : List Nat) (V : List Int), Byt (layB Ls V)
  | [], V => by rw [layB_nil]; intro x hx; simp at hx
  | a :: Ls, [] => by intro x hx; simp [layB] at hx
  | a :: Ls, b :: V => by simp only [layB]; exact (dg_byt _ _).app (layB_byt Ls V)
theorem splice_mid (A R x : List Int) : splice (A ++ R) A.length x = A ++ x ++ R.drop x.length := by
  unfold splice
  rw [List.take_left', List.drop_append, List.drop_eq_nil_of_le (by omega : A.length ≤ A.length + x.length)]
  · simp
  · rfl
theorem set_same {h : AHeap} {b : Nat} {x : ABlk} (e : h[b]? = some x) : h.set b x = h := by
  apply List.ext_getElem?
  intro i
  rw [List.getElem?_set]
  by_cases hi : b = i
  · subst hi
    rw [if_pos rfl, if_pos (List.getElem?_eq_some_iff.1 e).1, e]
  · rw [if_neg hi]
/-- Sizes as a row of numbers. -/
abbrev szI (Ls : List Nat) : List Int := Ls.map fun (n : Nat) => (n : Int)
theorem sum_take_succ {Ls : List Nat} {i s : Nat} (h : Ls[i]? = some s) : (Ls.take (i + 1)).sum = (Ls.take i).sum + s := by
  rw [List.take_add_one, h]; simp
theorem sum_take_le (Ls : List Nat) (i : Nat) : (Ls.take i).sum ≤ Ls.sum := by
  conv => rhs; rw [← List.take_append_drop i Ls, List.sum_append]
  omega
set_option maxHeartbeats 4000000 in
theorem cut_ok {H : AHeap} {q cS c0 c1 B r cap : Nat} {Ls : List Nat} {V D0 : List Int} (hg : Good H) (hS : SzAt H q (szI Ls)) (a0 : H[c0]? = some ⟨.tip false, .vals [.sl r 0 V.length cap]⟩) (a1 : c1 < H.length)
    (a2 : H[B]? = some ⟨.tip false, .ints .u8 D0⟩) (hN : NuAt H r V) (n0 : c0 ≠ B) (n1 : q ≠ B) (n2 : r ≠ B) (hl : Ls.length = V.length) (hD : D0.length = Ls.sum) (hok : ∀ s ∈ Ls, 1 ≤ s ∧ s ≤ 8) (hV : ∀ v ∈ V, 0 ≤ v ∧ v < 18446744073709551616)
    (hf : ∀ (i s : Nat) (v : Int), Ls[i]? = some s → V[i]? = some v → v < 256 ^ s) :
    ∃ ws, (∀ b ∈ ws, b = B) ∧ W CP 70 [.sl q 0 Ls.length cS, .sl B 0 Ls.sum Ls.sum, .fn 90 [.ptr c0 0, .ptr c1 0]] H = some (.tup [], H.set B ⟨.tip false, .ints .u8 (layB Ls V)⟩, ws) := by
  have b2 := (List.getElem?_eq_some_iff.1 a2).1
  refine W_setsP (m := M70) (fun ws => ∀ b ∈ ws, b = B) rfl rfl (by simp [AV.lts, AV.lt]) rfl rfl (by simp) (good_set hg rfl) (fun ws hw b hb => by obtain rfl := hw b hb; exact ⟨_, List.getElem?_set_self b2, by simp [ACells.lt]⟩) ?_
  have hlen : (szI Ls).length = Ls.length := by simp
  have hll : Ls.length < 1000000 := by have := hS.2; simpa using this
  simp (maxDischargeDepth := 9) -implicitDefEqProofs only [push_cast, simprocAttr, M70]
  refine wp_kRes (wp_kBlock ?_)
  refine wp_loop (fun k a h' ws => ∃ i : Nat, k = Ls.length - i ∧ i ≤ Ls.length ∧ a = [(1, .sl B (Ls.take i).sum (Ls.sum - (Ls.take i).sum) (Ls.sum - (Ls.take i).sum)), (2, .fn 90 [.ptr c0 0, .ptr c1 0]), (8, .sl q 0 Ls.length cS), (9, .int .i64 (Ls.length : Int)), (10, .int .i64 (i : Int))] ∧ h' = H.set B ⟨.tip false, .ints .u8 (layB (Ls.take i) (V.take i) ++ D0.drop (Ls.take i).sum)⟩ ∧ ∀ b ∈ ws, b = B) Ls.length ?_ ?_
  · refine ⟨0, by omega, by omega, ?_, ?_, by simp⟩
    · simp (maxDischargeDepth := 9) -implicitDefEqProofs only [push_cast, simprocAttr, List.take_zero, List.sum_nil, Nat.sub_zero]; try rfl
    · rw [List.take_zero, List.take_zero, layB_nil, List.sum_nil, List.drop_zero, List.nil_append, set_same a2]
  · rintro k aa h' ws ⟨i, rfl, hi, rfl, hh, hws⟩
    have v1 : IntKind.i64.wrap ((i : Int) + 1) = (i : Int) + 1 := wr_i64 _ (by omega) (by omega)
    by_cases hlt : i < Ls.length
    · have hlt' : (i : Int) < (Ls.length : Int) := by omega
      obtain ⟨s, hs⟩ : ∃ s, Ls[i]? = some s := ⟨_, List.getElem?_eq_getElem hlt⟩
      obtain ⟨v, hv⟩ : ∃ v, V[i]? = some v := ⟨_, List.getElem?_eq_getElem (by omega)⟩
      have hsI : (szI Ls)[i]? = some (s : Int) := by simp [hs]
      obtain ⟨s1, s8⟩ := hok s (List.mem_of_getElem? hs)
      obtain ⟨v0, v9⟩ := hV v (List.mem_of_getElem? hv)
      have hff := hf i s v hs hv
      have e1 := sum_take_succ hs
      have e2 := sum_take_le Ls (i + 1)
      have tl : (Ls.take i).length = (V.take i).length := by simp [hl]
      have hA := layB_len (Ls.take i) (V.take i) tl
      obtain ⟨o, ho⟩ : ∃ o, (Ls.take i).sum = o := ⟨_, rfl⟩
      obtain ⟨M, hM⟩ : ∃ M, Ls.sum - o = M := ⟨_, rfl⟩
      rw [ho] at e1 hA hh ⊢
      rw [hM]
      have hsM : s ≤ M := by omega
      have g0 : h'[c0]? = some ⟨.tip false, .vals [.sl r 0 V.length cap]⟩ := by rw [hh, List.getElem?_set_ne (Ne.symm n0)]; exact a0
      have g1 : c1 < h'.length := by rw [hh]; simpa using a1
      have g2 : h'[B]? = some ⟨.tip false, .ints .u8 (layB (Ls.take i) (V.take i) ++ D0.drop o)⟩ := by rw [hh, List.getElem?_set_self b2]
      have gN : NuAt h' r V := by
        refine ⟨?_, hN.2⟩
        rw [hh, List.getElem?_set_ne (Ne.symm n2)]
        exact hN.1
      have gS : h'[q]? = some ⟨.ext, .ints .i64 (szI Ls)⟩ ∨ h'[q]? = some ⟨.tip false, .ints .i64 (szI Ls)⟩ := by
        rw [hh, List.getElem?_set_ne (Ne.symm n1)]
        exact hS.1
      have gG : Good h' := by rw [hh]; exact good_set hg rfl
      have eL := lay1_ok (o := o) (k := i) (cc := s) gG g0 g1 g2 gN hv v0 v9 hff s1 s8 (by rw [List.length_append, hA, List.length_drop]; omega)
      have hsp : splice (layB (Ls.take i) (V.take i) ++ D0.drop o) o (dg s v) = layB (Ls.take (i + 1)) (V.take (i + 1)) ++ D0.drop (o + s) := by
        have h1 := splice_mid (layB (Ls.take i) (V.take i)) (D0.drop o) (dg s v)
        rw [hA] at h1
        rw [h1, List.take_add_one, List.take_add_one, hs, hv]
        simp only [Option.toList_some]
        rw [layB_snoc _ _ _ _ tl, dg_len, List.drop_drop]
      rw [hsp] at eL
      have gq := gS
      have hm0 : (0 : Nat) ≤ s := by omega
      rcases gS with gS | gS
      all_goals
        have gql := (List.getElem?_eq_some_iff.1 gS).1
        simp (maxDischargeDepth := 9) -implicitDefEqProofs only [push_cast, simprocAttr, hlt, hlt', v1, gS, gql, hsI, hsM, hm0, Nat.sub_zero, Nat.mul_one, Nat.add_zero, Nat.zero_add, eL]
        refine loop_next (Ls.length - (i + 1)) (by omega) ⟨i + 1, rfl, by omega, ?_, ?_, ?_⟩
        · rw [e1, show Ls.sum - (o + s) = M - s by omega]
          simp (maxDischargeDepth := 9) -implicitDefEqProofs only [push_cast, simprocAttr]; try simp
        · rw [hh, List.set_set, e1]
        · intro b hb
          split at hb
          · rcases List.mem_append.1 hb with hb | hb
            · exact hws b hb
            · simpa using hb
          · exact hws b hb
    · have hi2 : i = Ls.length := by omega
      subst hi2
      have hnl : ¬ (Ls.length : Int) < (Ls.length : Int) := by omega
      rw [List.take_length, hl, List.take_length, List.drop_eq_nil_of_le (by omega), List.append_nil] at hh
      simp (maxDischargeDepth := 9) -implicitDefEqProofs only [push_cast, simprocAttr, hh]
      exact hws
end Go.Proofs.YtdpbbagllhfjbaaDoorW.AI.G
namespace Go.Proofs.YtdpbbagllhfjbaaDoorW.AI.G
open Go Go.Proofs.YtdpbbagllhfjbaaDoorW.AI Go.Proofs.YtdpbbagllhfjbaaDoorW.AI.Oct
set_option maxRecDepth 100000
set_option linter.unusedSimpArgs false
set_option linter.unusedVariables false
set_option linter.unusedSectionVars false
theorem all_okS {Ls : List Nat} (h : ∀ s ∈ Ls, 1 ≤ s ∧ s ≤ 8) : (szI Ls).all okS = true := by
  rw [List.all_eq_true]
  intro x hx
  obtain ⟨n, hn, rfl⟩ := List.mem_map.1 hx
  have := h n hn
  simp only [okS, decide_eq_true_eq]
  omega
theorem sumS_szI : ∀ (Ls : List Nat), sumS (szI Ls) = (Ls.sum : Int)
  | [] => rfl
  | a :: Ls => by
    have := sumS_szI Ls
    simp only [szI, List.map_cons, sumS_cons, List.sum_cons] at this ⊢
    rw [this]
    omega
theorem sum_le8 : ∀ {Ls : List Nat}, (∀ s ∈ Ls, 1 ≤ s ∧ s ≤ 8) → Ls.sum ≤ 8 * Ls.length
  | [], _ => by simp
  | a :: Ls, h => by
    have h1 := h a List.mem_cons_self
    have h2 := sum_le8 (Ls := Ls) fun s hs => h s (List.mem_cons_of_mem _ hs)
    simp only [List.sum_cons, List.length_cons]
    omega
theorem len_szI (Ls : List Nat) : (szI Ls).length = Ls.length := by simp
/-- Numbers that fit are laid. -/
theorem lay_ok {h : AHeap} {q cS r cap : Nat} {Ls : List Nat} {V : List Int} (hg : Good h) (hS : SzAt h q (szI Ls)) (hN : NuAt h r V) (hl : Ls.length = V.length) (hok : ∀ s ∈ Ls, 1 ≤ s ∧ s ≤ 8) (hV : ∀ v ∈ V, 0 ≤ v ∧ v < 18446744073709551616)
    (hf : ∀ (i s : Nat) (v : Int), Ls[i]? = some s → V[i]? = some v → v < 256 ^ s) :
    W CP 50 [.sl q 0 Ls.length cS, .sl r 0 V.length cap] h =
      some (.tup [.sl (h.length + 2) 0 Ls.sum Ls.sum, .int .i64 0], h ++ [⟨.tip false, .vals [.sl r 0 V.length cap]⟩, ⟨.tip false, .ints .i64 [0]⟩, ⟨.tip false, .ints .u8 (layB Ls V)⟩], []) := by
  have hq : q < h.length := by
    rcases hS.1 with e | e
    · exact (List.getElem?_eq_some_iff.1 e).1
    · exact (List.getElem?_eq_some_iff.1 e).1
  have hr := hN.lt
  have h8 := sum_le8 hok
  have hln := hN.2
  have hG1 : Good (h ++ [⟨.tip false, .vals [.sl r 0 V.length cap]⟩]) := good_app hg rfl
  have hG3 : Good (h ++ [⟨.tip false, .vals [.sl r 0 V.length cap]⟩, ⟨.tip false, .ints .i64 [0]⟩, ⟨.tip false, .ints .u8 (List.replicate Ls.sum 0)⟩]) := good_app hg rfl
  have ew := width_c (c := cS) hG1 (hS.app _)
  rw [all_okS hok, if_pos rfl, sumS_szI, len_szI] at ew
  obtain ⟨ws, hws, ec⟩ := cut_ok (cS := cS) (c0 := h.length) (c1 := h.length + 1) (B := h.length + 2) (cap := cap) (D0 := List.replicate Ls.sum 0) hG3 (hS.app _) (by rw [List.getElem?_append_right (by omega)]; simp) (by simp) (by rw [List.getElem?_append_right (by omega)]; simp) (hN.app _) (by omega) (by omega) (by omega) hl (by simp) hok hV hf
  have hset : (h ++ [(⟨.tip false, .vals [.sl r 0 V.length cap]⟩ : ABlk), ⟨.tip false, .ints .i64 [0]⟩, ⟨.tip false, .ints .u8 (List.replicate Ls.sum 0)⟩]).set (h.length + 2) ⟨.tip false, .ints .u8 (layB Ls V)⟩ = h ++ [⟨.tip false, .vals [.sl r 0 V.length cap]⟩, ⟨.tip false, .ints .i64 [0]⟩, ⟨.tip false, .ints .u8 (layB Ls V)⟩] := by
    apply List.ext_getElem?
    intro i
    rw [List.getElem?_set]
    by_cases h1 : h.length + 2 = i
    · subst h1
      rw [if_pos rfl, if_pos (by simp), List.getElem?_append_right (by omega)]
      simp
    · rw [if_neg h1]
      by_cases h2 : i < h.length
      · rw [List.getElem?_append_left h2, List.getElem?_append_left h2]
      · rw [List.getElem?_append_right (by omega), List.getElem?_append_right (by omega)]
        rcases (by omega : i - h.length = 0 ∨ i - h.length = 1 ∨ 3 ≤ i - h.length) with e | e | e
        · rw [e]; rfl
        · rw [e]; rfl
        · rw [List.getElem?_eq_none (by simpa using e), List.getElem?_eq_none (by simpa using e)]
  rw [hset] at ec
  have hwd : wadd h.length [] ws = [] := wadd_ge fun b hb => by have := hws b hb; omega
  obtain ⟨N, hNN⟩ : ∃ N, Ls.sum = N := ⟨_, rfl⟩
  rw [hNN] at ew ec h8 ⊢
  have hfl : (List.replicate N [(0 : Int)]).flatten = List.replicate N 0 := by simp
  have k4 : N ≤ 281474976710656 := by omega
  have k1 : (N : Int) < 9223372036854775808 := by omega
  have k2 : 1 * N ≤ 281474976710656 := by omega
  have k3 : N < 9223372036854775808 := by omega
  have hne : (V.length : Int) = (Ls.length : Int) := by omega
  have hb : xbody (W CP) M50 [.sl q 0 Ls.length cS, .sl r 0 V.length cap] h = some (.tup [.sl (h.length + 2) 0 N N, .int .i64 0], h ++ [⟨.tip false, .vals [.sl r 0 V.length cap]⟩, ⟨.tip false, .ints .i64 [0]⟩, ⟨.tip false, .ints .u8 (layB Ls V)⟩], []) := by
    simp (maxDischargeDepth := 9) -implicitDefEqProofs only [push_cast, simprocAttr, M50, nadd1, nadd2, nadd3, nadd4, nadd5, nadd6, nadd7, nadd8, nadd9, nadd10, nadd11, nadd12, ew, hne, hfl, k4, k1, k2, k3, ec, hwd]
  rw [W_body (m := M50) rfl rfl (by simp [AV.lts, AV.lt]) hb, show (M50).trim = true from rfl, if_pos rfl, trim_addr (by simp [AV.lt, AV.lts])]
end Go.Proofs.YtdpbbagllhfjbaaDoorW.AI.G

import Derived.Test.YtpmibaeajmfdpaaDoorAIHhparses
import Derived.Test.YtpmibaeajmfdpaaDoorAIHoctl
namespace Go.Proofs.YtpmibaeajmfdpaaDoorW.AI.H
open Go Go.Proofs.YtpmibaeajmfdpaaDoorW.AI Go.Proofs.YtpmibaeajmfdpaaDoorW.AI.Oct
set_option maxRecDepth 100000
set_option linter.unusedSimpArgs false
set_option linter.unusedVariables false
set_option linter.unusedSectionVars false
theorem i8_mod (v : Int) (h0 : 0 ≤ v) (h1 : v < 256) : IntKind.i8.wrap v % 256 = v := by
  simp only [IntKind.wrap, IntKind.bits, IntKind.signed]
  simp
  split <;> omega
/-- Of bytes, the head's numbers. -/
theorem head_of {D : List Int} {v0 v1 v2 v3 v4 v5 v6 v7 v8 v9 v10 : Int} (hv : HV D v0 v1 v2 v3 v4 v5 v6 v7 v8 v9 v10) : headV (v0 / 64) (v0 / 8 % 8) (v0 % 8) v1 (IntKind.i8.wrap v2) (IntKind.i8.wrap v3) v4 v5 v6 v7 v8 v9 v10 = [v0, v1, v2, v3, v4, v5, v6, v7, v8, v9, v10] := by
  have hgt := hv.bounds
  obtain ⟨⟨p0, q0⟩, ⟨p1, q1⟩, ⟨p2, q2⟩, ⟨p3, q3⟩, _⟩ := hgt
  unfold headV
  rw [i8_mod v2 p2 q2, i8_mod v3 p3 q3, show v0 / 64 * 64 + v0 / 8 % 8 * 8 + v0 % 8 = v0 by omega]
theorem head_lay {D : List Int} {v0 v1 v2 v3 v4 v5 v6 v7 v8 v9 v10 : Int} (hv : HV D v0 v1 v2 v3 v4 v5 v6 v7 v8 v9 v10) : layB sizesN [v0, v1, v2, v3, v4, v5, v6, v7, v8, v9, v10] = D.take 48 := by
  rw [← hv.takeV]
  exact layB_takeV hv.B hv.l
/-- Two heads that are the same come of the same bytes. -/
theorem heads_same {D E : List Int} {v0 v1 v2 v3 v4 v5 v6 v7 v8 v9 v10 u0 u1 u2 u3 u4 u5 u6 u7 u8 u9 u10 : Int} (hv : HV D v0 v1 v2 v3 v4 v5 v6 v7 v8 v9 v10) (hu : HV E u0 u1 u2 u3 u4 u5 u6 u7 u8 u9 u10) (h : sameH (v0 / 64) (v0 / 8 % 8) (v0 % 8) v1 (IntKind.i8.wrap v2) (IntKind.i8.wrap v3) v4 v5 v6 v7 v8 v9 v10 (u0 / 64) (u0 / 8 % 8) (u0 % 8) u1 (IntKind.i8.wrap u2) (IntKind.i8.wrap u3) u4 u5 u6 u7 u8 u9 u10 = true) : D.take 48 = E.take 48 := by
  unfold sameH at h
  simp only [Bool.and_eq_true, beq_iff_eq] at h
  obtain ⟨g0, g1, g2, g3, g4, g5, g6, g7, g8, g9, g10, g11, g12⟩ := h
  rw [← head_lay hv, ← head_lay hu, ← head_of hv, ← head_of hu, g0, g1, g2, g3, g4, g5, g6, g7, g8, g9, g10, g11, g12]
theorem xor_bit : ∀ (a : Fin 256) (r : Fin 8), (0 ≤ abits .xor .u8 (a.val : Int) ((2 ^ r.val : Nat) : Int) ∧ abits .xor .u8 (a.val : Int) ((2 ^ r.val : Nat) : Int) < 256) ∧ abits .xor .u8 (a.val : Int) ((2 ^ r.val : Nat) : Int) ≠ (a.val : Int) ∧ (r.val < 3 ∨ 5 < r.val → abits .xor .u8 (a.val : Int) ((2 ^ r.val : Nat) : Int) / 8 % 8 = (a.val : Int) / 8 % 8) := by decide +kernel
theorem xor_at {d : Int} (d0 : 0 ≤ d) (d1 : d < 256) {r : Nat} (hr : r < 8) {P : Int} (hP : P = ((2 ^ r : Nat) : Int)) : (0 ≤ abits .xor .u8 d P ∧ abits .xor .u8 d P < 256) ∧ abits .xor .u8 d P ≠ d ∧ (r < 3 ∨ 5 < r → abits .xor .u8 d P / 8 % 8 = d / 8 % 8) := by
  have := xor_bit ⟨d.toNat, by omega⟩ ⟨r, hr⟩
  simp only [Int.toNat_of_nonneg d0] at this
  rw [hP]
  exact this
theorem toInts_map (k : IntKind) : ∀ l : List Int, toInts k (l.map (AV.int k)) = some l
  | [] => rfl
  | x :: l => by simp only [List.map_cons, toInts, if_true, toInts_map k l, Option.map_some]
/-- A great load, in steps. -/
def ldC (n off : Nat) (h : AHeap) : Option ACells → Option (AV × AHeap × List Nat)
  | some c => (loadA c off (some n)).map fun v => (v, h, [])
  | none => none
def ldG (n : Nat) (h : AHeap) : Option AV → Option (AV × AHeap × List Nat)
  | some (.ptr b off) => ldC n off h (cellsAt h b)
  | _ => none
theorem ld_eq (call : CallT) (i : Nat) (a : Acts) (h : AHeap) : aop call (.ld (some 48) (.t i)) a h = ldG 48 h (look a i) := by
  simp only [aop, aeval]
  cases look a i with
  | none => rfl
  | some v =>
    cases v <;> try rfl
    rename_i b off
    simp only [Option.bind_some, ldG, ldC]
    cases cellsAt h b <;> rfl
theorem ldG_ptr (n b off : Nat) (h : AHeap) : ldG n h (some (.ptr b off)) = ldC n off h (cellsAt h b) := rfl
theorem ldC_ints {D : List Int} {h : AHeap} {xs : List AV} (e : loadN (.ints .u8 D) 0 48 = some xs) : ldC 48 0 h (some (.ints .u8 D)) = some (.agg xs, h, []) := by
  simp only [ldC, loadA, e, Option.map_some]
theorem loadN_ints {k : IntKind} (l : List Int) : ∀ (n o : Nat), o + n = l.length → loadN (.ints k l) o n = some ((l.drop o).map (AV.int k))
  | 0, o, h => by rw [List.drop_eq_nil_of_le (by omega)]; rfl
  | n + 1, o, h => by
    have ho : o < l.length := by omega
    simp only [loadN, ACells.get?, List.getElem?_eq_getElem ho, Option.map_some, Option.bind_some]
    rw [loadN_ints l n (o + 1) (by omega), Option.map_some, List.drop_eq_getElem_cons ho, List.map_cons]
set_option maxHeartbeats 4000000 in
theorem bits_oo {g : AHeap} (hg : Good g) (ha : At0 g) {D E : List Int} {d z bit P : Int} {K J R : Nat} (hD : D.length = 48) (hB : Byt D) (k1 : 0 ≤ bit) (k2 : bit ≤ 65535) (kK : Int.tmod bit 384 = (K : Int)) (kJ : Int.tdiv (K : Int) 8 = (J : Int)) (kR : Int.tmod (K : Int) 8 = (R : Int)) (hJ : J < 48) (hR : R < 8) (hP : P = ((2 ^ R : Nat) : Int)) (hd : D[J]? = some d) (hz : abits .xor .u8 d P = z) (hE : D.set J z = E) (hBE : Byt E) (hEl : E.length = 48) {v0 v1 v2 v3 v4 v5 v6 v7 v8 v9 v10 u0 u1 u2 u3 u4 u5 u6 u7 u8 u9 u10 : Int} (hv : HV D v0 v1 v2 v3 v4 v5 v6 v7 v8 v9 v10) (hu : HV E u0 u1 u2 u3 u4 u5 u6 u7 u8 u9 u10) (cv : 1 ≤ v0 / 8 % 8 ∧ v0 / 8 % 8 ≤ 4) (cu : 1 ≤ u0 / 8 % 8 ∧ u0 / 8 % 8 ≤ 4) (hne : D ≠ E) :
    Wp (xbody (W CP) M6 [.agg (D.map (AV.int .u8)), .int .u16 bit] g) fun r => r.1 = .bool true := by
  have hmap : (D.map (AV.int .u8)).length = 48 := by rw [List.length_map]; exact hD
  have ht := toInts_map .u8 D
  have hl := loadN_ints (k := .u8) D 48 0 (by omega)
  rw [List.drop_zero] at hl
  have hl := fun h => ldC_ints (h := h) hl
  have hst := storeL_ints (k := .u8) D [0, 0, 0, 0, 0, 0, 0, 0, 0, 0, 0, 0, 0, 0, 0, 0, 0, 0, 0, 0, 0, 0, 0, 0, 0, 0, 0, 0, 0, 0, 0, 0, 0, 0, 0, 0, 0, 0, 0, 0, 0, 0, 0, 0, 0, 0, 0, 0] 0 (by simp; omega)
  have hsp : splice [0, 0, 0, 0, 0, 0, 0, 0, 0, 0, 0, 0, 0, 0, 0, 0, 0, 0, 0, 0, 0, 0, 0, 0, 0, 0, 0, 0, 0, 0, 0, 0, 0, 0, 0, 0, 0, 0, 0, 0, 0, 0, 0, 0, 0, 0, 0, 0] 0 D = D := by
    unfold splice
    rw [List.take_zero, List.nil_append, Nat.zero_add, hD]
    simp
  rw [hsp] at hst
  have w1 : IntKind.i64.wrap bit = bit := wr_i64 _ (by omega) (by omega)
  have w2 : IntKind.i64.wrap (J : Int) = (J : Int) := wr_i64 _ (by omega) (by omega)
  have hR8 : R ≤ 8 := by omega
  have hRn : ¬ (R : Int) < 0 := by omega
  have hPw : IntKind.u8.wrap (1 * 2 ^ R) = P := by
    rcases (by omega : R = 0 ∨ R = 1 ∨ R = 2 ∨ R = 3 ∨ R = 4 ∨ R = 5 ∨ R = 6 ∨ R = 7) with rfl | rfl | rfl | rfl | rfl | rfl | rfl | rfl <;> (subst hP; rfl)
  have hPw' : IntKind.u8.wrap (2 ^ R) = P := by rw [← hPw, Int.one_mul]
  have h0 : (g ++ [(⟨.tip false, .ints .u8 D⟩ : ABlk), ⟨.tip false, .ints .u8 E⟩])[g.length]? = some ⟨.tip false, .ints .u8 D⟩ := behind_get _ _ _
  have h1 : (g ++ [(⟨.tip false, .ints .u8 D⟩ : ABlk), ⟨.tip false, .ints .u8 E⟩])[g.length + 1]? = some ⟨.tip false, .ints .u8 E⟩ := by rw [List.getElem?_append_right (by omega)]; simp
  have hG : Good (g ++ [(⟨.tip false, .ints .u8 D⟩ : ABlk), ⟨.tip false, .ints .u8 E⟩]) := good_app hg rfl
  have sD : Src (g ++ [(⟨.tip false, .ints .u8 D⟩ : ABlk), ⟨.tip false, .ints .u8 E⟩]) (.sl g.length 0 48 48) D := ⟨hB, g.length, 0, 48, .tip false, D, h0, Or.inr ⟨false, rfl⟩, by omega, by rw [List.drop_zero, List.take_length], Or.inl ⟨by rw [hD], by omega⟩⟩
  have sE : Src (g ++ [(⟨.tip false, .ints .u8 D⟩ : ABlk), ⟨.tip false, .ints .u8 E⟩]) (.sl (g.length + 1) 0 48 48) E := ⟨hBE, g.length + 1, 0, 48, .tip false, E, h1, Or.inr ⟨false, rfl⟩, by omega, by rw [List.drop_zero, List.take_length], Or.inl ⟨by rw [hEl], by omega⟩⟩
  have aw := fun h => law04_alive h
  have hA := ha.app [(⟨.tip false, .ints .u8 D⟩ : ABlk), ⟨.tip false, .ints .u8 E⟩]
  obtain ⟨rv, js, r, eP, rP, gP, rb, rl⟩ := parse_ok hG hA.1 sD hv (by omega) cv.1 cv.2
  obtain ⟨H1, hH1⟩ : ∃ H1, (g ++ [(⟨.tip false, .ints .u8 D⟩ : ABlk), ⟨.tip false, .ints .u8 E⟩]) ++ js = H1 := ⟨_, rfl⟩
  have hA1 := hA.app js
  have sE1 := sE.app js
  rw [hH1] at eP rP gP hA1 sE1
  have hnr : noAny (some rv) = some rv := by obtain ⟨_, _, ⟨rfl, _⟩ | rfl⟩ := rP <;> rfl
  have hG2 : Good (H1 ++ [⟨.tip false, .vals [.int .u8 (v0 / 64), .int .u8 (v0 / 8 % 8), .int .u8 (v0 % 8), .int .u8 v1, .int .i8 (IntKind.i8.wrap v2), .int .i8 (IntKind.i8.wrap v3), .int .u32 v4, .int .u32 v5, .int .u32 v6, .int .u64 v7, .int .u64 v8, .int .u64 v9, .int .u64 v10, .nils, .bool false, .int .u32 0, .int .u64 0]⟩]) := good_app gP rfl
  obtain ⟨rw', ks, r', eQ, rQ, gQ, rb', rl'⟩ := parse_ok hG2 (hA1.app _).1 (sE1.app _) hu (by omega) cu.1 cu.2
  obtain ⟨H2, hH2⟩ : ∃ H2, (H1 ++ [(⟨.tip false, .vals [.int .u8 (v0 / 64), .int .u8 (v0 / 8 % 8), .int .u8 (v0 % 8), .int .u8 v1, .int .i8 (IntKind.i8.wrap v2), .int .i8 (IntKind.i8.wrap v3), .int .u32 v4, .int .u32 v5, .int .u32 v6, .int .u64 v7, .int .u64 v8, .int .u64 v9, .int .u64 v10, .nils, .bool false, .int .u32 0, .int .u64 0]⟩ : ABlk)]) ++ ks = H2 := ⟨_, rfl⟩
  have b0 : H2[H1.length]? = some ⟨.tip false, .vals [.int .u8 (v0 / 64), .int .u8 (v0 / 8 % 8), .int .u8 (v0 % 8), .int .u8 v1, .int .i8 (IntKind.i8.wrap v2), .int .i8 (IntKind.i8.wrap v3), .int .u32 v4, .int .u32 v5, .int .u32 v6, .int .u64 v7, .int .u64 v8, .int .u64 v9, .int .u64 v10, .nils, .bool false, .int .u32 0, .int .u64 0]⟩ := by rw [← hH2, List.append_assoc]; exact behind_get _ _ _
  rw [hH2] at eQ rQ gQ
  have hnr' : noAny (some rw') = some rw' := by obtain ⟨_, _, ⟨rfl, _⟩ | rfl⟩ := rQ <;> rfl
  have hL1 : g.length + 2 ≤ H1.length := by have := congrArg List.length hH1; simp at this; omega
  have w3 : ¬ H1.length < g.length := by omega
  have hL2 : H1.length < H2.length := (List.getElem?_eq_some_iff.1 b0).1
  have w4 : ¬ H2.length < g.length := by omega
  have hS : sameH (v0 / 64) (v0 / 8 % 8) (v0 % 8) v1 (IntKind.i8.wrap v2) (IntKind.i8.wrap v3) v4 v5 v6 v7 v8 v9 v10 (u0 / 64) (u0 / 8 % 8) (u0 % 8) u1 (IntKind.i8.wrap u2) (IntKind.i8.wrap u3) u4 u5 u6 u7 u8 u9 u10 = false := by
    rw [Bool.eq_false_iff]
    intro h
    have := heads_same hv hu h
    rw [List.take_of_length_le (by omega), List.take_of_length_le (by omega)] at this
    exact hne this
  have eS := same_c (p0 := v0 / 64) (p1 := v0 / 8 % 8) (p2 := v0 % 8) (p3 := v1) (p4 := IntKind.i8.wrap v2) (p5 := IntKind.i8.wrap v3) (p6 := v4) (p7 := v5) (p8 := v6) (p9 := v7) (p10 := v8) (p11 := v9) (p12 := v10) (p15 := 0) (p16 := 0) (q0 := u0 / 64) (q1 := u0 / 8 % 8) (q2 := u0 % 8) (q3 := u1) (q4 := IntKind.i8.wrap u2) (q5 := IntKind.i8.wrap u3) (q6 := u4) (q7 := u5) (q8 := u6) (q9 := u7) (q10 := u8) (q11 := u9) (q12 := u10) (q15 := 0) (q16 := 0) (px := .nils) (qx := .nils) (ps := false) (qs := false) rfl rfl (h := H2 ++ [⟨.tip false, .vals [.int .u8 (u0 / 64), .int .u8 (u0 / 8 % 8), .int .u8 (u0 % 8), .int .u8 u1, .int .i8 (IntKind.i8.wrap u2), .int .i8 (IntKind.i8.wrap u3), .int .u32 u4, .int .u32 u5, .int .u32 u6, .int .u64 u7, .int .u64 u8, .int .u64 u9, .int .u64 u10, .nils, .bool false, .int .u32 0, .int .u64 0]⟩]) (good_app gQ rfl)
  rw [hS] at eS
  have eS2 := same_c (p0 := v0 / 64) (p1 := v0 / 8 % 8) (p2 := v0 % 8) (p3 := v1) (p4 := IntKind.i8.wrap v2) (p5 := IntKind.i8.wrap v3) (p6 := v4) (p7 := v5) (p8 := v6) (p9 := v7) (p10 := v8) (p11 := v9) (p12 := v10) (p15 := 0) (p16 := 0) (q0 := v0 / 64) (q1 := v0 / 8 % 8) (q2 := v0 % 8) (q3 := v1) (q4 := IntKind.i8.wrap v2) (q5 := IntKind.i8.wrap v3) (q6 := v4) (q7 := v5) (q8 := v6) (q9 := v7) (q10 := v8) (q11 := v9) (q12 := v10) (q15 := 0) (q16 := 0) (px := .nils) (qx := .nils) (ps := false) (qs := false) rfl rfl (h := H2 ++ [⟨.tip false, .vals [.int .u8 (u0 / 64), .int .u8 (u0 / 8 % 8), .int .u8 (u0 % 8), .int .u8 u1, .int .i8 (IntKind.i8.wrap u2), .int .i8 (IntKind.i8.wrap u3), .int .u32 u4, .int .u32 u5, .int .u32 u6, .int .u64 u7, .int .u64 u8, .int .u64 u9, .int .u64 u10, .nils, .bool false, .int .u32 0, .int .u64 0]⟩]) (good_app gQ rfl)
  rw [same_self] at eS2
  simp (maxDischargeDepth := 9) -implicitDefEqProofs only [push_cast, reduceIte, Nat.reduceEqDiff, Nat.reduceAdd, Nat.reduceSub, Nat.reduceMul, Nat.reduceDiv, Nat.reduceMod, Nat.reduceLT, Nat.reduceLeDiff, Nat.reduceBEq, Nat.reduceBNe, reduceCtorEq, Int.reduceEq, Int.reduceNe, Int.reduceLT, Int.reduceLE, Int.reduceToNat, Int.reduceNeg, Int.reduceAdd, Int.reduceSub, Int.reduceMul, Int.reducePow, Nat.reducePow, Int.reduceBEq, M6, nadd1, nadd2, nadd3, nadd4, nadd5, nadd6, nadd7, nadd8, nadd9, nadd10, nadd11, nadd12, w1, w2, kK, kJ, kR, hR8, hRn, hPw, hPw', hmap, ht, ↓ld_eq, ldG_ptr, hl, hst, hD, hd, hz, hE, hJ, aw, hH1, eP, eQ, hH2, hnr, hnr', b0, hL2, w3, w4, eS, eS2]
set_option maxHeartbeats 4000000 in
theorem bits_ob {g : AHeap} (hg : Good g) (ha : At0 g) {D E : List Int} {d z bit P : Int} {K J R : Nat} (hD : D.length = 48) (hB : Byt D) (k1 : 0 ≤ bit) (k2 : bit ≤ 65535) (kK : Int.tmod bit 384 = (K : Int)) (kJ : Int.tdiv (K : Int) 8 = (J : Int)) (kR : Int.tmod (K : Int) 8 = (R : Int)) (hJ : J < 48) (hR : R < 8) (hP : P = ((2 ^ R : Nat) : Int)) (hd : D[J]? = some d) (hz : abits .xor .u8 d P = z) (hE : D.set J z = E) (hBE : Byt E) (hEl : E.length = 48) {v0 v1 v2 v3 v4 v5 v6 v7 v8 v9 v10 u0 u1 u2 u3 u4 u5 u6 u7 u8 u9 u10 : Int} (hv : HV D v0 v1 v2 v3 v4 v5 v6 v7 v8 v9 v10) (hu : HV E u0 u1 u2 u3 u4 u5 u6 u7 u8 u9 u10) (cv : 1 ≤ v0 / 8 % 8 ∧ v0 / 8 % 8 ≤ 4) (cu : ¬ (1 ≤ u0 / 8 % 8 ∧ u0 / 8 % 8 ≤ 4)) (h3 : 3 ≤ K ∧ K ≤ 5) :
    Wp (xbody (W CP) M6 [.agg (D.map (AV.int .u8)), .int .u16 bit] g) fun r => r.1 = .bool true := by
  have hmap : (D.map (AV.int .u8)).length = 48 := by rw [List.length_map]; exact hD
  have ht := toInts_map .u8 D
  have hl := loadN_ints (k := .u8) D 48 0 (by omega)
  rw [List.drop_zero] at hl
  have hl := fun h => ldC_ints (h := h) hl
  have hst := storeL_ints (k := .u8) D [0, 0, 0, 0, 0, 0, 0, 0, 0, 0, 0, 0, 0, 0, 0, 0, 0, 0, 0, 0, 0, 0, 0, 0, 0, 0, 0, 0, 0, 0, 0, 0, 0, 0, 0, 0, 0, 0, 0, 0, 0, 0, 0, 0, 0, 0, 0, 0] 0 (by simp; omega)
  have hsp : splice [0, 0, 0, 0, 0, 0, 0, 0, 0, 0, 0, 0, 0, 0, 0, 0, 0, 0, 0, 0, 0, 0, 0, 0, 0, 0, 0, 0, 0, 0, 0, 0, 0, 0, 0, 0, 0, 0, 0, 0, 0, 0, 0, 0, 0, 0, 0, 0] 0 D = D := by
    unfold splice
    rw [List.take_zero, List.nil_append, Nat.zero_add, hD]
    simp
  rw [hsp] at hst
  have w1 : IntKind.i64.wrap bit = bit := wr_i64 _ (by omega) (by omega)
  have w2 : IntKind.i64.wrap (J : Int) = (J : Int) := wr_i64 _ (by omega) (by omega)
  have hR8 : R ≤ 8 := by omega
  have hRn : ¬ (R : Int) < 0 := by omega
  have hPw : IntKind.u8.wrap (1 * 2 ^ R) = P := by
    rcases (by omega : R = 0 ∨ R = 1 ∨ R = 2 ∨ R = 3 ∨ R = 4 ∨ R = 5 ∨ R = 6 ∨ R = 7) with rfl | rfl | rfl | rfl | rfl | rfl | rfl | rfl <;> (subst hP; rfl)
  have hPw' : IntKind.u8.wrap (2 ^ R) = P := by rw [← hPw, Int.one_mul]
  have h0 : (g ++ [(⟨.tip false, .ints .u8 D⟩ : ABlk), ⟨.tip false, .ints .u8 E⟩])[g.length]? = some ⟨.tip false, .ints .u8 D⟩ := behind_get _ _ _
  have h1 : (g ++ [(⟨.tip false, .ints .u8 D⟩ : ABlk), ⟨.tip false, .ints .u8 E⟩])[g.length + 1]? = some ⟨.tip false, .ints .u8 E⟩ := by rw [List.getElem?_append_right (by omega)]; simp
  have hG : Good (g ++ [(⟨.tip false, .ints .u8 D⟩ : ABlk), ⟨.tip false, .ints .u8 E⟩]) := good_app hg rfl
  have sD : Src (g ++ [(⟨.tip false, .ints .u8 D⟩ : ABlk), ⟨.tip false, .ints .u8 E⟩]) (.sl g.length 0 48 48) D := ⟨hB, g.length, 0, 48, .tip false, D, h0, Or.inr ⟨false, rfl⟩, by omega, by rw [List.drop_zero, List.take_length], Or.inl ⟨by rw [hD], by omega⟩⟩
  have sE : Src (g ++ [(⟨.tip false, .ints .u8 D⟩ : ABlk), ⟨.tip false, .ints .u8 E⟩]) (.sl (g.length + 1) 0 48 48) E := ⟨hBE, g.length + 1, 0, 48, .tip false, E, h1, Or.inr ⟨false, rfl⟩, by omega, by rw [List.drop_zero, List.take_length], Or.inl ⟨by rw [hEl], by omega⟩⟩
  have aw := fun h => law04_alive h
  have hA := ha.app [(⟨.tip false, .ints .u8 D⟩ : ABlk), ⟨.tip false, .ints .u8 E⟩]
  obtain ⟨rv, js, r, eP, rP, gP, rb, rl⟩ := parse_ok hG hA.1 sD hv (by omega) cv.1 cv.2
  obtain ⟨H1, hH1⟩ : ∃ H1, (g ++ [(⟨.tip false, .ints .u8 D⟩ : ABlk), ⟨.tip false, .ints .u8 E⟩]) ++ js = H1 := ⟨_, rfl⟩
  have hA1 := hA.app js
  have sE1 := sE.app js
  rw [hH1] at eP rP gP hA1 sE1
  have hnr : noAny (some rv) = some rv := by obtain ⟨_, _, ⟨rfl, _⟩ | rfl⟩ := rP <;> rfl
  have hG2 : Good (H1 ++ [⟨.tip false, .vals [.int .u8 (v0 / 64), .int .u8 (v0 / 8 % 8), .int .u8 (v0 % 8), .int .u8 v1, .int .i8 (IntKind.i8.wrap v2), .int .i8 (IntKind.i8.wrap v3), .int .u32 v4, .int .u32 v5, .int .u32 v6, .int .u64 v7, .int .u64 v8, .int .u64 v9, .int .u64 v10, .nils, .bool false, .int .u32 0, .int .u64 0]⟩]) := good_app gP rfl
  have eQ := parse_bad hG2 (hA1.app _).1 (sE1.app _) hu (by omega) cu
  obtain ⟨H2, hH2⟩ : ∃ H2, (H1 ++ [(⟨.tip false, .vals [.int .u8 (v0 / 64), .int .u8 (v0 / 8 % 8), .int .u8 (v0 % 8), .int .u8 v1, .int .i8 (IntKind.i8.wrap v2), .int .i8 (IntKind.i8.wrap v3), .int .u32 v4, .int .u32 v5, .int .u32 v6, .int .u64 v7, .int .u64 v8, .int .u64 v9, .int .u64 v10, .nils, .bool false, .int .u32 0, .int .u64 0]⟩ : ABlk)]) = H2 := ⟨_, rfl⟩
  have gQ := hG2
  have b0 : H2[H1.length]? = some ⟨.tip false, .vals [.int .u8 (v0 / 64), .int .u8 (v0 / 8 % 8), .int .u8 (v0 % 8), .int .u8 v1, .int .i8 (IntKind.i8.wrap v2), .int .i8 (IntKind.i8.wrap v3), .int .u32 v4, .int .u32 v5, .int .u32 v6, .int .u64 v7, .int .u64 v8, .int .u64 v9, .int .u64 v10, .nils, .bool false, .int .u32 0, .int .u64 0]⟩ := by rw [← hH2]; exact behind_get _ _ _
  have hnr' : noAny (some AV.nils) = some AV.nils := rfl
  simp only [hH2] at eQ gQ
  have hL1 : g.length + 2 ≤ H1.length := by have := congrArg List.length hH1; simp at this; omega
  have w3 : ¬ H1.length < g.length := by omega
  have hL2 : H1.length < H2.length := (List.getElem?_eq_some_iff.1 b0).1
  have w4 : ¬ H2.length < g.length := by omega
  have g3 : (3 : Int) ≤ (K : Int) := by omega
  have g5 : (K : Int) ≤ 5 := by omega
  simp (maxDischargeDepth := 9) -implicitDefEqProofs only [push_cast, reduceIte, Nat.reduceEqDiff, Nat.reduceAdd, Nat.reduceSub, Nat.reduceMul, Nat.reduceDiv, Nat.reduceMod, Nat.reduceLT, Nat.reduceLeDiff, Nat.reduceBEq, Nat.reduceBNe, reduceCtorEq, Int.reduceEq, Int.reduceNe, Int.reduceLT, Int.reduceLE, Int.reduceToNat, Int.reduceNeg, Int.reduceAdd, Int.reduceSub, Int.reduceMul, Int.reducePow, Nat.reducePow, Int.reduceBEq, M6, nadd1, nadd2, nadd3, nadd4, nadd5, nadd6, nadd7, nadd8, nadd9, nadd10, nadd11, nadd12, w1, w2, kK, kJ, kR, hR8, hRn, hPw, hPw', hmap, ht, ↓ld_eq, ldG_ptr, hl, hst, hD, hd, hz, hE, hJ, aw, hH1, eP, eQ, hH2, hnr, hnr', b0, hL2, w3, w4, g3, g5]
set_option maxHeartbeats 4000000 in
theorem bits_bo {g : AHeap} (hg : Good g) (ha : At0 g) {D E : List Int} {d z bit P : Int} {K J R : Nat} (hD : D.length = 48) (hB : Byt D) (k1 : 0 ≤ bit) (k2 : bit ≤ 65535) (kK : Int.tmod bit 384 = (K : Int)) (kJ : Int.tdiv (K : Int) 8 = (J : Int)) (kR : Int.tmod (K : Int) 8 = (R : Int)) (hJ : J < 48) (hR : R < 8) (hP : P = ((2 ^ R : Nat) : Int)) (hd : D[J]? = some d) (hz : abits .xor .u8 d P = z) (hE : D.set J z = E) (hBE : Byt E) (hEl : E.length = 48) {v0 v1 v2 v3 v4 v5 v6 v7 v8 v9 v10 u0 u1 u2 u3 u4 u5 u6 u7 u8 u9 u10 : Int} (hv : HV D v0 v1 v2 v3 v4 v5 v6 v7 v8 v9 v10) (hu : HV E u0 u1 u2 u3 u4 u5 u6 u7 u8 u9 u10) (cv : ¬ (1 ≤ v0 / 8 % 8 ∧ v0 / 8 % 8 ≤ 4)) (cu : 1 ≤ u0 / 8 % 8 ∧ u0 / 8 % 8 ≤ 4) (h3 : 3 ≤ K ∧ K ≤ 5) :
    Wp (xbody (W CP) M6 [.agg (D.map (AV.int .u8)), .int .u16 bit] g) fun r => r.1 = .bool true := by
  have hmap : (D.map (AV.int .u8)).length = 48 := by rw [List.length_map]; exact hD
  have ht := toInts_map .u8 D
  have hl := loadN_ints (k := .u8) D 48 0 (by omega)
  rw [List.drop_zero] at hl
  have hl := fun h => ldC_ints (h := h) hl
  have hst := storeL_ints (k := .u8) D [0, 0, 0, 0, 0, 0, 0, 0, 0, 0, 0, 0, 0, 0, 0, 0, 0, 0, 0, 0, 0, 0, 0, 0, 0, 0, 0, 0, 0, 0, 0, 0, 0, 0, 0, 0, 0, 0, 0, 0, 0, 0, 0, 0, 0, 0, 0, 0] 0 (by simp; omega)
  have hsp : splice [0, 0, 0, 0, 0, 0, 0, 0, 0, 0, 0, 0, 0, 0, 0, 0, 0, 0, 0, 0, 0, 0, 0, 0, 0, 0, 0, 0, 0, 0, 0, 0, 0, 0, 0, 0, 0, 0, 0, 0, 0, 0, 0, 0, 0, 0, 0, 0] 0 D = D := by
    unfold splice
    rw [List.take_zero, List.nil_append, Nat.zero_add, hD]
    simp
  rw [hsp] at hst
  have w1 : IntKind.i64.wrap bit = bit := wr_i64 _ (by omega) (by omega)
  have w2 : IntKind.i64.wrap (J : Int) = (J : Int) := wr_i64 _ (by omega) (by omega)
  have hR8 : R ≤ 8 := by omega
  have hRn : ¬ (R : Int) < 0 := by omega
  have hPw : IntKind.u8.wrap (1 * 2 ^ R) = P := by
    rcases (by omega : R = 0 ∨ R = 1 ∨ R = 2 ∨ R = 3 ∨ R = 4 ∨ R = 5 ∨ R = 6 ∨ R = 7) with rfl | rfl | rfl | rfl | rfl | rfl | rfl | rfl <;> (subst hP; rfl)
  have hPw' : IntKind.u8.wrap (2 ^ R) = P := by rw [← hPw, Int.one_mul]
  have h0 : (g ++ [(⟨.tip false, .ints .u8 D⟩ : ABlk), ⟨.tip false, .ints .u8 E⟩])[g.length]? = some ⟨.tip false, .ints .u8 D⟩ := behind_get _ _ _
  have h1 : (g ++ [(⟨.tip false, .ints .u8 D⟩ : ABlk), ⟨.tip false, .ints .u8 E⟩])[g.length + 1]? = some ⟨.tip false, .ints .u8 E⟩ := by rw [List.getElem?_append_right (by omega)]; simp
  have hG : Good (g ++ [(⟨.tip false, .ints .u8 D⟩ : ABlk), ⟨.tip false, .ints .u8 E⟩]) := good_app hg rfl
  have sD : Src (g ++ [(⟨.tip false, .ints .u8 D⟩ : ABlk), ⟨.tip false, .ints .u8 E⟩]) (.sl g.length 0 48 48) D := ⟨hB, g.length, 0, 48, .tip false, D, h0, Or.inr ⟨false, rfl⟩, by omega, by rw [List.drop_zero, List.take_length], Or.inl ⟨by rw [hD], by omega⟩⟩
  have sE : Src (g ++ [(⟨.tip false, .ints .u8 D⟩ : ABlk), ⟨.tip false, .ints .u8 E⟩]) (.sl (g.length + 1) 0 48 48) E := ⟨hBE, g.length + 1, 0, 48, .tip false, E, h1, Or.inr ⟨false, rfl⟩, by omega, by rw [List.drop_zero, List.take_length], Or.inl ⟨by rw [hEl], by omega⟩⟩
  have aw := fun h => law04_alive h
  have hA := ha.app [(⟨.tip false, .ints .u8 D⟩ : ABlk), ⟨.tip false, .ints .u8 E⟩]
  have eP := parse_bad hG hA.1 sD hv (by omega) cv
  obtain ⟨H1, hH1⟩ : ∃ H1, (g ++ [(⟨.tip false, .ints .u8 D⟩ : ABlk), ⟨.tip false, .ints .u8 E⟩]) = H1 := ⟨_, rfl⟩
  have gP := hG
  have hA1 := hA
  have sE1 := sE
  have hnr : noAny (some AV.nils) = some AV.nils := rfl
  simp only [hH1] at eP gP hA1 sE1
  have hG2 : Good (H1 ++ [⟨.tip false, .vals [.int .u8 0, .int .u8 0, .int .u8 0, .int .u8 0, .int .i8 0, .int .i8 0, .int .u32 0, .int .u32 0, .int .u32 0, .int .u64 0, .int .u64 0, .int .u64 0, .int .u64 0, .nils, .bool false, .int .u32 0, .int .u64 0]⟩]) := good_app gP rfl
  obtain ⟨rw', ks, r', eQ, rQ, gQ, rb', rl'⟩ := parse_ok hG2 (hA1.app _).1 (sE1.app _) hu (by omega) cu.1 cu.2
  obtain ⟨H2, hH2⟩ : ∃ H2, (H1 ++ [(⟨.tip false, .vals [.int .u8 0, .int .u8 0, .int .u8 0, .int .u8 0, .int .i8 0, .int .i8 0, .int .u32 0, .int .u32 0, .int .u32 0, .int .u64 0, .int .u64 0, .int .u64 0, .int .u64 0, .nils, .bool false, .int .u32 0, .int .u64 0]⟩ : ABlk)]) ++ ks = H2 := ⟨_, rfl⟩
  have b0 : H2[H1.length]? = some ⟨.tip false, .vals [.int .u8 0, .int .u8 0, .int .u8 0, .int .u8 0, .int .i8 0, .int .i8 0, .int .u32 0, .int .u32 0, .int .u32 0, .int .u64 0, .int .u64 0, .int .u64 0, .int .u64 0, .nils, .bool false, .int .u32 0, .int .u64 0]⟩ := by rw [← hH2, List.append_assoc]; exact behind_get _ _ _
  rw [hH2] at eQ rQ gQ
  have hnr' : noAny (some rw') = some rw' := by obtain ⟨_, _, ⟨rfl, _⟩ | rfl⟩ := rQ <;> rfl
  have hL1 : g.length + 2 ≤ H1.length := by have := congrArg List.length hH1; simp at this; omega
  have w3 : ¬ H1.length < g.length := by omega
  have hL2 : H1.length < H2.length := (List.getElem?_eq_some_iff.1 b0).1
  have w4 : ¬ H2.length < g.length := by omega
  have g3 : (3 : Int) ≤ (K : Int) := by omega
  have g5 : (K : Int) ≤ 5 := by omega
  simp (maxDischargeDepth := 9) -implicitDefEqProofs only [push_cast, reduceIte, Nat.reduceEqDiff, Nat.reduceAdd, Nat.reduceSub, Nat.reduceMul, Nat.reduceDiv, Nat.reduceMod, Nat.reduceLT, Nat.reduceLeDiff, Nat.reduceBEq, Nat.reduceBNe, reduceCtorEq, Int.reduceEq, Int.reduceNe, Int.reduceLT, Int.reduceLE, Int.reduceToNat, Int.reduceNeg, Int.reduceAdd, Int.reduceSub, Int.reduceMul, Int.reducePow, Nat.reducePow, Int.reduceBEq, M6, nadd1, nadd2, nadd3, nadd4, nadd5, nadd6, nadd7, nadd8, nadd9, nadd10, nadd11, nadd12, w1, w2, kK, kJ, kR, hR8, hRn, hPw, hPw', hmap, ht, ↓ld_eq, ldG_ptr, hl, hst, hD, hd, hz, hE, hJ, aw, hH1, eP, eQ, hH2, hnr, hnr', b0, hL2, w3, w4, g3, g5]
set_option maxHeartbeats 4000000 in
theorem bits_bb {g : AHeap} (hg : Good g) (ha : At0 g) {D E : List Int} {d z bit P : Int} {K J R : Nat} (hD : D.length = 48) (hB : Byt D) (k1 : 0 ≤ bit) (k2 : bit ≤ 65535) (kK : Int.tmod bit 384 = (K : Int)) (kJ : Int.tdiv (K : Int) 8 = (J : Int)) (kR : Int.tmod (K : Int) 8 = (R : Int)) (hJ : J < 48) (hR : R < 8) (hP : P = ((2 ^ R : Nat) : Int)) (hd : D[J]? = some d) (hz : abits .xor .u8 d P = z) (hE : D.set J z = E) (hBE : Byt E) (hEl : E.length = 48) {v0 v1 v2 v3 v4 v5 v6 v7 v8 v9 v10 u0 u1 u2 u3 u4 u5 u6 u7 u8 u9 u10 : Int} (hv : HV D v0 v1 v2 v3 v4 v5 v6 v7 v8 v9 v10) (hu : HV E u0 u1 u2 u3 u4 u5 u6 u7 u8 u9 u10) (cv : ¬ (1 ≤ v0 / 8 % 8 ∧ v0 / 8 % 8 ≤ 4)) (cu : ¬ (1 ≤ u0 / 8 % 8 ∧ u0 / 8 % 8 ≤ 4)) :
    Wp (xbody (W CP) M6 [.agg (D.map (AV.int .u8)), .int .u16 bit] g) fun r => r.1 = .bool true := by
  have hmap : (D.map (AV.int .u8)).length = 48 := by rw [List.length_map]; exact hD
  have ht := toInts_map .u8 D
  have hl := loadN_ints (k := .u8) D 48 0 (by omega)
  rw [List.drop_zero] at hl
  have hl := fun h => ldC_ints (h := h) hl
  have hst := storeL_ints (k := .u8) D [0, 0, 0, 0, 0, 0, 0, 0, 0, 0, 0, 0, 0, 0, 0, 0, 0, 0, 0, 0, 0, 0, 0, 0, 0, 0, 0, 0, 0, 0, 0, 0, 0, 0, 0, 0, 0, 0, 0, 0, 0, 0, 0, 0, 0, 0, 0, 0] 0 (by simp; omega)
  have hsp : splice [0, 0, 0, 0, 0, 0, 0, 0, 0, 0, 0, 0, 0, 0, 0, 0, 0, 0, 0, 0, 0, 0, 0, 0, 0, 0, 0, 0, 0, 0, 0, 0, 0, 0, 0, 0, 0, 0, 0, 0, 0, 0, 0, 0, 0, 0, 0, 0] 0 D = D := by
    unfold splice
    rw [List.take_zero, List.nil_append, Nat.zero_add, hD]
    simp
  rw [hsp] at hst
  have w1 : IntKind.i64.wrap bit = bit := wr_i64 _ (by omega) (by omega)
  have w2 : IntKind.i64.wrap (J : Int) = (J : Int) := wr_i64 _ (by omega) (by omega)
  have hR8 : R ≤ 8 := by omega
  have hRn : ¬ (R : Int) < 0 := by omega
  have hPw : IntKind.u8.wrap (1 * 2 ^ R) = P := by
    rcases (by omega : R = 0 ∨ R = 1 ∨ R = 2 ∨ R = 3 ∨ R = 4 ∨ R = 5 ∨ R = 6 ∨ R = 7) with rfl | rfl | rfl | rfl | rfl | rfl | rfl | rfl <;> (subst hP; rfl)
  have hPw' : IntKind.u8.wrap (2 ^ R) = P := by rw [← hPw, Int.one_mul]
  have h0 : (g ++ [(⟨.tip false, .ints .u8 D⟩ : ABlk), ⟨.tip false, .ints .u8 E⟩])[g.length]? = some ⟨.tip false, .ints .u8 D⟩ := behind_get _ _ _
  have h1 : (g ++ [(⟨.tip false, .ints .u8 D⟩ : ABlk), ⟨.tip false, .ints .u8 E⟩])[g.length + 1]? = some ⟨.tip false, .ints .u8 E⟩ := by rw [List.getElem?_append_right (by omega)]; simp
  have hG : Good (g ++ [(⟨.tip false, .ints .u8 D⟩ : ABlk), ⟨.tip false, .ints .u8 E⟩]) := good_app hg rfl
  have sD : Src (g ++ [(⟨.tip false, .ints .u8 D⟩ : ABlk), ⟨.tip false, .ints .u8 E⟩]) (.sl g.length 0 48 48) D := ⟨hB, g.length, 0, 48, .tip false, D, h0, Or.inr ⟨false, rfl⟩, by omega, by rw [List.drop_zero, List.take_length], Or.inl ⟨by rw [hD], by omega⟩⟩
  have sE : Src (g ++ [(⟨.tip false, .ints .u8 D⟩ : ABlk), ⟨.tip false, .ints .u8 E⟩]) (.sl (g.length + 1) 0 48 48) E := ⟨hBE, g.length + 1, 0, 48, .tip false, E, h1, Or.inr ⟨false, rfl⟩, by omega, by rw [List.drop_zero, List.take_length], Or.inl ⟨by rw [hEl], by omega⟩⟩
  have aw := fun h => law04_alive h
  have hA := ha.app [(⟨.tip false, .ints .u8 D⟩ : ABlk), ⟨.tip false, .ints .u8 E⟩]
  have eP := parse_bad hG hA.1 sD hv (by omega) cv
  obtain ⟨H1, hH1⟩ : ∃ H1, (g ++ [(⟨.tip false, .ints .u8 D⟩ : ABlk), ⟨.tip false, .ints .u8 E⟩]) = H1 := ⟨_, rfl⟩
  have gP := hG
  have hA1 := hA
  have sE1 := sE
  have hnr : noAny (some AV.nils) = some AV.nils := rfl
  simp only [hH1] at eP gP hA1 sE1
  have hG2 : Good (H1 ++ [⟨.tip false, .vals [.int .u8 0, .int .u8 0, .int .u8 0, .int .u8 0, .int .i8 0, .int .i8 0, .int .u32 0, .int .u32 0, .int .u32 0, .int .u64 0, .int .u64 0, .int .u64 0, .int .u64 0, .nils, .bool false, .int .u32 0, .int .u64 0]⟩]) := good_app gP rfl
  have eQ := parse_bad hG2 (hA1.app _).1 (sE1.app _) hu (by omega) cu
  obtain ⟨H2, hH2⟩ : ∃ H2, (H1 ++ [(⟨.tip false, .vals [.int .u8 0, .int .u8 0, .int .u8 0, .int .u8 0, .int .i8 0, .int .i8 0, .int .u32 0, .int .u32 0, .int .u32 0, .int .u64 0, .int .u64 0, .int .u64 0, .int .u64 0, .nils, .bool false, .int .u32 0, .int .u64 0]⟩ : ABlk)]) = H2 := ⟨_, rfl⟩
  have gQ := hG2
  have b0 : H2[H1.length]? = some ⟨.tip false, .vals [.int .u8 0, .int .u8 0, .int .u8 0, .int .u8 0, .int .i8 0, .int .i8 0, .int .u32 0, .int .u32 0, .int .u32 0, .int .u64 0, .int .u64 0, .int .u64 0, .int .u64 0, .nils, .bool false, .int .u32 0, .int .u64 0]⟩ := by rw [← hH2]; exact behind_get _ _ _
  have hnr' : noAny (some AV.nils) = some AV.nils := rfl
  simp only [hH2] at eQ gQ
  have hL1 : g.length + 2 ≤ H1.length := by have := congrArg List.length hH1; simp at this; omega
  have w3 : ¬ H1.length < g.length := by omega
  have hL2 : H1.length < H2.length := (List.getElem?_eq_some_iff.1 b0).1
  have w4 : ¬ H2.length < g.length := by omega
  have hsame := set_same b0
  by_cases g3 : (3 : Int) ≤ (K : Int) <;> by_cases g5 : (K : Int) ≤ 5
  all_goals simp (maxDischargeDepth := 9) -implicitDefEqProofs only [push_cast, reduceIte, Nat.reduceEqDiff, Nat.reduceAdd, Nat.reduceSub, Nat.reduceMul, Nat.reduceDiv, Nat.reduceMod, Nat.reduceLT, Nat.reduceLeDiff, Nat.reduceBEq, Nat.reduceBNe, reduceCtorEq, Int.reduceEq, Int.reduceNe, Int.reduceLT, Int.reduceLE, Int.reduceToNat, Int.reduceNeg, Int.reduceAdd, Int.reduceSub, Int.reduceMul, Int.reducePow, Nat.reducePow, Int.reduceBEq, M6, nadd1, nadd2, nadd3, nadd4, nadd5, nadd6, nadd7, nadd8, nadd9, nadd10, nadd11, nadd12, w1, w2, kK, kJ, kR, hR8, hRn, hPw, hPw', hmap, ht, ↓ld_eq, ldG_ptr, hl, hst, hD, hd, hz, hE, hJ, aw, hH1, eP, eQ, hH2, hnr, hnr', b0, hL2, w3, w4, g3, g5, hsame]
theorem tyL_byt {h : AHeap} : ∀ {ks : List CK} {D : List Int}, TyL h ks (D.map (AV.int .u8)) → Byt D
  | [], [], _ => by intro x hx; simp at hx
  | [], _ :: _, ht => by simp [TyL] at ht
  | k :: ks, [], ht => by simp [TyL] at ht
  | k :: ks, d :: D, ht => by
    simp only [TyL, List.map_cons, List.cons.injEq] at ht
    obtain ⟨v, vs, ⟨rfl, rfl⟩, h1, h2⟩ := ht
    have h3 := tyL_byt h2
    have hd : 0 ≤ d ∧ d < 256 := by
      cases k with
      | i k =>
        simp only [Ty] at h1
        obtain ⟨n, e, n0, n1⟩ := h1
        cases e
        have a : 0 ≤ d := n0
        have b : d ≤ 255 := n1
        omega
      | b => simp [Ty] at h1
      | s => simp [Ty] at h1
      | sl l => simp [Ty] at h1
    intro x hx
    rcases List.mem_cons.1 hx with rfl | hx
    · exact hd
    · exact h3 x hx
theorem bits_body {g : AHeap} (hg : Good g) (ha : At0 g) {D : List Int} (hD : D.length = 48) (hB : Byt D) {bit : Int} (k1 : 0 ≤ bit) (k2 : bit ≤ 65535) : Wp (xbody (W CP) M6 [.agg (D.map (AV.int .u8)), .int .u16 bit] g) fun r => r.1 = .bool true := by
  obtain ⟨K, kK, hK⟩ : ∃ K : Nat, Int.tmod bit 384 = (K : Int) ∧ K < 384 := ⟨(bit % 384).toNat, by rw [Int.tmod_eq_emod_of_nonneg k1]; omega, by omega⟩
  obtain ⟨J, kJ, hJ, hJ'⟩ : ∃ J : Nat, Int.tdiv (K : Int) 8 = (J : Int) ∧ J < 48 ∧ J = K / 8 := ⟨K / 8, by rw [Int.tdiv_eq_ediv_of_nonneg (by omega)]; omega, by omega, rfl⟩
  obtain ⟨R, kR, hR, hR'⟩ : ∃ R : Nat, Int.tmod (K : Int) 8 = (R : Int) ∧ R < 8 ∧ R = K % 8 := ⟨K % 8, by rw [Int.tmod_eq_emod_of_nonneg (by omega)]; omega, by omega, rfl⟩
  obtain ⟨d, hd⟩ : ∃ d, D[J]? = some d := ⟨_, List.getElem?_eq_getElem (by omega)⟩
  obtain ⟨d0, d1⟩ := hB d (List.mem_of_getElem? hd)
  obtain ⟨P, hP⟩ : ∃ P : Int, P = ((2 ^ R : Nat) : Int) := ⟨_, rfl⟩
  obtain ⟨⟨z0, z1⟩, z2, z3⟩ := xor_at d0 d1 hR hP
  obtain ⟨z, hz⟩ : ∃ z, abits .xor .u8 d P = z := ⟨_, rfl⟩
  rw [hz] at z0 z1 z2 z3
  obtain ⟨E, hE⟩ : ∃ E, D.set J z = E := ⟨_, rfl⟩
  have hEl : E.length = 48 := by rw [← hE, List.length_set]; exact hD
  have hBE : Byt E := by
    intro x hx
    rw [← hE] at hx
    rcases List.mem_or_eq_of_mem_set hx with hx | rfl
    · exact hB x hx
    · exact ⟨z0, z1⟩
  have hne : D ≠ E := by
    intro h
    rw [← hE] at h
    have h1 := congrArg (fun l => l[J]?) h
    simp only [List.getElem?_set_self (show J < D.length by omega), hd, Option.some.injEq] at h1
    exact z2 h1.symm
  obtain ⟨v0, v1, v2, v3, v4, v5, v6, v7, v8, v9, v10, hv⟩ := HV.mk' hB (show 48 ≤ D.length by omega)
  obtain ⟨u0, u1, u2, u3, u4, u5, u6, u7, u8, u9, u10, hu⟩ := HV.mk' hBE (show 48 ≤ E.length by omega)
  have hver : ¬ (3 ≤ K ∧ K ≤ 5) → u0 / 8 % 8 = v0 / 8 % 8 := by
    intro h3
    have hv0 := hv.at.1
    have hu0 := hu.at.1
    rw [← hE] at hu0
    by_cases j0 : J = 0
    · subst j0
      rw [hd] at hv0
      rw [List.getElem?_set_self (by omega)] at hu0
      cases hv0; cases hu0
      exact z3 (by omega)
    · rw [List.getElem?_set_ne j0, hv0] at hu0
      cases hu0
      rfl
  by_cases cv : 1 ≤ v0 / 8 % 8 ∧ v0 / 8 % 8 ≤ 4 <;> by_cases cu : 1 ≤ u0 / 8 % 8 ∧ u0 / 8 % 8 ≤ 4
  · exact bits_oo hg ha hD hB k1 k2 kK kJ kR hJ hR hP hd hz hE hBE hEl hv hu cv cu hne
  · refine bits_ob hg ha hD hB k1 k2 kK kJ kR hJ hR hP hd hz hE hBE hEl hv hu cv cu (Classical.byContradiction fun h => ?_)
    rw [hver h] at cu; exact cu cv
  · refine bits_bo hg ha hD hB k1 k2 kK kJ kR hJ hR hP hd hz hE hBE hEl hv hu cv cu (Classical.byContradiction fun h => ?_)
    rw [hver h] at cu; exact cv cu
  · exact bits_bb hg ha hD hB k1 k2 kK kJ kR hJ hR hP hd hz hE hBE hEl hv hu cv cu
theorem bits_law (js : AHeap) (avs : List AV) (hx : Ext js) (ht : TyA (CP.gl ++ js) [.agg [.i .u8, .i .u8, .i .u8, .i .u8, .i .u8, .i .u8, .i .u8, .i .u8, .i .u8, .i .u8, .i .u8, .i .u8, .i .u8, .i .u8, .i .u8, .i .u8, .i .u8, .i .u8, .i .u8, .i .u8, .i .u8, .i .u8, .i .u8, .i .u8, .i .u8, .i .u8, .i .u8, .i .u8, .i .u8, .i .u8, .i .u8, .i .u8, .i .u8, .i .u8, .i .u8, .i .u8, .i .u8, .i .u8, .i .u8, .i .u8, .i .u8, .i .u8, .i .u8, .i .u8, .i .u8, .i .u8, .i .u8, .i .u8], .one (.i .u16)] avs) : ∃ h' ws, W CP 6 avs (CP.gl ++ js) = some (.bool true, h', ws) := by
  simp only [TyA] at ht
  obtain ⟨cs, _, rfl, k0, _, _, rfl, k1, rfl⟩ := ht
  have hcs := TyL_int (k := .u8) rfl k0
  have hcl := (TyL_lt k0).2.2
  simp only [Ty] at k1
  obtain ⟨bit, rfl, b0, b1⟩ := k1
  have b0' : 0 ≤ bit := b0
  have b1' : bit ≤ 65535 := b1
  obtain ⟨D, hD⟩ : ∃ D, cs.map toI = D := ⟨_, rfl⟩
  have hmm : cs = D.map (AV.int .u8) := by rw [← hD, List.map_map]; exact hcs
  have hBD : Byt D := by rw [hmm] at k0; exact tyL_byt k0
  have hDl : D.length = 48 := by rw [← hD, List.length_map, hcl]; rfl
  subst hmm
  exact W_law (m := M6) (fun _ => rfl) rfl (bits_body (good_ext hx) (At0_ext hx) hDl hBD b0' b1') fun _ => bits_body good_gl At0_gl hDl hBD b0' b1'
theorem bits_kinds : aksOf X.P 20 [43, 44] = some [.agg [.i .u8, .i .u8, .i .u8, .i .u8, .i .u8, .i .u8, .i .u8, .i .u8, .i .u8, .i .u8, .i .u8, .i .u8, .i .u8, .i .u8, .i .u8, .i .u8, .i .u8, .i .u8, .i .u8, .i .u8, .i .u8, .i .u8, .i .u8, .i .u8, .i .u8, .i .u8, .i .u8, .i .u8, .i .u8, .i .u8, .i .u8, .i .u8, .i .u8, .i .u8, .i .u8, .i .u8, .i .u8, .i .u8, .i .u8, .i .u8, .i .u8, .i .u8, .i .u8, .i .u8, .i .u8, .i .u8, .i .u8, .i .u8], .one (.i .u16)] := by kernel_rfl
end Go.Proofs.YtpmibaeajmfdpaaDoorW.AI.H

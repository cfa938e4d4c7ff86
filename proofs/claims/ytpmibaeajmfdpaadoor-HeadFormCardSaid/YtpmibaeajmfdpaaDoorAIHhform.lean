import Derived.Test.YtpmibaeajmfdpaaDoorAIHhbits
namespace Go.Proofs.YtpmibaeajmfdpaaDoorW.AI.H
open Go Go.Proofs.YtpmibaeajmfdpaaDoorW.AI Go.Proofs.YtpmibaeajmfdpaaDoorW.AI.Oct
set_option maxRecDepth 100000
set_option linter.unusedSimpArgs false
set_option linter.unusedVariables false
set_option linter.unusedSectionVars false
def form2 : MCode := .seq (.reg [⟨some 82, .mv (.t 2), none⟩,
  ⟨some 83, .call 15 [(.t 82)], none⟩,
  ⟨some 81, .mv (.t 83), none⟩,
  ⟨some 84, .ex 0 (.t 81), none⟩,
  ⟨some 85, .ex 1 (.t 81), none⟩,
  ⟨some 86, .ex 2 (.t 81), none⟩,
  ⟨some 12, .al (.vals [(.int .u8 0), (.int .u8 0), (.int .u8 0), (.int .u8 0), (.int .i8 0), (.int .i8 0), (.int .u32 0), (.int .u32 0), (.int .u32 0), (.int .u64 0), (.int .u64 0), (.int .u64 0), (.int .u64 0), .nils, (.bool false), (.int .u32 0), (.int .u64 0)]), none⟩,
  ⟨none, .st 17 (.t 12) (.t 84), none⟩,
  ⟨some 13, .mv (.t 85), none⟩,
  ⟨some 14, .mv (.t 86), none⟩])
 (.seq (.seq (.reg [⟨some 87, .mv (.t 14), none⟩,
  ⟨some 88, .bin .neq [] (.t 87) (.c (.int .i64 0)), none⟩])
 (.cond (.t 88)
 (.seq (.reg [⟨some 89, .mv (.t 2), none⟩,
  ⟨some 90, .len none (.t 89), none⟩,
  ⟨some 91, .bin .lss [] (.t 90) (.c (.int .i64 48)), none⟩,
  ⟨some 15, .mv (.t 91), none⟩])
 (.seq (.reg [⟨some 92, .mv (.t 14), none⟩,
  ⟨some 93, .bin .eql [] (.t 92) (.c (.int .i64 4)), none⟩,
  ⟨some 94, .mv (.t 15), none⟩,
  ⟨some 95, .bin .eql [1] (.t 93) (.t 94), none⟩,
  ⟨some 96, .mv (.t 95), none⟩,
  ⟨some 97, .mv (.t 14), some (96, true)⟩,
  ⟨some 98, .bin .eql [] (.t 97) (.c (.int .i64 5)), some (96, true)⟩,
  ⟨some 99, .mv (.t 15), some (96, true)⟩,
  ⟨some 100, .un .not (.t 99), some (96, true)⟩,
  ⟨some 101, .bin .eql [1] (.t 98) (.t 100), some (96, true)⟩,
  ⟨some 102, .pick (.t 96) (.t 101) (.c (.bool false)), none⟩,
  ⟨some 103, .mv (.t 102), none⟩,
  ⟨some 104, .ld (some 17) (.t 12), some (103, true)⟩,
  ⟨some 105, .bld [(.int .u8 0), (.int .u8 0), (.int .u8 0), (.int .u8 0), (.int .i8 0), (.int .i8 0), (.int .u32 0), (.int .u32 0), (.int .u32 0), (.int .u64 0), (.int .u64 0), (.int .u64 0), (.int .u64 0), .nils, (.bool false), (.int .u32 0), (.int .u64 0)] [], some (103, true)⟩,
  ⟨some 106, .call 12 [(.t 104), (.t 105)], some (103, true)⟩,
  ⟨some 107, .pick (.t 103) (.t 106) (.c (.bool false)), none⟩,
  ⟨some 108, .mv (.t 107), none⟩,
  ⟨some 109, .mv (.t 13), some (108, true)⟩,
  ⟨some 110, .len none (.t 109), some (108, true)⟩,
  ⟨some 111, .bin .eql [] (.t 110) (.c (.int .i64 0)), some (108, true)⟩,
  ⟨some 112, .pick (.t 108) (.t 111) (.c (.bool false)), none⟩,
  ⟨some 113, .mv (.t 112), none⟩,
  ⟨some 114, .call 14 [], some (113, true)⟩,
  ⟨some 115, .pick (.t 113) (.t 114) (.c (.bool false)), none⟩,
  ⟨some 6, .mv (.t 115), none⟩])
 (.ret)))
 (.skip)))
 (.seq (.reg [⟨some 117, .ld (some 17) (.t 12), none⟩,
  ⟨some 118, .call 8 [(.t 117)], none⟩,
  ⟨some 116, .mv (.t 118), none⟩,
  ⟨some 119, .ex 0 (.t 116), none⟩,
  ⟨some 120, .ex 1 (.t 116), none⟩,
  ⟨some 16, .mv (.t 119), none⟩,
  ⟨some 17, .mv (.t 120), none⟩])
 (.seq (.reg [⟨some 121, .mv (.t 17), none⟩,
  ⟨some 122, .bin .eql [] (.t 121) (.c (.int .i64 0)), none⟩,
  ⟨some 123, .mv (.t 122), none⟩,
  ⟨some 124, .mv (.t 16), some (123, true)⟩,
  ⟨some 125, .cstr (.t 124), some (123, true)⟩,
  ⟨some 126, .mv (.t 13), some (123, true)⟩,
  ⟨some 127, .cstr (.t 126), some (123, true)⟩,
  ⟨some 128, .bin .add [] (.t 125) (.t 127), some (123, true)⟩,
  ⟨some 129, .mv (.t 2), some (123, true)⟩,
  ⟨some 130, .cstr (.t 129), some (123, true)⟩,
  ⟨some 131, .bin .eql [] (.t 128) (.t 130), some (123, true)⟩,
  ⟨some 132, .pick (.t 123) (.t 131) (.c (.bool false)), none⟩,
  ⟨some 133, .mv (.t 132), none⟩,
  ⟨some 134, .call 14 [], some (133, true)⟩,
  ⟨some 135, .pick (.t 133) (.t 134) (.c (.bool false)), none⟩,
  ⟨some 6, .mv (.t 135), none⟩])
 (.ret))))
theorem form_parts : M5 = ⟨.seq (.reg [⟨some 3, .bx none 17 (.t 0), none⟩,
  ⟨some 6, .mv (.c (.bool false)), none⟩])
 (.seq (.regd [(0, ⟨some 18, .mv (.t 1), none⟩),
  (1, ⟨some 19, .mv (.t 1), none⟩),
  (2, ⟨some 20, .len none (.t 19), none⟩),
  (3, ⟨some 21, .mnx false [(.t 20), (.c (.int .i64 100))], none⟩),
  (4, ⟨some 22, .slc none 1 (.t 18) none (some (.t 21)) none, none⟩),
  (5, ⟨some 23, .mv (.t 2), none⟩),
  (6, ⟨some 24, .mv (.t 2), none⟩),
  (7, ⟨some 25, .len none (.t 24), none⟩),
  (8, ⟨some 26, .mnx false [(.t 25), (.c (.int .i64 100))], none⟩),
  (9, ⟨some 27, .slc none 1 (.t 23) none (some (.t 26)) none, none⟩),
  (10, ⟨some 1, .mv (.t 22), none⟩),
  (11, ⟨some 2, .mv (.t 27), none⟩)] [])
 (.seq (.reg [⟨some 29, .ld (some 17) (.t 3), none⟩,
  ⟨some 30, .call 8 [(.t 29)], none⟩,
  ⟨some 28, .mv (.t 30), none⟩,
  ⟨some 31, .ex 0 (.t 28), none⟩,
  ⟨some 32, .ex 1 (.t 28), none⟩,
  ⟨some 7, .mv (.t 31), none⟩,
  ⟨some 8, .mv (.t 32), none⟩])
 (.seq (.seq (.reg [⟨some 33, .mv (.t 8), none⟩,
  ⟨some 34, .bin .eql [] (.t 33) (.c (.int .i64 0)), none⟩,
  ⟨some 35, .ld (some 17) (.t 3), none⟩,
  ⟨some 36, .call 10 [(.t 35)], none⟩,
  ⟨some 37, .bin .neq [1] (.t 34) (.t 36), none⟩,
  ⟨some 38, .mv (.t 37), none⟩,
  ⟨some 39, .mv (.t 8), some (38, false)⟩,
  ⟨some 40, .bin .neq [] (.t 39) (.c (.int .i64 0)), some (38, false)⟩,
  ⟨some 41, .mv (.t 40), some (38, false)⟩,
  ⟨some 42, .mv (.t 8), some (41, true)⟩,
  ⟨some 43, .bin .neq [] (.t 42) (.c (.int .i64 1)), some (41, true)⟩,
  ⟨some 44, .mv (.t 43), some (41, true)⟩,
  ⟨some 45, .mv (.t 7), some (44, false)⟩,
  ⟨some 46, .len none (.t 45), some (44, false)⟩,
  ⟨some 47, .bin .neq [] (.t 46) (.c (.int .i64 0)), some (44, false)⟩,
  ⟨some 48, .pick (.t 44) (.c (.bool true)) (.t 47), some (41, true)⟩,
  ⟨some 49, .pick (.t 41) (.t 48) (.c (.bool false)), some (38, false)⟩,
  ⟨some 50, .pick (.t 38) (.c (.bool true)) (.t 49), none⟩])
 (.cond (.t 50)
 (.seq (.reg [⟨some 6, .mv (.c (.bool false)), none⟩])
 (.ret))
 (.skip)))
 (.seq (.seq (.reg [⟨some 51, .mv (.t 8), none⟩,
  ⟨some 52, .bin .eql [] (.t 51) (.c (.int .i64 0)), none⟩])
 (.cond (.t 52)
 (.seq (.reg [⟨some 54, .mv (.t 7), none⟩,
  ⟨some 55, .mv (.t 1), none⟩,
  ⟨some 56, .app (.ints .u8 [0]) 1 (.t 54) (.t 55), none⟩,
  ⟨some 57, .call 15 [(.t 56)], none⟩,
  ⟨some 53, .mv (.t 57), none⟩,
  ⟨some 58, .ex 0 (.t 53), none⟩,
  ⟨some 59, .ex 1 (.t 53), none⟩,
  ⟨some 60, .ex 2 (.t 53), none⟩,
  ⟨some 9, .al (.vals [(.int .u8 0), (.int .u8 0), (.int .u8 0), (.int .u8 0), (.int .i8 0), (.int .i8 0), (.int .u32 0), (.int .u32 0), (.int .u32 0), (.int .u64 0), (.int .u64 0), (.int .u64 0), (.int .u64 0), .nils, (.bool false), (.int .u32 0), (.int .u64 0)]), none⟩,
  ⟨none, .st 17 (.t 9) (.t 58), none⟩,
  ⟨some 10, .mv (.t 59), none⟩,
  ⟨some 11, .mv (.t 60), none⟩])
 (.seq (.reg [⟨some 61, .mv (.t 7), none⟩,
  ⟨some 62, .len none (.t 61), none⟩,
  ⟨some 63, .bin .neq [] (.t 62) (.c (.int .i64 48)), none⟩,
  ⟨some 64, .mv (.t 63), none⟩,
  ⟨some 65, .mv (.t 11), some (64, false)⟩,
  ⟨some 66, .bin .neq [] (.t 65) (.c (.int .i64 0)), some (64, false)⟩,
  ⟨some 67, .pick (.t 64) (.c (.bool true)) (.t 66), none⟩,
  ⟨some 68, .mv (.t 67), none⟩,
  ⟨some 69, .ld (some 17) (.t 3), some (68, false)⟩,
  ⟨some 70, .ld (some 17) (.t 9), some (68, false)⟩,
  ⟨some 71, .call 12 [(.t 69), (.t 70)], some (68, false)⟩,
  ⟨some 72, .un .not (.t 71), some (68, false)⟩,
  ⟨some 73, .pick (.t 68) (.c (.bool true)) (.t 72), none⟩,
  ⟨some 74, .mv (.t 73), none⟩,
  ⟨some 75, .mv (.t 10), some (74, false)⟩,
  ⟨some 76, .cstr (.t 75), some (74, false)⟩,
  ⟨some 77, .mv (.t 1), some (74, false)⟩,
  ⟨some 78, .cstr (.t 77), some (74, false)⟩,
  ⟨some 79, .bin .neq [] (.t 76) (.t 78), some (74, false)⟩,
  ⟨some 80, .pick (.t 74) (.c (.bool true)) (.t 79), none⟩])
 (.cond (.t 80)
 (.seq (.reg [⟨some 6, .mv (.c (.bool false)), none⟩])
 (.ret))
 (.skip))))
 (.skip)))
 form2)))),
 [.tmp 6], true⟩ := rfl
theorem size_le {a b : List Int} (h : a.length + b.length ≤ 1000000) : ((sb (bsOf a)).size + (sb (bsOf b)).size ≤ 9223372036854775807) = True := by
  simp only [sb_size, bsOf, List.length_map]
  exact eq_true (by omega)
theorem sb_two (a b : List Int) : sb (bsOf a) ++ sb (bsOf b) = sb (bsOf (a ++ b)) := by
  rw [sb_append]; simp [bsOf]
theorem zsame_c {h : AHeap} (hg : Good h) : W CP 12 [.agg [.int .u8 0, .int .u8 0, .int .u8 0, .int .u8 0, .int .i8 0, .int .i8 0, .int .u32 0, .int .u32 0, .int .u32 0, .int .u64 0, .int .u64 0, .int .u64 0, .int .u64 0, .nils, .bool false, .int .u32 0, .int .u64 0], .agg [.int .u8 0, .int .u8 0, .int .u8 0, .int .u8 0, .int .i8 0, .int .i8 0, .int .u32 0, .int .u32 0, .int .u32 0, .int .u64 0, .int .u64 0, .int .u64 0, .int .u64 0, .nils, .bool false, .int .u32 0, .int .u64 0]] h = some (.bool true, h, []) := by
  rw [same_c rfl rfl hg]; rfl
/-- What an end of the law is. -/
def Ends (o : AOut) : Prop := ∃ a h ws, o = (.ret, a, h, ws) ∧ look a 6 = some (.bool true)
set_option maxHeartbeats 4000000 in
theorem form2_short {X : AHeap} (hg : Good X) (ha : At0 X) {a : Acts} {bv : AV} {n base : Nat} {ws : List Nat} (h2 : look a 2 = some bv) (hb : slen bv = some n) (hn : n < 48) : Wp (xexec (W CP) base form2 a X ws) Ends := by
  have eP := parse_short hg hb hn
  have hnb := na_slen hb
  have hl : (n : Int) < 48 := by omega
  have eS := zsame_c (good_app (js := [⟨.tip false, .vals [.int .u8 0, .int .u8 0, .int .u8 0, .int .u8 0, .int .i8 0, .int .i8 0, .int .u32 0, .int .u32 0, .int .u32 0, .int .u64 0, .int .u64 0, .int .u64 0, .int .u64 0, .nils, .bool false, .int .u32 0, .int .u64 0]⟩]) hg rfl)
  have aw := fun h => law04_alive h
  simp (maxDischargeDepth := 9) -implicitDefEqProofs only [push_cast, reduceIte, Nat.reduceEqDiff, Nat.reduceAdd, Nat.reduceSub, Nat.reduceMul, Nat.reduceDiv, Nat.reduceMod, Nat.reduceLT, Nat.reduceLeDiff, Nat.reduceBEq, Nat.reduceBNe, reduceCtorEq, Int.reduceEq, Int.reduceNe, Int.reduceLT, Int.reduceLE, Int.reduceToNat, Int.reduceNeg, Int.reduceAdd, Int.reduceSub, Int.reduceMul, Int.reducePow, Nat.reducePow, Int.reduceBEq, form2, nadd1, nadd2, nadd3, nadd4, nadd5, nadd6, nadd7, nadd8, nadd9, nadd10, nadd11, nadd12, h2, hnb, hb, hl, eP, eS, aw]
  exact ⟨_, _, _, rfl, by simp (maxDischargeDepth := 9) -implicitDefEqProofs only [push_cast, reduceIte, Nat.reduceEqDiff, Nat.reduceAdd, Nat.reduceSub, Nat.reduceMul, Nat.reduceDiv, Nat.reduceMod, Nat.reduceLT, Nat.reduceLeDiff, Nat.reduceBEq, Nat.reduceBNe, reduceCtorEq, Int.reduceEq, Int.reduceNe, Int.reduceLT, Int.reduceLE, Int.reduceToNat, Int.reduceNeg, Int.reduceAdd, Int.reduceSub, Int.reduceMul, Int.reducePow, Nat.reducePow, Int.reduceBEq]⟩
set_option maxHeartbeats 4000000 in
theorem form2_bad {X : AHeap} (hg : Good X) (ha : At0 X) {a : Acts} {bv : AV} {base : Nat} {ws : List Nat} {D : List Int} {v0 v1 v2 v3 v4 v5 v6 v7 v8 v9 v10 : Int} (h2 : look a 2 = some bv) (hs : Src X bv D) (hD : D.length ≤ 100) (hv : HV D v0 v1 v2 v3 v4 v5 v6 v7 v8 v9 v10) (c : ¬ (1 ≤ v0 / 8 % 8 ∧ v0 / 8 % 8 ≤ 4)) : Wp (xexec (W CP) base form2 a X ws) Ends := by
  have eP := parse_bad hg ha.1 hs hv (by omega) c
  have hb := hs.len
  have hnb := na_slen hb
  have hl : ¬ (D.length : Int) < 48 := by have := hv.l; omega
  have eS := zsame_c (good_app (js := [⟨.tip false, .vals [.int .u8 0, .int .u8 0, .int .u8 0, .int .u8 0, .int .i8 0, .int .i8 0, .int .u32 0, .int .u32 0, .int .u32 0, .int .u64 0, .int .u64 0, .int .u64 0, .int .u64 0, .nils, .bool false, .int .u32 0, .int .u64 0]⟩]) hg rfl)
  have aw := fun h => law04_alive h
  simp (maxDischargeDepth := 9) -implicitDefEqProofs only [push_cast, reduceIte, Nat.reduceEqDiff, Nat.reduceAdd, Nat.reduceSub, Nat.reduceMul, Nat.reduceDiv, Nat.reduceMod, Nat.reduceLT, Nat.reduceLeDiff, Nat.reduceBEq, Nat.reduceBNe, reduceCtorEq, Int.reduceEq, Int.reduceNe, Int.reduceLT, Int.reduceLE, Int.reduceToNat, Int.reduceNeg, Int.reduceAdd, Int.reduceSub, Int.reduceMul, Int.reducePow, Nat.reducePow, Int.reduceBEq, form2, nadd1, nadd2, nadd3, nadd4, nadd5, nadd6, nadd7, nadd8, nadd9, nadd10, nadd11, nadd12, h2, hnb, hb, hl, eP, eS, aw]
  exact ⟨_, _, _, rfl, by simp (maxDischargeDepth := 9) -implicitDefEqProofs only [push_cast, reduceIte, Nat.reduceEqDiff, Nat.reduceAdd, Nat.reduceSub, Nat.reduceMul, Nat.reduceDiv, Nat.reduceMod, Nat.reduceLT, Nat.reduceLeDiff, Nat.reduceBEq, Nat.reduceBNe, reduceCtorEq, Int.reduceEq, Int.reduceNe, Int.reduceLT, Int.reduceLE, Int.reduceToNat, Int.reduceNeg, Int.reduceAdd, Int.reduceSub, Int.reduceMul, Int.reducePow, Nat.reducePow, Int.reduceBEq]⟩
set_option maxHeartbeats 8000000 in
theorem form2_ok {X : AHeap} (hg : Good X) (ha : At0 X) {a : Acts} {bv : AV} {base : Nat} {ws : List Nat} {D : List Int} {v0 v1 v2 v3 v4 v5 v6 v7 v8 v9 v10 : Int} (h2 : look a 2 = some bv) (hs : Src X bv D) (hD : D.length ≤ 100) (hv : HV D v0 v1 v2 v3 v4 v5 v6 v7 v8 v9 v10) (c1 : 1 ≤ v0 / 8 % 8) (c2 : v0 / 8 % 8 ≤ 4) : Wp (xexec (W CP) base form2 a X ws) Ends := by
  obtain ⟨rv, js, r, eP, rP, gP, rb, rl⟩ := parse_ok hg ha.1 hs hv (by omega) c1 c2
  have hgt := hv.bounds
  obtain ⟨⟨p0, q0⟩, ⟨p1, q1⟩, ⟨p2, q2⟩, ⟨p3, q3⟩, ⟨p4, q4⟩, ⟨p5, q5⟩, ⟨p6, q6⟩, ⟨p7, q7⟩, ⟨p8, q8⟩, ⟨p9, q9⟩, ⟨p10, q10⟩⟩ := hgt
  obtain ⟨r2, r2'⟩ := i8_range v2
  obtain ⟨r3, r3'⟩ := i8_range v3
  have hmay : mayH (v0 / 64) (v0 / 8 % 8) (v0 % 8) = true := by
    have m1 : v0 / 64 ≤ 3 := by omega
    have m2 : v0 % 8 ≤ 7 := by omega
    simp only [mayH, m1, m2, c1, c2, decide_true, Bool.and_self]
  obtain ⟨H1, hH1⟩ : ∃ H1, X ++ js = H1 := ⟨_, rfl⟩
  have hA1 := ha.app js
  have sb1 := hs.app js
  rw [hH1] at eP rP gP hA1 sb1
  have hG2 : Good (H1 ++ [⟨.tip false, .vals [.int .u8 (v0 / 64), .int .u8 (v0 / 8 % 8), .int .u8 (v0 % 8), .int .u8 v1, .int .i8 (IntKind.i8.wrap v2), .int .i8 (IntKind.i8.wrap v3), .int .u32 v4, .int .u32 v5, .int .u32 v6, .int .u64 v7, .int .u64 v8, .int .u64 v9, .int .u64 v10, .nils, .bool false, .int .u32 0, .int .u64 0]⟩]) := good_app gP rfl
  have eU := put_c (p0 := v0 / 64) (p1 := v0 / 8 % 8) (p2 := v0 % 8) (p3 := v1) (p4 := IntKind.i8.wrap v2) (p5 := IntKind.i8.wrap v3) (p6 := v4) (p7 := v5) (p8 := v6) (p9 := v7) (p10 := v8) (p11 := v9) (p12 := v10) (p15 := 0) (p16 := 0) (s := false) (x := .nils) rfl hmay (by omega) (by omega) (by omega) (by omega) (by omega) (by omega) (by omega) (by omega) (by omega) (by omega) (by omega) (by omega) (by omega) (by omega) (by omega) (by omega) (by omega) (by omega) (by omega) (by omega) (by omega) (by omega) (by omega) hG2 (hA1.app _)
  rw [head_of hv] at eU
  obtain ⟨H2, hH2⟩ : ∃ H2, (H1 ++ [(⟨.tip false, .vals [.int .u8 (v0 / 64), .int .u8 (v0 / 8 % 8), .int .u8 (v0 % 8), .int .u8 v1, .int .i8 (IntKind.i8.wrap v2), .int .i8 (IntKind.i8.wrap v3), .int .u32 v4, .int .u32 v5, .int .u32 v6, .int .u64 v7, .int .u64 v8, .int .u64 v9, .int .u64 v10, .nils, .bool false, .int .u32 0, .int .u64 0]⟩ : ABlk)]) = H2 := ⟨_, rfl⟩
  obtain ⟨H3, hH3⟩ : ∃ H3, H2 ++ putJs ⟨.tip false, .vals [.int .u8 (v0 / 64), .int .u8 (v0 / 8 % 8), .int .u8 (v0 % 8), .int .u8 v1, .int .i8 (IntKind.i8.wrap v2), .int .i8 (IntKind.i8.wrap v3), .int .u32 v4, .int .u32 v5, .int .u32 v6, .int .u64 v7, .int .u64 v8, .int .u64 v9, .int .u64 v10, .nils, .bool false, .int .u32 0, .int .u64 0]⟩ [v0, v1, v2, v3, v4, v5, v6, v7, v8, v9, v10] (H2.length + 1) = H3 := ⟨_, rfl⟩
  have hget : H3[H2.length + 4]? = some ⟨.tip false, .ints .u8 (D.take 48)⟩ := by
    rw [← hH3, List.getElem?_append_right (by omega), Nat.add_sub_cancel_left]
    show some (⟨.tip false, .ints .u8 (layB sizesN [v0, v1, v2, v3, v4, v5, v6, v7, v8, v9, v10])⟩ : ABlk) = _
    rw [head_lay hv]
  rw [hH2, hH3] at eU
  have h48 : (D.take 48).length = 48 := by have := hv.l; rw [List.length_take]; omega
  have hc1 := (bytAt_sl (h := H3) (b := H2.length + 4) (o := 0) (n := 48) (c := 48) (l := D.take 48) hget (by simp) (by omega) (fun z hz => hv.B z (List.mem_of_mem_take (List.mem_of_mem_take hz)))).2.1
  rw [List.drop_zero, List.take_take, Nat.min_self] at hc1
  have hH13 : ∀ ks : AHeap, H3 = H1 ++ ks → H3 = H1 ++ ks := fun _ h => h
  have h13 : ∃ ks, H3 = H1 ++ ks := ⟨_, by rw [← hH3, ← hH2, List.append_assoc]⟩
  obtain ⟨ks, h13⟩ := h13
  have hc2 := ((rP.app ks).src (fun z hz => hv.B z (List.mem_of_mem_drop hz))).bytAt.2.1
  have hc3 := (sb1.app ks).bytAt.2.1
  rw [← h13] at hc2 hc3
  have hsz := size_le (a := D.take 48) (b := D.drop 48) (by rw [List.length_take, List.length_drop]; omega)
  have htw := sb_two (D.take 48) (D.drop 48)
  rw [List.take_append_drop] at htw
  have aw := fun h => law04_alive h
  have hb0 : H2[H1.length]? = some ⟨.tip false, .vals [.int .u8 (v0 / 64), .int .u8 (v0 / 8 % 8), .int .u8 (v0 % 8), .int .u8 v1, .int .i8 (IntKind.i8.wrap v2), .int .i8 (IntKind.i8.wrap v3), .int .u32 v4, .int .u32 v5, .int .u32 v6, .int .u64 v7, .int .u64 v8, .int .u64 v9, .int .u64 v10, .nils, .bool false, .int .u32 0, .int .u64 0]⟩ := by rw [← hH2]; exact behind_get _ _ _
  have hL2 : H1.length < H2.length := (List.getElem?_eq_some_iff.1 hb0).1
  obtain ⟨_, b, ob, cb, st, l, _, _, _, _, kb⟩ := hs
  obtain ⟨pr, _, kr⟩ := rP
  rcases kb with ⟨rfl, _⟩ | rfl <;> rcases kr with ⟨rfl, _⟩ | rfl
  all_goals
    simp (maxDischargeDepth := 9) -implicitDefEqProofs only [push_cast, reduceIte, Nat.reduceEqDiff, Nat.reduceAdd, Nat.reduceSub, Nat.reduceMul, Nat.reduceDiv, Nat.reduceMod, Nat.reduceLT, Nat.reduceLeDiff, Nat.reduceBEq, Nat.reduceBNe, reduceCtorEq, Int.reduceEq, Int.reduceNe, Int.reduceLT, Int.reduceLE, Int.reduceToNat, Int.reduceNeg, Int.reduceAdd, Int.reduceSub, Int.reduceMul, Int.reducePow, Nat.reducePow, Int.reduceBEq, form2, nadd1, nadd2, nadd3, nadd4, nadd5, nadd6, nadd7, nadd8, nadd9, nadd10, nadd11, nadd12, h2, eP, eU, hH2, hb0, hL2, hc1, hc2, hc3, bytesOf_sb, hsz, htw, aw]
    exact ⟨_, _, _, rfl, by simp (maxDischargeDepth := 9) -implicitDefEqProofs only [push_cast, reduceIte, Nat.reduceEqDiff, Nat.reduceAdd, Nat.reduceSub, Nat.reduceMul, Nat.reduceDiv, Nat.reduceMod, Nat.reduceLT, Nat.reduceLeDiff, Nat.reduceBEq, Nat.reduceBNe, reduceCtorEq, Int.reduceEq, Int.reduceNe, Int.reduceLT, Int.reduceLE, Int.reduceToNat, Int.reduceNeg, Int.reduceAdd, Int.reduceSub, Int.reduceMul, Int.reducePow, Nat.reducePow, Int.reduceBEq]⟩
theorem form2_w {X : AHeap} (hg : Good X) (ha : At0 X) {a : Acts} {bv : AV} {base : Nat} {ws : List Nat} {D : List Int} (h2 : look a 2 = some bv) (hs : (bv = .nils ∧ D = []) ∨ Src X bv D) (hD : D.length ≤ 100) : Wp (xexec (W CP) base form2 a X ws) Ends := by
  have hl : slen bv = some D.length := by
    rcases hs with ⟨rfl, rfl⟩ | hs
    · rfl
    · exact hs.len
  by_cases h48 : D.length < 48
  · exact form2_short hg ha h2 hl h48
  · rcases hs with ⟨rfl, rfl⟩ | hs
    · simp at h48
    · obtain ⟨v0, v1, v2, v3, v4, v5, v6, v7, v8, v9, v10, hv⟩ := HV.mk' hs.1 (show 48 ≤ D.length by omega)
      by_cases hok : 1 ≤ v0 / 8 % 8 ∧ v0 / 8 % 8 ≤ 4
      · exact form2_ok hg ha h2 hs hD hv hok.1 hok.2
      · exact form2_bad hg ha h2 hs hD hv hok
end Go.Proofs.YtpmibaeajmfdpaaDoorW.AI.H

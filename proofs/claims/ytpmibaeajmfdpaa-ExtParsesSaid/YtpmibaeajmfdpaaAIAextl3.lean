import Derived.Test.YtpmibaeajmfdpaaAIAextl2
namespace Go.Proofs.YtpmibaeajmfdpaaW.AI.A
open Go Go.Proofs.YtpmibaeajmfdpaaW.AI Go.Proofs.YtpmibaeajmfdpaaW.AI.Oct Go.RowKit
set_option maxRecDepth 100000
set_option linter.unusedSimpArgs false
set_option linter.unusedVariables false
set_option linter.unusedSectionVars false
def back2 : MCode := .seq (.reg [⟨some 81, .mv (.t 2), none⟩,
  ⟨some 82, .mv (.t 2), none⟩,
  ⟨some 83, .len none (.t 82), none⟩,
  ⟨some 84, .mnx false [(.t 83), (.c (.int .i64 2000))], none⟩,
  ⟨some 85, .slc none 1 (.t 81) none (some (.t 84)) none, none⟩,
  ⟨some 2, .mv (.t 85), none⟩])
 (.seq (.reg [⟨some 87, .mv (.t 2), none⟩,
  ⟨some 88, .call 14 [(.t 87)], none⟩,
  ⟨some 86, .mv (.t 88), none⟩,
  ⟨some 89, .ex 0 (.t 86), none⟩,
  ⟨some 90, .ex 1 (.t 86), none⟩,
  ⟨some 91, .ex 2 (.t 86), none⟩,
  ⟨some 15, .mv (.t 89), none⟩,
  ⟨some 16, .mv (.t 90), none⟩,
  ⟨some 17, .mv (.t 91), none⟩])
 (.seq (.seq (.reg [⟨some 92, .mv (.t 17), none⟩,
  ⟨some 93, .bin .neq [] (.t 92) (.c (.int .i64 0)), none⟩])
 (.cond (.t 93)
 (.seq (.reg [⟨some 94, .call 11 [], none⟩,
  ⟨some 95, .mv (.t 94), none⟩,
  ⟨some 96, .mv (.t 15), some (95, true)⟩,
  ⟨some 97, .len none (.t 96), some (95, true)⟩,
  ⟨some 98, .bin .eql [] (.t 97) (.c (.int .i64 0)), some (95, true)⟩,
  ⟨some 99, .pick (.t 95) (.t 98) (.c (.bool false)), none⟩,
  ⟨some 100, .mv (.t 99), none⟩,
  ⟨some 101, .mv (.t 16), some (100, true)⟩,
  ⟨some 102, .len none (.t 101), some (100, true)⟩,
  ⟨some 103, .bin .eql [] (.t 102) (.c (.int .i64 0)), some (100, true)⟩,
  ⟨some 104, .pick (.t 100) (.t 103) (.c (.bool false)), none⟩,
  ⟨some 6, .mv (.t 104), none⟩])
 (.ret))
 (.skip)))
 (.seq (.reg [⟨some 106, .mv (.t 15), none⟩,
  ⟨some 107, .call 19 [(.t 106)], none⟩,
  ⟨some 105, .mv (.t 107), none⟩,
  ⟨some 108, .ex 0 (.t 105), none⟩,
  ⟨some 109, .ex 1 (.t 105), none⟩,
  ⟨some 18, .mv (.t 108), none⟩,
  ⟨some 19, .mv (.t 109), none⟩])
 (.seq (.reg [⟨some 110, .call 11 [], none⟩,
  ⟨some 111, .mv (.t 110), none⟩,
  ⟨some 112, .mv (.t 19), some (111, true)⟩,
  ⟨some 113, .bin .eql [] (.t 112) (.c (.int .i64 0)), some (111, true)⟩,
  ⟨some 114, .pick (.t 111) (.t 113) (.c (.bool false)), none⟩,
  ⟨some 115, .mv (.t 114), none⟩,
  ⟨some 116, .mv (.t 16), some (115, true)⟩,
  ⟨some 117, .len none (.t 116), some (115, true)⟩,
  ⟨some 118, .bin .eql [] (.t 117) (.c (.int .i64 0)), some (115, true)⟩,
  ⟨some 119, .mv (.t 118), some (115, true)⟩,
  ⟨some 120, .mv (.t 16), some (119, false)⟩,
  ⟨some 121, .len none (.t 120), some (119, false)⟩,
  ⟨some 122, .bin .eql [] (.t 121) (.c (.int .i64 12)), some (119, false)⟩,
  ⟨some 123, .pick (.t 119) (.c (.bool true)) (.t 122), some (115, true)⟩,
  ⟨some 124, .pick (.t 115) (.t 123) (.c (.bool false)), none⟩,
  ⟨some 125, .mv (.t 124), none⟩,
  ⟨some 126, .mv (.t 18), some (125, true)⟩,
  ⟨some 127, .mv (.t 16), some (125, true)⟩,
  ⟨some 128, .app (.ints .u8 [0]) 1 (.t 126) (.t 127), some (125, true)⟩,
  ⟨some 129, .mv (.t 2), some (125, true)⟩,
  ⟨some 130, .call 12 [(.t 128), (.t 129)], some (125, true)⟩,
  ⟨some 131, .pick (.t 125) (.t 130) (.c (.bool false)), none⟩,
  ⟨some 6, .mv (.t 131), none⟩])
 (.ret)))))
theorem back_parts : M6 = ⟨.seq (.reg [⟨some 4, .bx (some .u8) 12 (.t 1), none⟩,
  ⟨some 6, .mv (.c (.bool false)), none⟩])
 (.seq (.reg [⟨some 20, .mv (.t 0), none⟩,
  ⟨some 21, .call 9 [(.t 20)], none⟩,
  ⟨some 0, .mv (.t 21), none⟩])
 (.seq (.reg [⟨some 23, .mv (.t 0), none⟩,
  ⟨some 24, .call 19 [(.t 23)], none⟩,
  ⟨some 22, .mv (.t 24), none⟩,
  ⟨some 25, .ex 0 (.t 22), none⟩,
  ⟨some 26, .ex 1 (.t 22), none⟩,
  ⟨some 7, .mv (.t 25), none⟩,
  ⟨some 8, .mv (.t 26), none⟩])
 (.seq (.reg [⟨some 28, .mv (.t 7), none⟩,
  ⟨some 29, .call 14 [(.t 28)], none⟩,
  ⟨some 27, .mv (.t 29), none⟩,
  ⟨some 30, .ex 0 (.t 27), none⟩,
  ⟨some 31, .ex 1 (.t 27), none⟩,
  ⟨some 32, .ex 2 (.t 27), none⟩,
  ⟨some 9, .mv (.t 30), none⟩,
  ⟨some 10, .mv (.t 31), none⟩,
  ⟨some 11, .mv (.t 32), none⟩])
 (.seq (.regd [(1, ⟨some 35, .mv (.t 7), none⟩),
  (3, ⟨some 37, .slc (some 12) 1 (.t 4) none none none, none⟩),
  (0, ⟨some 34, .bsl (.ints .u8 [0]) 0 1 [], none⟩),
  (2, ⟨some 36, .app (.ints .u8 [0]) 1 (.t 34) (.t 35), none⟩),
  (4, ⟨some 38, .app (.ints .u8 [0]) 1 (.t 36) (.t 37), none⟩),
  (5, ⟨some 39, .call 14 [(.t 38)], none⟩),
  (6, ⟨some 33, .mv (.t 39), none⟩),
  (7, ⟨some 40, .ex 0 (.t 33), none⟩),
  (8, ⟨some 41, .ex 1 (.t 33), none⟩),
  (9, ⟨some 42, .ex 2 (.t 33), none⟩),
  (10, ⟨some 12, .mv (.t 40), none⟩),
  (11, ⟨some 13, .mv (.t 41), none⟩),
  (12, ⟨some 14, .mv (.t 42), none⟩)] [])
 (.seq (.seq (.reg [⟨some 43, .mv (.t 0), none⟩,
  ⟨some 44, .call 21 [(.t 43)], none⟩,
  ⟨some 45, .un .not (.t 44), none⟩,
  ⟨some 46, .mv (.t 45), none⟩,
  ⟨some 47, .mv (.t 8), some (46, false)⟩,
  ⟨some 48, .bin .neq [] (.t 47) (.c (.int .i64 0)), some (46, false)⟩,
  ⟨some 49, .pick (.t 46) (.c (.bool true)) (.t 48), none⟩,
  ⟨some 50, .mv (.t 49), none⟩,
  ⟨some 51, .mv (.t 11), some (50, false)⟩,
  ⟨some 52, .bin .neq [] (.t 51) (.c (.int .i64 0)), some (50, false)⟩,
  ⟨some 53, .pick (.t 50) (.c (.bool true)) (.t 52), none⟩,
  ⟨some 54, .mv (.t 53), none⟩,
  ⟨some 55, .mv (.t 0), some (54, false)⟩,
  ⟨some 56, .mv (.t 9), some (54, false)⟩,
  ⟨some 57, .call 16 [(.t 55), (.t 56)], some (54, false)⟩,
  ⟨some 58, .un .not (.t 57), some (54, false)⟩,
  ⟨some 59, .pick (.t 54) (.c (.bool true)) (.t 58), none⟩,
  ⟨some 60, .mv (.t 59), none⟩,
  ⟨some 61, .mv (.t 10), some (60, false)⟩,
  ⟨some 62, .len none (.t 61), some (60, false)⟩,
  ⟨some 63, .bin .neq [] (.t 62) (.c (.int .i64 0)), some (60, false)⟩,
  ⟨some 64, .pick (.t 60) (.c (.bool true)) (.t 63), none⟩,
  ⟨some 65, .mv (.t 64), none⟩,
  ⟨some 66, .mv (.t 14), some (65, false)⟩,
  ⟨some 67, .bin .neq [] (.t 66) (.c (.int .i64 0)), some (65, false)⟩,
  ⟨some 68, .pick (.t 65) (.c (.bool true)) (.t 67), none⟩,
  ⟨some 69, .mv (.t 68), none⟩,
  ⟨some 70, .mv (.t 0), some (69, false)⟩,
  ⟨some 71, .mv (.t 12), some (69, false)⟩,
  ⟨some 72, .call 16 [(.t 70), (.t 71)], some (69, false)⟩,
  ⟨some 73, .un .not (.t 72), some (69, false)⟩,
  ⟨some 74, .pick (.t 69) (.c (.bool true)) (.t 73), none⟩,
  ⟨some 75, .mv (.t 74), none⟩,
  ⟨some 76, .mv (.t 13), some (75, false)⟩,
  ⟨some 77, .slc (some 12) 1 (.t 4) none none none, some (75, false)⟩,
  ⟨some 78, .call 12 [(.t 76), (.t 77)], some (75, false)⟩,
  ⟨some 79, .un .not (.t 78), some (75, false)⟩,
  ⟨some 80, .pick (.t 75) (.c (.bool true)) (.t 79), none⟩])
 (.cond (.t 80)
 (.seq (.reg [⟨some 6, .mv (.c (.bool false)), none⟩])
 (.ret))
 (.skip)))
 back2))))),
 [.tmp 6], true⟩ := rfl
theorem arg_cut {g : AHeap} {v : AV} (hv : Ty g (.sl [.i .u8]) v) : ∃ D, BV g v D ∧ D.length ≤ 9223372036854775807 ∧ ∀ m, m ≤ D.length → SV g (cutX v m) (D.take m) := by
  obtain ⟨D, b1, _, b3⟩ := arg_bv hv
  refine ⟨D, b1, b3, fun m hm => ?_⟩
  obtain ⟨hB, ⟨h1, h2⟩ | ⟨b, o, c, st, l, mn, e, hs, hl', hd, k'⟩⟩ := b1.take hm
  · exact Or.inl ⟨h1, h2⟩
  · simp only [Ty] at hv
    rcases hv with rfl | ⟨b', n, c', es, rfl, _⟩
    · rcases k' with ⟨h, _⟩ | h <;> cases h
    · rcases k' with ⟨h, hc⟩ | h
      · exact Or.inr ⟨hB, b, o, c, st, l, e, hs, hl', hd, Or.inl ⟨h, hc⟩⟩
      · cases h
theorem parseX_err : ∀ (k : Nat) (F : List (Int × List Int)) (D : List Int) (z : Int), parseX k F D = .err z → z ≠ 0
  | 0, F, D, z, h => by cases h; decide
  | k + 1, F, D, z, h => by
    rw [parseX] at h
    split at h
    · cases h
    · split at h
      · cases h; decide
      · split at h
        · cases h; decide
        · split at h
          · cases h; decide
          · split at h
            · cases h; decide
            · exact parseX_err k _ _ _ h
def EndsB (o : AOut) : Prop := ∃ a h ws, o = (.ret, a, h, ws) ∧ look a 6 = some (.bool true)
theorem wp_endsB {x : Option AOut} (h : Wp x EndsB) : Wp (kRes [.tmp 6] x) fun r => r.1 = .bool true := by
  obtain ⟨o, rfl, a, h, ws, rfl, e⟩ := h
  refine ⟨(.bool true, h, ws), ?_, rfl⟩
  simp only [kRes, ares, aresL, ares1, aeval, e, Option.bind_some, Option.map_some]
set_option maxHeartbeats 8000000 in
theorem back2_w {X : AHeap} (hg : Good X) {a : Acts} {bv : AV} {Df : List Int} {base : Nat} (h2 : look a 2 = some bv) (hb : BV X bv Df) (hDf : Df.length ≤ 9223372036854775807) (hs : ∀ m, m ≤ Df.length → SV X (cutX bv m) (Df.take m)) (hbase : base ≤ X.length) : Wp (xexec (W CP) base back2 a X []) EndsB := by
  obtain ⟨N, hN⟩ : ∃ N, Df.length = N := ⟨_, rfl⟩
  have hnb := hb.na
  have hlb := hb.len
  rw [hN] at hlb hDf
  obtain ⟨m, hm, hm2, hmin⟩ : ∃ m : Nat, m ≤ N ∧ m ≤ 2000 ∧ (if (2000 : Int) < (N : Int) then (2000 : Int) else (N : Int)) = (m : Int) := by
    by_cases hc : 2000 < N
    · exact ⟨2000, by omega, by omega, by rw [if_pos (by omega)]; rfl⟩
    · exact ⟨N, by omega, by omega, by rw [if_neg (by omega)]⟩
  have e1 := fun h => slcV_hi (h := h) hb (show m ≤ Df.length by omega)
  have bcut := hb.take (show m ≤ Df.length by omega)
  have acut := bcut.na
  have sv := hs m (by omega)
  have hcl : (Df.take m).length = m := by rw [List.length_take]; omega
  have aw := fun h => awake_c h
  cases hp : parseX 9 [] (Df.take m) with
  | err z =>
    have eR := xparse_err hg sv (by omega) hp
    have hz : ¬ z = 0 := parseX_err _ _ _ _ hp
    simp (maxDischargeDepth := 9) -implicitDefEqProofs only [push_cast, reduceIte, Nat.reduceEqDiff, Nat.reduceAdd, Nat.reduceSub, Nat.reduceMul, Nat.reduceDiv, Nat.reduceMod, Nat.reduceLT, Nat.reduceLeDiff, Nat.reduceBEq, Nat.reduceBNe, reduceCtorEq, Int.reduceEq, Int.reduceNe, Int.reduceLT, Int.reduceLE, Int.reduceToNat, Int.reduceNeg, Int.reduceAdd, Int.reduceSub, Int.reduceMul, Int.reducePow, Nat.reducePow, Int.reduceBEq, back2, nadd1, nadd2, nadd3, nadd4, nadd5, nadd6, nadd7, nadd8, nadd9, nadd10, nadd11, nadd12, h2, hnb, hlb, hmin, ↓slc_eqH, e1, acut, eR, hz, aw]
    exact ⟨_, _, _, rfl, by simp (maxDischargeDepth := 9) -implicitDefEqProofs only [push_cast, reduceIte, Nat.reduceEqDiff, Nat.reduceAdd, Nat.reduceSub, Nat.reduceMul, Nat.reduceDiv, Nat.reduceMod, Nat.reduceLT, Nat.reduceLeDiff, Nat.reduceBEq, Nat.reduceBNe, reduceCtorEq, Int.reduceEq, Int.reduceNe, Int.reduceLT, Int.reduceLE, Int.reduceToNat, Int.reduceNeg, Int.reduceAdd, Int.reduceSub, Int.reduceMul, Int.reducePow, Nat.reducePow, Int.reduceBEq]⟩
  | ok F T =>
    obtain ⟨F2, q1, q2, q3, q4, q5⟩ := put_parse 9 [] F _ T bcut.1 (by simp) hp
    rw [List.nil_append] at q1
    subst q1
    have hmay : mayX F = true := by
      unfold mayX
      rw [decide_eq_true q4, Bool.true_and, Bool.not_eq_true', List.any_eq_false]
      intro z hz
      simp [badX, (q3 z hz).2]
    obtain ⟨o, rv, js3, eR, rok, _⟩ := xparse_ok hg sv (by omega) hp
    have exm := rok.ext
    obtain ⟨lm, gm, enm, _, gpm, brv, _, hG3⟩ := rok
    have bc3 := bcut.app js3
    obtain ⟨H3, hH3⟩ : ∃ H3, X ++ js3 = H3 := ⟨_, rfl⟩
    have l23 : X.length ≤ H3.length := by rw [← hH3]; simp
    rw [hH3] at eR exm gm enm brv hG3 bc3
    obtain ⟨y2, js4, eU2, gy2, hG4, gpy2, gmy2⟩ := xput_ok hG3 exm hmay
    have brv4 := brv.app js4
    have bc4 := bc3.app js4
    obtain ⟨H4, hH4⟩ : ∃ H4, H3 ++ js4 = H4 := ⟨_, rfl⟩
    rw [hH4] at eU2 gy2 hG4 brv4 bc4
    have hlm := gm.slen
    have hnm := na_slen gm.slen
    have hnr := brv.na
    have hlr := brv.len
    have hny2 := na_slen gy2.slen
    have hly2 := gy2.slen
    obtain ⟨n2, hn2⟩ : ∃ n2, (putX F).length = n2 := ⟨_, rfl⟩
    obtain ⟨nt, hnt⟩ : ∃ nt, T.length = nt := ⟨_, rfl⟩
    rw [hn2] at hly2
    rw [hnt] at hlr q5
    have hBp2 : Byt (putX F) := by
      have : Byt (putX F ++ T) := by rw [← q2]; exact bcut.1
      exact fun z hz => this z (List.mem_append_left _ hz)
    have hpl := putX_len (F := F) fun z hz => ((mayX_all hmay).2 z hz).2.1
    obtain ⟨va, H5, wa, ea, ba, ka, wsa⟩ := app_any (xs := T) (k := nt) gy2 hBp2 brv4.1 hnt (by omega)
    have hnew := brv4.new
    have hG5 : Good H5 := ka.2.2 hG4
    have bcut5 : BV H5 (cutX bv m) (Df.take m) := by
      refine bc4.keeps ka fun q hq e2 => ?_
      have h6 := gpy2 q e2
      have h7 : q < X.length := by
        have := bcut.lt
        cases hcx : cutX bv m <;> rw [hcx] at hq this <;> simp [blkS] at hq <;> simp [AV.lt] at this <;> omega
      omega
    have eE := equal_c hG5 ba bcut5
    rw [← q2, decide_eq_true rfl] at eE
    have hwa : wadd base [] wa = [] := wadd_ge fun b hb => by have := gpy2 b (wsa b hb); omega
    have hnva := ba.na
    rcases q5 with q5 | q5
    · have c0 : ((nt : Int) = 0) = True := eq_true (by omega)
      simp (maxDischargeDepth := 9) -implicitDefEqProofs only [push_cast, reduceIte, Nat.reduceEqDiff, Nat.reduceAdd, Nat.reduceSub, Nat.reduceMul, Nat.reduceDiv, Nat.reduceMod, Nat.reduceLT, Nat.reduceLeDiff, Nat.reduceBEq, Nat.reduceBNe, reduceCtorEq, Int.reduceEq, Int.reduceNe, Int.reduceLT, Int.reduceLE, Int.reduceToNat, Int.reduceNeg, Int.reduceAdd, Int.reduceSub, Int.reduceMul, Int.reducePow, Nat.reducePow, Int.reduceBEq, back2, nadd1, nadd2, nadd3, nadd4, nadd5, nadd6, nadd7, nadd8, nadd9, nadd10, nadd11, nadd12, h2, hnb, hlb, hmin, ↓slc_eqH, e1, acut, eR, hnm, hnr, hlr, eU2, hny2, hly2, c0, hnew, ea, hwa, hnva, eE, aw]
      exact ⟨_, _, _, rfl, by simp (maxDischargeDepth := 9) -implicitDefEqProofs only [push_cast, reduceIte, Nat.reduceEqDiff, Nat.reduceAdd, Nat.reduceSub, Nat.reduceMul, Nat.reduceDiv, Nat.reduceMod, Nat.reduceLT, Nat.reduceLeDiff, Nat.reduceBEq, Nat.reduceBNe, reduceCtorEq, Int.reduceEq, Int.reduceNe, Int.reduceLT, Int.reduceLE, Int.reduceToNat, Int.reduceNeg, Int.reduceAdd, Int.reduceSub, Int.reduceMul, Int.reducePow, Nat.reducePow, Int.reduceBEq]⟩
    · have c0 : ((nt : Int) = 0) = False := eq_false (by omega)
      have c1 : ((nt : Int) = 12) = True := eq_true (by omega)
      simp (maxDischargeDepth := 9) -implicitDefEqProofs only [push_cast, reduceIte, Nat.reduceEqDiff, Nat.reduceAdd, Nat.reduceSub, Nat.reduceMul, Nat.reduceDiv, Nat.reduceMod, Nat.reduceLT, Nat.reduceLeDiff, Nat.reduceBEq, Nat.reduceBNe, reduceCtorEq, Int.reduceEq, Int.reduceNe, Int.reduceLT, Int.reduceLE, Int.reduceToNat, Int.reduceNeg, Int.reduceAdd, Int.reduceSub, Int.reduceMul, Int.reducePow, Nat.reducePow, Int.reduceBEq, back2, nadd1, nadd2, nadd3, nadd4, nadd5, nadd6, nadd7, nadd8, nadd9, nadd10, nadd11, nadd12, h2, hnb, hlb, hmin, ↓slc_eqH, e1, acut, eR, hnm, hnr, hlr, eU2, hny2, hly2, c0, c1, hnew, ea, hwa, hnva, eE, aw]
      exact ⟨_, _, _, rfl, by simp (maxDischargeDepth := 9) -implicitDefEqProofs only [push_cast, reduceIte, Nat.reduceEqDiff, Nat.reduceAdd, Nat.reduceSub, Nat.reduceMul, Nat.reduceDiv, Nat.reduceMod, Nat.reduceLT, Nat.reduceLeDiff, Nat.reduceBEq, Nat.reduceBNe, reduceCtorEq, Int.reduceEq, Int.reduceNe, Int.reduceLT, Int.reduceLE, Int.reduceToNat, Int.reduceNeg, Int.reduceAdd, Int.reduceSub, Int.reduceMul, Int.reducePow, Nat.reducePow, Int.reduceBEq]⟩
theorem toInts_map (k : IntKind) : ∀ l : List Int, toInts k (l.map (AV.int k)) = some l
  | [] => rfl
  | x :: l => by simp only [List.map_cons, toInts, if_true, toInts_map k l, Option.map_some]
set_option maxHeartbeats 16000000 in
theorem back_body {g : AHeap} (hg : Good g) {x : AV} (hx : Ty g (.sl [.i .u16, .sl [.i .u8]]) x) {S : List Int} (hS : S.length = 12) (hSB : Byt S) {bv : AV} (hbv : Ty g (.sl [.i .u8]) bv) : Wp (xbody (W CP) M6 [x, .agg (S.map (AV.int .u8)), bv] g) fun r => r.1 = .bool true := by
  obtain ⟨F, A, ax⟩ := arg_ext hx
  obtain ⟨Df, bD, lD, sD⟩ := arg_cut hbv
  have hnx := na_slen ax.xr.len
  have hnb := bD.na
  have hG0 : Good (g ++ [⟨.tip false, .ints .u8 S⟩]) := good_app hg rfl
  obtain ⟨v, l, js, eP, gx, en, hG1, gp⟩ := proper_c hG0 (ax.xr.app _) (fun z hz => by
    obtain ⟨i, hi⟩ := List.getElem?_of_mem hz
    obtain ⟨_, _, _, _, _, _, h⟩ := ax.el i z.1 z.2 hi
    exact h) ax.fl
  have hmay := properX_may F
  have hP8 := properX_len F
  have hPl := properX_lens F
  obtain ⟨P, hP⟩ : ∃ P, properX F = P := ⟨_, rfl⟩
  rw [hP] at gx en hP8 hPl hmay
  have ex := gx.ext en
  obtain ⟨hByt, hTyp⟩ := ents_byt en
  have hBp := putX_byt hByt
  have hPlen := putX_len (F := P) fun z hz => ((mayX_all hmay).2 z hz).2.1
  have hsg : (g ++ [(⟨.tip false, .ints .u8 S⟩ : ABlk)])[g.length]? = some ⟨.tip false, .ints .u8 S⟩ := end_get _ _ _
  have low0 : ∀ (q : Nat) (z : ABlk), g[q]? = some z → ((g ++ [(⟨.tip false, .ints .u8 S⟩ : ABlk)]) ++ js)[q]? = some z := fun q z e => by
    rw [List.append_assoc, List.getElem?_append_left (List.getElem?_eq_some_iff.1 e).1]; exact e
  have s1 : ((g ++ [(⟨.tip false, .ints .u8 S⟩ : ABlk)]) ++ js)[g.length]? = some ⟨.tip false, .ints .u8 S⟩ := by
    rw [List.getElem?_append_left (by simp)]; exact hsg
  obtain ⟨H1, hH1⟩ : ∃ H1, (g ++ [(⟨.tip false, .ints .u8 S⟩ : ABlk)]) ++ js = H1 := ⟨_, rfl⟩
  rw [hH1] at eP hG1 ex gx en low0 s1
  have eM := mayX_c hG1 ex (by omega) hPl
  obtain ⟨y, js2, eU, gy, hG2, gpy, gmy⟩ := xput_ok hG1 ex hmay
  have gx2 := gx.app js2
  have en2 := en.app js2
  have low2 : ∀ (q : Nat) (z : ABlk), H1[q]? = some z → (H1 ++ js2)[q]? = some z := fun q z e => by rw [List.getElem?_append_left (List.getElem?_eq_some_iff.1 e).1]; exact e
  have l01 : g.length < H1.length := (List.getElem?_eq_some_iff.1 s1).1
  obtain ⟨H2, hH2⟩ : ∃ H2, H1 ++ js2 = H2 := ⟨_, rfl⟩
  have l12 : H1.length ≤ H2.length := by rw [← hH2]; simp
  rw [hH2] at eU gy hG2 gx2 en2 low2
  have hnv := na_slen gx.slen
  have hny := na_slen gy.slen
  have hly := gy.slen
  obtain ⟨n, hn⟩ : ∃ n, (putX P).length = n := ⟨_, rfl⟩
  rw [hn] at hly
  -- the first reading
  have svy := gsAt_sv gy gmy hBp (Nat.le_refl _)
  rw [cutX_all gy, List.take_length] at svy
  have pp1 : parseX 9 [] (putX P) = .ok P [] := by have := parse_put (S := []) hmay hTyp (Or.inl rfl); rwa [List.append_nil] at this
  obtain ⟨m, rv, js3, eR, rok, _⟩ := xparse_ok hG2 svy (by omega) pp1
  have exm := rok.ext
  obtain ⟨lm, gm, enm, _, gpm, brv, _, hG3⟩ := rok
  have gx3 := gx2.app js3
  have en3 := en2.app js3
  have gy3 := gsAt_app gy js3
  have low3 : ∀ (q : Nat) (z : ABlk), H2[q]? = some z → (H2 ++ js3)[q]? = some z := fun q z e => by rw [List.getElem?_append_left (List.getElem?_eq_some_iff.1 e).1]; exact e
  obtain ⟨H3, hH3⟩ : ∃ H3, H2 ++ js3 = H3 := ⟨_, rfl⟩
  have l23 : H2.length ≤ H3.length := by rw [← hH3]; simp
  rw [hH3] at eR exm gm enm brv hG3 gx3 en3 gy3 low3
  -- bytes with a sign behind them
  obtain ⟨z1, Hm, w1, p, oo, H4, w2, ea1, ea2, hz1, hp4, k34, hw1, hw2, hpl, hw3, k3m⟩ := grow (H1 := H3) (D := putX P) (E := S) (m := n) (k := 12) hn hS (by omega) (by omega)
  have hnew1 : newCells (H3 ++ [⟨.tip false, .ints .u8 []⟩]) (.ints .u8 [0]) y = some (.ints .u8 (putX P)) := ((gsAt_bv gy3 hBp).app _).new
  have s3 : H3[g.length]? = some ⟨.tip false, .ints .u8 S⟩ := low3 _ _ (low2 _ _ s1)
  have sm : Hm[g.length]? = some ⟨.tip false, .ints .u8 S⟩ := keepsAll k3m _ _ s3
  have hnew2 : newCells Hm (.ints .u8 [0]) (.sl g.length 0 12 12) = some (.ints .u8 S) := by
    have := sl_cells (c := 12) sm
    rw [hS] at this
    exact this
  have hwd1 : wadd g.length [] w1 = [] := wadd_ge fun b hb => by have := hw1 b hb; omega
  have hwd2 : wadd g.length [] w2 = [] := wadd_ge fun b hb => by have := hw2 b hb; omega
  have hG4 : Good H4 := k34.2.2 hG3
  have hl12 : (putX P ++ S).length = n + 12 := by rw [List.length_append, hn, hS]
  have src4 : SV H4 (.gsl p 0 (n + 12) 1 false) (putX P ++ S) := Or.inr ⟨hBp.app hSB, p, 0, 0, .tip oo, putX P ++ S, hp4, Or.inr ⟨oo, rfl⟩, by omega, by rw [List.drop_zero, List.take_length], Or.inr (by rw [hl12])⟩
  have pp2 : parseX 9 [] (putX P ++ S) = .ok P S := parse_put hmay hTyp (Or.inr hS)
  obtain ⟨m2, rv2, js5, eR2, rok2, _⟩ := xparse_ok hG4 src4 (by omega) pp2
  have exm2 := rok2.ext
  obtain ⟨lm2, gm2, enm2, _, gpm2, brv2, _, hG5⟩ := rok2
  obtain ⟨ks, hks⟩ := k34.behind
  have low4 : ∀ (q : Nat) (z : ABlk), H3[q]? = some z → (H4 ++ js5)[q]? = some z := fun q z e => by
    have := keepsAll k34 q z e
    rw [List.getElem?_append_left (List.getElem?_eq_some_iff.1 this).1]; exact this
  have gx5 := (gx3.app ks).app js5
  have en5 := (en3.app ks).app js5
  have exm5 := (exm.app ks).app js5
  rw [← hks] at gx5 en5 exm5
  obtain ⟨H5, hH5⟩ : ∃ H5, H4 ++ js5 = H5 := ⟨_, rfl⟩
  rw [hH5] at eR2 exm2 gm2 enm2 brv2 hG5 low4 gx5 en5 exm5
  have l45 : H4.length ≤ H5.length := by rw [← hH5]; simp
  have l34 : H3.length ≤ H4.length := k34.2.1
  have ex5 := gx5.ext en5
  have eM5 := mayX_c hG5 ex5 (by omega) hPl
  rw [hmay] at eM5
  have eS1 := sameX_c hG5 ex5 exm5 (by omega)
  rw [decide_eq_true rfl] at eS1
  have eS2 := sameX_c hG5 ex5 exm2 (by omega)
  rw [decide_eq_true rfl] at eS2
  have s5 : H5[g.length]? = some ⟨.tip false, .ints .u8 S⟩ := low4 _ _ s3
  have bsg : BV H5 (.sl g.length 0 12 12) S := ⟨hSB, Or.inr ⟨g.length, 0, 12, .tip false, S, false, s5, Or.inr ⟨false, rfl⟩, by omega, by rw [List.drop_zero, List.take_length], Or.inl ⟨by rw [hS], by omega⟩⟩⟩
  have eE := equal_c hG5 brv2 bsg
  rw [decide_eq_true rfl] at eE
  have low5 : ∀ (q : Nat) (z : ABlk), g[q]? = some z → H5[q]? = some z := fun q z e => low4 _ _ (low3 _ _ (low2 _ _ (low0 _ _ e)))
  have bD5 := bD.keep low5
  have sD5 : ∀ m, m ≤ Df.length → SV H5 (cutX bv m) (Df.take m) := fun m hm => by
    rcases sD m hm with e | e
    · exact Or.inl e
    · exact Or.inr (e.mono fun q z e _ => low5 q z e)
  have hSm := toInts_map .u8 S
  have hSl : (S.map (AV.int .u8)).length = 12 := by rw [List.length_map]; exact hS
  have hnm := na_slen gm.slen
  have hnr := brv.na
  have hlr := brv.len
  simp only [List.length_nil] at hlr
  have hnm2 := na_slen gm2.slen
  have hnr2 := brv2.na
  rw [back_parts]
  simp (maxDischargeDepth := 9) -implicitDefEqProofs only [push_cast, reduceIte, Nat.reduceEqDiff, Nat.reduceAdd, Nat.reduceSub, Nat.reduceMul, Nat.reduceDiv, Nat.reduceMod, Nat.reduceLT, Nat.reduceLeDiff, Nat.reduceBEq, Nat.reduceBNe, reduceCtorEq, Int.reduceEq, Int.reduceNe, Int.reduceLT, Int.reduceLE, Int.reduceToNat, Int.reduceNeg, Int.reduceAdd, Int.reduceSub, Int.reduceMul, Int.reducePow, Nat.reducePow, Int.reduceBEq, nadd1, nadd2, nadd3, nadd4, nadd5, nadd6, nadd7, nadd8, nadd9, nadd10, nadd11, nadd12, hSm, hSl, hS, hnx, hnb, eP, hnv, eU, hny, hly, eR, hnm, hnr, hlr, hnew1, ea1, hz1, hnew2, ea2, hwd1, hwd2, eR2, hnm2, hnr2, eM5, eS1, eS2, eE]
  exact wp_endsB (back2_w hG5 (by simp (maxDischargeDepth := 9) -implicitDefEqProofs only [push_cast, reduceIte, Nat.reduceEqDiff, Nat.reduceAdd, Nat.reduceSub, Nat.reduceMul, Nat.reduceDiv, Nat.reduceMod, Nat.reduceLT, Nat.reduceLeDiff, Nat.reduceBEq, Nat.reduceBNe, reduceCtorEq, Int.reduceEq, Int.reduceNe, Int.reduceLT, Int.reduceLE, Int.reduceToNat, Int.reduceNeg, Int.reduceAdd, Int.reduceSub, Int.reduceMul, Int.reducePow, Nat.reducePow, Int.reduceBEq]) bD5 lD sD5 (by omega))
theorem tyL_byt {h : AHeap} : ∀ {ks : List CK} {D : List Int}, TyL h ks (D.map (AV.int .u8)) → Byt D
  | [], [], _ => by intro x hx; simp at hx
  | [], _ :: _, ht => by simp [TyL] at ht
  | k :: ks, [], ht => by simp [TyL] at ht
  | k :: ks, d :: D, ht => by
    simp only [TyL, List.map_cons, List.cons.injEq] at ht
    obtain ⟨v, vs, ⟨rfl, rfl⟩, h1, h2⟩ := ht
    have h3 := tyL_byt h2
    have hd : 0 ≤ d ∧ d < 256 := by
      cases k with
      | i k =>
        simp only [Ty] at h1
        obtain ⟨n, e, n0, n1⟩ := h1
        cases e
        have a : 0 ≤ d := n0
        have b : d ≤ 255 := n1
        omega
      | b => simp [Ty] at h1
      | s => simp [Ty] at h1
      | sl l => simp [Ty] at h1
    intro x hx
    rcases List.mem_cons.1 hx with rfl | hx
    · exact hd
    · exact h3 x hx
theorem back_law (js : AHeap) (avs : List AV) (hx : Ext js) (ht : TyA (CP.gl ++ js) [.one (.sl [.i .u16, .sl [.i .u8]]), .agg [.i .u8, .i .u8, .i .u8, .i .u8, .i .u8, .i .u8, .i .u8, .i .u8, .i .u8, .i .u8, .i .u8, .i .u8], .one (.sl [.i .u8])] avs) : ∃ h' ws, W CP 6 avs (CP.gl ++ js) = some (.bool true, h', ws) := by
  simp only [TyA] at ht
  obtain ⟨v, _, rfl, hv, cs, _, rfl, k0, bv, _, rfl, hb, rfl⟩ := ht
  have hcs := TyL_int (k := .u8) rfl k0
  have hcl := (TyL_lt k0).2.2
  obtain ⟨S, hS⟩ : ∃ S, cs.map toI = S := ⟨_, rfl⟩
  have hmm : cs = S.map (AV.int .u8) := by rw [← hS, List.map_map]; exact hcs
  have hBS : Byt S := by rw [hmm] at k0; exact tyL_byt k0
  have hSl : S.length = 12 := by rw [← hS, List.length_map, hcl]; rfl
  subst hmm
  refine W_law (m := M6) (fun _ => rfl) rfl (back_body (good_ext hx) hv hSl hBS hb) fun h0 => ?_
  simp only [AV.lts, Bool.and_eq_true] at h0
  exact back_body good_gl (ty_nil hv h0.1) hSl hBS (ty_nil hb h0.2.2.1)
theorem back_kinds : aksOf X.P 20 [22, 46, 25] = some [.one (.sl [.i .u16, .sl [.i .u8]]), .agg [.i .u8, .i .u8, .i .u8, .i .u8, .i .u8, .i .u8, .i .u8, .i .u8, .i .u8, .i .u8, .i .u8, .i .u8], .one (.sl [.i .u8])] := by kernel_rfl
end Go.Proofs.YtpmibaeajmfdpaaW.AI.A

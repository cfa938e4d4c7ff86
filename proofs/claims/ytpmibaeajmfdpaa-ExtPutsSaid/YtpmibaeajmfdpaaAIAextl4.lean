import Derived.Test.YtpmibaeajmfdpaaAIAextl3
import Derived.Test.YtpmibaeajmfdpaaAIAfew_
namespace Go.Proofs.YtpmibaeajmfdpaaW.AI.A
open Go Go.Proofs.YtpmibaeajmfdpaaW.AI Go.Proofs.YtpmibaeajmfdpaaW.AI.Oct Go.RowKit
set_option maxRecDepth 100000
set_option linter.unusedSimpArgs false
set_option linter.unusedVariables false
set_option linter.unusedSectionVars false
def puts2 : MCode := .seq (.reg [⟨some 66, .call 11 [], none⟩,
  ⟨some 67, .mv (.t 66), none⟩,
  ⟨some 68, .mv (.t 7), some (67, true)⟩,
  ⟨some 69, .mv (.t 9), some (67, true)⟩,
  ⟨some 70, .call 12 [(.t 68), (.t 69)], some (67, true)⟩,
  ⟨some 71, .pick (.t 67) (.t 70) (.c (.bool false)), none⟩,
  ⟨some 72, .mv (.t 71), none⟩,
  ⟨some 73, .mv (.t 8), some (72, true)⟩,
  ⟨some 74, .mv (.t 10), some (72, true)⟩,
  ⟨some 75, .bin .eql [] (.t 73) (.t 74), some (72, true)⟩,
  ⟨some 76, .pick (.t 72) (.t 75) (.c (.bool false)), none⟩,
  ⟨some 77, .mv (.t 76), none⟩,
  ⟨some 78, .mv (.t 0), some (77, true)⟩,
  ⟨some 79, .call 21 [(.t 78)], some (77, true)⟩,
  ⟨some 80, .mv (.t 0), some (77, true)⟩,
  ⟨some 81, .call 25 [(.t 80)], some (77, true)⟩,
  ⟨some 82, .bin .eql [1] (.t 79) (.t 81), some (77, true)⟩,
  ⟨some 83, .pick (.t 77) (.t 82) (.c (.bool false)), none⟩,
  ⟨some 84, .mv (.t 83), none⟩,
  ⟨some 85, .mv (.t 15), some (84, true)⟩,
  ⟨some 86, .pick (.t 84) (.t 85) (.c (.bool false)), none⟩,
  ⟨some 87, .mv (.t 86), none⟩,
  ⟨some 88, .mv (.t 16), some (87, true)⟩,
  ⟨some 89, .mv (.t 13), some (87, true)⟩,
  ⟨some 90, .call 12 [(.t 88), (.t 89)], some (87, true)⟩,
  ⟨some 91, .pick (.t 87) (.t 90) (.c (.bool false)), none⟩,
  ⟨some 92, .mv (.t 91), none⟩,
  ⟨some 93, .mv (.t 0), some (92, true)⟩,
  ⟨some 94, .mv (.t 1), some (92, true)⟩,
  ⟨some 95, .call 16 [(.t 93), (.t 94)], some (92, true)⟩,
  ⟨some 96, .mv (.t 0), some (92, true)⟩,
  ⟨some 97, .mv (.t 1), some (92, true)⟩,
  ⟨some 98, .call 17 [(.t 96), (.t 97)], some (92, true)⟩,
  ⟨some 99, .bin .eql [1] (.t 95) (.t 98), some (92, true)⟩,
  ⟨some 100, .pick (.t 92) (.t 99) (.c (.bool false)), none⟩,
  ⟨some 101, .mv (.t 100), none⟩,
  ⟨some 102, .mv (.t 0), some (101, true)⟩,
  ⟨some 103, .mv (.t 0), some (101, true)⟩,
  ⟨some 104, .call 22 [(.t 103)], some (101, true)⟩,
  ⟨some 105, .call 16 [(.t 102), (.t 104)], some (101, true)⟩,
  ⟨some 106, .pick (.t 101) (.t 105) (.c (.bool false)), none⟩,
  ⟨some 6, .mv (.t 106), none⟩])
 (.ret)
theorem puts_parts : M8 = ⟨.seq (.reg [⟨some 6, .mv (.c (.bool false)), none⟩])
 (.seq (.reg [⟨some 18, .mv (.t 0), none⟩,
  ⟨some 19, .call 22 [(.t 18)], none⟩,
  ⟨some 20, .mv (.t 1), none⟩,
  ⟨some 21, .call 22 [(.t 20)], none⟩,
  ⟨some 0, .mv (.t 19), none⟩,
  ⟨some 1, .mv (.t 21), none⟩])
 (.seq (.reg [⟨some 23, .mv (.t 0), none⟩,
  ⟨some 24, .call 19 [(.t 23)], none⟩,
  ⟨some 22, .mv (.t 24), none⟩,
  ⟨some 25, .ex 0 (.t 22), none⟩,
  ⟨some 26, .ex 1 (.t 22), none⟩,
  ⟨some 7, .mv (.t 25), none⟩,
  ⟨some 8, .mv (.t 26), none⟩])
 (.seq (.reg [⟨some 28, .mv (.t 0), none⟩,
  ⟨some 29, .call 23 [(.t 28)], none⟩,
  ⟨some 27, .mv (.t 29), none⟩,
  ⟨some 30, .ex 0 (.t 27), none⟩,
  ⟨some 31, .ex 1 (.t 27), none⟩,
  ⟨some 9, .mv (.t 30), none⟩,
  ⟨some 10, .mv (.t 31), none⟩])
 (.seq (.reg [⟨some 33, .mv (.t 0), none⟩,
  ⟨some 34, .mv (.t 2), none⟩,
  ⟨some 35, .call 10 [(.t 33), (.t 34)], none⟩,
  ⟨some 32, .mv (.t 35), none⟩,
  ⟨some 36, .ex 0 (.t 32), none⟩,
  ⟨some 37, .ex 1 (.t 32), none⟩,
  ⟨some 11, .mv (.t 36), none⟩,
  ⟨some 12, .mv (.t 37), none⟩])
 (.seq (.reg [⟨some 39, .mv (.t 0), none⟩,
  ⟨some 40, .mv (.t 2), none⟩,
  ⟨some 41, .call 24 [(.t 39), (.t 40)], none⟩,
  ⟨some 38, .mv (.t 41), none⟩,
  ⟨some 42, .ex 0 (.t 38), none⟩,
  ⟨some 43, .ex 1 (.t 38), none⟩,
  ⟨some 13, .mv (.t 42), none⟩,
  ⟨some 14, .mv (.t 43), none⟩])
 (.seq (.reg [⟨some 44, .mv (.t 11), none⟩,
  ⟨some 45, .mv (.t 13), none⟩,
  ⟨some 46, .call 12 [(.t 44), (.t 45)], none⟩,
  ⟨some 47, .mv (.t 46), none⟩,
  ⟨some 48, .mv (.t 12), some (47, true)⟩,
  ⟨some 49, .mv (.t 14), some (47, true)⟩,
  ⟨some 50, .bin .eql [1] (.t 48) (.t 49), some (47, true)⟩,
  ⟨some 51, .pick (.t 47) (.t 50) (.c (.bool false)), none⟩,
  ⟨some 15, .mv (.t 51), none⟩])
 (.seq (.reg [⟨some 52, .mv (.t 13), none⟩,
  ⟨some 53, .call 13 [(.t 52)], none⟩,
  ⟨some 16, .mv (.t 53), none⟩])
 (.seq (.seq (.reg [⟨some 54, .mv (.t 11), none⟩,
  ⟨some 55, .len none (.t 54), none⟩,
  ⟨some 56, .mv (.c (.int .i64 0)), none⟩])
 (.block 0 [0, 1, 7, 8, 9, 10, 13, 15, 16]
 (.loop [0, 1, 7, 8, 9, 10, 11, 13, 15, 16, 55, 56]
 (.seq (.reg [⟨some 57, .bin .lss [] (.t 56) (.t 55), none⟩])
 (.seq (.cond (.t 57)
 (.skip)
 (.exit 0))
 (.seq (.block 1 [0, 1, 7, 8, 9, 10, 11, 13, 15, 16, 55, 56]
 (.seq (.reg [⟨some 58, .mv (.t 56), none⟩,
  ⟨some 17, .mv (.t 58), none⟩])
 (.reg [⟨some 59, .mv (.t 11), none⟩,
  ⟨some 60, .mv (.t 17), none⟩,
  ⟨some 61, .ia none 1 (.t 59) (.t 60), none⟩,
  ⟨some 62, .ld none (.t 61), none⟩,
  ⟨some 63, .bin .xor [] (.t 62) (.c (.int .u8 255)), none⟩,
  ⟨some 64, .ia none 1 (.t 59) (.t 60), none⟩,
  ⟨none, .st 1 (.t 64) (.t 63), none⟩])))
 (.reg [⟨some 65, .bin .add [] (.t 56) (.c (.int .i64 1)), none⟩,
  ⟨some 56, .mv (.t 65), none⟩])))))))
 puts2)))))))),
 [.tmp 6], true⟩ := rfl
theorem put_any {h : AHeap} {x : AV} {F : List (Int × List Int)} (hg : Good h) (hx : ExtAt h x F) (hF : F.length < 1000000) (hD : ∀ z ∈ F, z.2.length < 1000000000) (hB : ∀ z ∈ F, Byt z.2) :
    ∃ y js, W CP 19 [x] h = some (.tup [y, .int .i64 (if mayX F then 0 else 1)], h ++ js, []) ∧ BV (h ++ js) y (if mayX F then putX F else []) ∧ Good (h ++ js) := by
  cases hm : mayX F with
  | true =>
    obtain ⟨y, js, e, g, hG, _⟩ := xput_ok hg hx hm
    exact ⟨y, js, e, gsAt_bv g (putX_byt hB), hG⟩
  | false => exact ⟨.nils, [], by rw [List.append_nil]; exact xput_bad hg hx hF hD hm, BV.nil _, by rw [List.append_nil]; exact hg⟩
theorem refput_any {h : AHeap} {x : AV} {F : List (Int × List Int)} (hg : Good h) (hx : ExtAt h x F) (hF : F.length < 1000000) (hD : ∀ z ∈ F, z.2.length < 1000000000) (hB : ∀ z ∈ F, Byt z.2) :
    ∃ y js, W CP 23 [x] h = some (.tup [y, .int .i64 (if mayX F then 0 else 1)], h ++ js, []) ∧ BV (h ++ js) y (if mayX F then putX F else []) ∧ Good (h ++ js) := by
  cases hm : mayX F with
  | true =>
    obtain ⟨y, js, e, g, hG, _⟩ := xrefput_ok hg hx hm
    exact ⟨y, js, e, gsAt_bv g (putX_byt hB), hG⟩
  | false => exact ⟨.nils, [], by rw [List.append_nil]; exact xrefput_bad hg hx hF hD hm, BV.nil _, by rw [List.append_nil]; exact hg⟩
theorem row_byt {h : AHeap} {v : AV} {F : List (Int × List Int)} {A : List AV} (r : RowX h v F A) : ∀ z ∈ F, Byt z.2 := fun z hz => by
  obtain ⟨i, hi⟩ := List.getElem?_of_mem hz
  obtain ⟨_, _, d, _, b, _⟩ := r.el i z.1 z.2 hi
  exact b.1
set_option maxHeartbeats 8000000 in
theorem puts2_w {X : AHeap} (hg : Good X) {a : Acts} {v1 v2 y z w own : AV} {e : Int} {F G : List (Int × List Int)} {A1 A2 : List AV} {D Dx : List Int} {base : Nat} (k0 : look a 0 = some v1) (k1 : look a 1 = some v2) (k7 : look a 7 = some y) (k8 : look a 8 = some (.int .i64 e)) (k9 : look a 9 = some z) (k10 : look a 10 = some (.int .i64 e)) (k13 : look a 13 = some w) (k15 : look a 15 = some (.bool true)) (k16 : look a 16 = some own)
    (r1 : RowX X v1 F A1) (r2 : RowX X v2 G A2) (by1 : BV X y D) (bz : BV X z D) (bw : BV X w Dx) (bo : BV X own Dx) (hF : fewX F = F) (hF12 : F.length ≤ 12) (hFl : ∀ z ∈ F, z.2.length ≤ 600) : Wp (xexec (W CP) base puts2 a X []) EndsB := by
  have n1 := na_slen r1.xr.len
  have n2 := na_slen r2.xr.len
  have n3 := by1.na
  have n4 := bz.na
  have n5 := bw.na
  have n6 := bo.na
  have aw := fun h => awake_c h
  have eE := equal_c hg by1 bz
  rw [decide_eq_true rfl] at eE
  have eE2 := equal_c hg bo bw
  rw [decide_eq_true rfl] at eE2
  have eM := mayX_c hg r1.xr (by omega) (fun z hz => by have := hFl z hz; omega)
  have eM2 := refMayX_c hg r1.xr (by omega) (fun z hz => by have := hFl z hz; omega)
  have eS := sameX_c hg r1.xr r2.xr (by omega)
  have eS2 := refSameX_c hg r1.xr r2.xr (by omega)
  obtain ⟨v3, js, A3, eF, r3, hj, _⟩ := few_c hg r1
  rw [hF] at r3
  have n7 := na_slen r3.xr.len
  have eS3 := sameX_c (good_app hg hj) (r1.app js).xr r3.xr (by omega)
  rw [decide_eq_true rfl] at eS3
  obtain ⟨bm, hbm⟩ : ∃ b, mayX F = b := ⟨_, rfl⟩
  obtain ⟨bs, hbs⟩ : ∃ b, decide (F = G) = b := ⟨_, rfl⟩
  rw [hbm] at eM eM2
  rw [hbs] at eS eS2
  simp (maxDischargeDepth := 9) -implicitDefEqProofs only [push_cast, reduceIte, Nat.reduceEqDiff, Nat.reduceAdd, Nat.reduceSub, Nat.reduceMul, Nat.reduceDiv, Nat.reduceMod, Nat.reduceLT, Nat.reduceLeDiff, Nat.reduceBEq, Nat.reduceBNe, reduceCtorEq, Int.reduceEq, Int.reduceNe, Int.reduceLT, Int.reduceLE, Int.reduceToNat, Int.reduceNeg, Int.reduceAdd, Int.reduceSub, Int.reduceMul, Int.reducePow, Nat.reducePow, Int.reduceBEq, puts2, nadd1, nadd2, nadd3, nadd4, nadd5, nadd6, nadd7, nadd8, nadd9, nadd10, nadd11, nadd12, k0, k1, k7, k8, k9, k10, k13, k15, k16, n1, n2, n3, n4, n5, n6, n7, aw, eE, eE2, eM, eM2, eS, eS2, eF, eS3]
  exact ⟨_, _, _, rfl, by simp (maxDischargeDepth := 9) -implicitDefEqProofs only [push_cast, reduceIte, Nat.reduceEqDiff, Nat.reduceAdd, Nat.reduceSub, Nat.reduceMul, Nat.reduceDiv, Nat.reduceMod, Nat.reduceLT, Nat.reduceLeDiff, Nat.reduceBEq, Nat.reduceBNe, reduceCtorEq, Int.reduceEq, Int.reduceNe, Int.reduceLT, Int.reduceLE, Int.reduceToNat, Int.reduceNeg, Int.reduceAdd, Int.reduceSub, Int.reduceMul, Int.reducePow, Nat.reducePow, Int.reduceBEq]⟩
set_option maxHeartbeats 16000000 in
theorem puts_body {g : AHeap} (hg : Good g) {x1 x2 : AV} (hx1 : Ty g (.sl [.i .u16, .sl [.i .u8]]) x1) (hx2 : Ty g (.sl [.i .u16, .sl [.i .u8]]) x2) {u : Int} : Wp (xbody (W CP) M8 [x1, x2, .int .u16 u] g) fun r => r.1 = .bool true := by
  obtain ⟨F0, A0, ax⟩ := arg_ext hx1
  obtain ⟨G0, B0, bx⟩ := arg_ext hx2
  have hnx1 := na_slen ax.xr.len
  have hnx2 := na_slen bx.xr.len
  obtain ⟨v1, js1, A1, eF1, r1, hj1, _⟩ := few_c hg ax.row
  have hG1 := good_app hg hj1
  have bx1 := bx.row.app js1
  obtain ⟨H1, hH1⟩ : ∃ H1, g ++ js1 = H1 := ⟨_, rfl⟩
  have l01 : g.length ≤ H1.length := by rw [← hH1]; simp
  rw [hH1] at eF1 r1 hG1 bx1
  obtain ⟨v2, js2, A2, eF2, r2, hj2, _⟩ := few_c hG1 bx1
  have hG2 := good_app hG1 hj2
  have r1' := r1.app js2
  obtain ⟨H2, hH2⟩ : ∃ H2, H1 ++ js2 = H2 := ⟨_, rfl⟩
  have l12 : H1.length ≤ H2.length := by rw [← hH2]; simp
  rw [hH2] at eF2 r2 hG2 r1'
  have hFt := fewX_twice F0
  have hFl := fewX_lens F0
  have hF12 : (fewX F0).length ≤ 12 := by rw [fewX_len]; omega
  obtain ⟨F, hF⟩ : ∃ F, fewX F0 = F := ⟨_, rfl⟩
  rw [hF] at r1' hFt hFl hF12
  have hD9 : ∀ z ∈ F, z.2.length < 1000000000 := fun z hz => by have := hFl z hz; omega
  obtain ⟨y, js3, eU, by3, hG3⟩ := put_any hG2 r1'.xr (by omega) hD9 (row_byt r1')
  have r13 := r1'.app js3
  have r23 := r2.app js3
  obtain ⟨H3, hH3⟩ : ∃ H3, H2 ++ js3 = H3 := ⟨_, rfl⟩
  have l23 : H2.length ≤ H3.length := by rw [← hH3]; simp
  rw [hH3] at eU by3 hG3 r13 r23
  obtain ⟨z, js4, eV, bz4, hG4⟩ := refput_any hG3 r13.xr (by omega) hD9 (row_byt r13)
  have r14 := r13.app js4
  have r24 := r23.app js4
  have by4 := by3.app js4
  obtain ⟨H4, hH4⟩ : ∃ H4, H3 ++ js4 = H4 := ⟨_, rfl⟩
  have l34 : H3.length ≤ H4.length := by rw [← hH4]; simp
  rw [hH4] at eV bz4 hG4 r14 r24 by4
  obtain ⟨e, he⟩ : ∃ e : Int, (if mayX F then (0 : Int) else 1) = e := ⟨_, rfl⟩
  obtain ⟨D, hD⟩ : ∃ D : List Int, (if mayX F then putX F else []) = D := ⟨_, rfl⟩
  rw [he] at eU eV
  rw [hD] at by4 bz4
  obtain ⟨xf, js5, eX, bx5, nj5, _, ho5⟩ := find_c (u := u) hG4 r14.xr (by omega) hD9
  have hG5 := good_app hG4 nj5
  have low5 : ∀ (q : Nat) (z : ABlk), H4[q]? = some z → (H4 ++ js5)[q]? = some z := fun q z e => by rw [List.getElem?_append_left (List.getElem?_eq_some_iff.1 e).1]; exact e
  have r15 := r14.app js5
  obtain ⟨H5, hH5⟩ : ∃ H5, H4 ++ js5 = H5 := ⟨_, rfl⟩
  have l45 : H4.length ≤ H5.length := by rw [← hH5]; simp
  rw [hH5] at eX bx5 hG5 low5 r15 ho5
  obtain ⟨rb, ro, rl, rx⟩ := r14.xr
  have bw4 := vOf_bv rx u
  have bw5 := bw4.keep low5
  have eW5 := refFind_k (u := u) hG5 (rx.keep l45 low5) (by omega)
  obtain ⟨w', hw'⟩ : ∃ w, vOf rl ro F u = w := ⟨_, rfl⟩
  rw [hw'] at bw4 bw5 eW5
  obtain ⟨Dx, hDx⟩ : ∃ Dx, (findX F u).getD [] = Dx := ⟨_, rfl⟩
  obtain ⟨is, his⟩ : ∃ b, (findX F u).isSome = b := ⟨_, rfl⟩
  have hDxl : Dx.length ≤ 600 := by
    rw [← hDx]
    cases hf : findX F u with
    | none => simp
    | some E =>
      unfold findX at hf
      simp only [Option.map_eq_some_iff] at hf
      obtain ⟨q, hq, rfl⟩ := hf
      exact hFl q (List.mem_of_find?_eq_some hq)
  rw [hDx] at bx5 bw4 bw5 ho5
  rw [his] at eX eW5
  have eE := equal_c hG5 bx5 bw5
  rw [decide_eq_true rfl] at eE
  have eO := own_c hG5 bw5 (by omega)
  obtain ⟨oV, hoV⟩ : ∃ z, ownV H5.length Dx = z := ⟨_, rfl⟩
  obtain ⟨H6, hH6⟩ : ∃ H6, H5 ++ ownH Dx = H6 := ⟨_, rfl⟩
  have hG6 : Good H6 := by rw [← hH6]; exact good_app hG5 (ownH_notOld _)
  have l56 : H5.length ≤ H6.length := by rw [← hH6]; simp
  have low6 : ∀ (q : Nat) (z : ABlk), H5[q]? = some z → H6[q]? = some z := fun q z e => by rw [← hH6, List.getElem?_append_left (List.getElem?_eq_some_iff.1 e).1]; exact e
  have bO6 : BV H6 oV Dx := by rw [← hH6, ← hoV]; exact own_bv bw5.1 _
  have na6 := bO6.na
  rw [hH6, hoV] at eO
  have n1 := na_slen r15.xr.len
  have n2 := na_slen r24.xr.len
  have n3 := by4.na
  have n4 := bz4.na
  have n5 := bx5.na
  have n6 := bw5.na
  have lx := bx5.len
  obtain ⟨n, hn⟩ : ∃ n, Dx.length = n := ⟨_, rfl⟩
  rw [hn] at lx
  rw [puts_parts]
  have aw := fun h => awake_c h
  simp (maxDischargeDepth := 9) -implicitDefEqProofs only [push_cast, reduceIte, Nat.reduceEqDiff, Nat.reduceAdd, Nat.reduceSub, Nat.reduceMul, Nat.reduceDiv, Nat.reduceMod, Nat.reduceLT, Nat.reduceLeDiff, Nat.reduceBEq, Nat.reduceBNe, reduceCtorEq, Int.reduceEq, Int.reduceNe, Int.reduceLT, Int.reduceLE, Int.reduceToNat, Int.reduceNeg, Int.reduceAdd, Int.reduceSub, Int.reduceMul, Int.reducePow, Nat.reducePow, Int.reduceBEq, nadd1, nadd2, nadd3, nadd4, nadd5, nadd6, nadd7, nadd8, nadd9, nadd10, nadd11, nadd12, hnx1, hnx2, eF1, eF2, n1, n2, eU, eV, n3, n4, eX, n5, eW5, n6, eE, eO, na6, lx]
  by_cases hne : n = 0
  · subst hne
    obtain rfl : Dx = [] := List.length_eq_zero_iff.1 hn
    obtain rfl : oV = .nils := hoV.symm
    refine wp_endsB (wp_kSeq (wp_kBlock ?_))
    refine wp_loop (fun k aa h' ws => aa = [(0, v1), (1, v2), (7, y), (8, .int .i64 e), (9, z), (10, .int .i64 e), (11, xf), (13, w'), (15, .bool true), (16, .nils), (55, .int .i64 0), (56, .int .i64 0)] ∧ h' = H6 ∧ ws = []) 1 ?_ ?_
    · refine ⟨?_, rfl, rfl⟩
      simp (maxDischargeDepth := 9) -implicitDefEqProofs only [push_cast, reduceIte, Nat.reduceEqDiff, Nat.reduceAdd, Nat.reduceSub, Nat.reduceMul, Nat.reduceDiv, Nat.reduceMod, Nat.reduceLT, Nat.reduceLeDiff, Nat.reduceBEq, Nat.reduceBNe, reduceCtorEq, Int.reduceEq, Int.reduceNe, Int.reduceLT, Int.reduceLE, Int.reduceToNat, Int.reduceNeg, Int.reduceAdd, Int.reduceSub, Int.reduceMul, Int.reducePow, Nat.reducePow, Int.reduceBEq, n1, n2, n3, n4, n5, n6]
    · rintro k aa h' ws ⟨rfl, rfl, rfl⟩
      simp (maxDischargeDepth := 9) -implicitDefEqProofs only [push_cast, reduceIte, Nat.reduceEqDiff, Nat.reduceAdd, Nat.reduceSub, Nat.reduceMul, Nat.reduceDiv, Nat.reduceMod, Nat.reduceLT, Nat.reduceLeDiff, Nat.reduceBEq, Nat.reduceBNe, reduceCtorEq, Int.reduceEq, Int.reduceNe, Int.reduceLT, Int.reduceLE, Int.reduceToNat, Int.reduceNeg, Int.reduceAdd, Int.reduceSub, Int.reduceMul, Int.reducePow, Nat.reducePow, Int.reduceBEq, n1, n2, n3, n4, n5, n6]
      exact puts2_w (e := e) (own := .nils) hG6 (by simp (maxDischargeDepth := 9) -implicitDefEqProofs only [push_cast, reduceIte, Nat.reduceEqDiff, Nat.reduceAdd, Nat.reduceSub, Nat.reduceMul, Nat.reduceDiv, Nat.reduceMod, Nat.reduceLT, Nat.reduceLeDiff, Nat.reduceBEq, Nat.reduceBNe, reduceCtorEq, Int.reduceEq, Int.reduceNe, Int.reduceLT, Int.reduceLE, Int.reduceToNat, Int.reduceNeg, Int.reduceAdd, Int.reduceSub, Int.reduceMul, Int.reducePow, Nat.reducePow, Int.reduceBEq]) (by simp (maxDischargeDepth := 9) -implicitDefEqProofs only [push_cast, reduceIte, Nat.reduceEqDiff, Nat.reduceAdd, Nat.reduceSub, Nat.reduceMul, Nat.reduceDiv, Nat.reduceMod, Nat.reduceLT, Nat.reduceLeDiff, Nat.reduceBEq, Nat.reduceBNe, reduceCtorEq, Int.reduceEq, Int.reduceNe, Int.reduceLT, Int.reduceLE, Int.reduceToNat, Int.reduceNeg, Int.reduceAdd, Int.reduceSub, Int.reduceMul, Int.reducePow, Nat.reducePow, Int.reduceBEq]) (by simp (maxDischargeDepth := 9) -implicitDefEqProofs only [push_cast, reduceIte, Nat.reduceEqDiff, Nat.reduceAdd, Nat.reduceSub, Nat.reduceMul, Nat.reduceDiv, Nat.reduceMod, Nat.reduceLT, Nat.reduceLeDiff, Nat.reduceBEq, Nat.reduceBNe, reduceCtorEq, Int.reduceEq, Int.reduceNe, Int.reduceLT, Int.reduceLE, Int.reduceToNat, Int.reduceNeg, Int.reduceAdd, Int.reduceSub, Int.reduceMul, Int.reducePow, Nat.reducePow, Int.reduceBEq]) (by simp (maxDischargeDepth := 9) -implicitDefEqProofs only [push_cast, reduceIte, Nat.reduceEqDiff, Nat.reduceAdd, Nat.reduceSub, Nat.reduceMul, Nat.reduceDiv, Nat.reduceMod, Nat.reduceLT, Nat.reduceLeDiff, Nat.reduceBEq, Nat.reduceBNe, reduceCtorEq, Int.reduceEq, Int.reduceNe, Int.reduceLT, Int.reduceLE, Int.reduceToNat, Int.reduceNeg, Int.reduceAdd, Int.reduceSub, Int.reduceMul, Int.reducePow, Nat.reducePow, Int.reduceBEq]) (by simp (maxDischargeDepth := 9) -implicitDefEqProofs only [push_cast, reduceIte, Nat.reduceEqDiff, Nat.reduceAdd, Nat.reduceSub, Nat.reduceMul, Nat.reduceDiv, Nat.reduceMod, Nat.reduceLT, Nat.reduceLeDiff, Nat.reduceBEq, Nat.reduceBNe, reduceCtorEq, Int.reduceEq, Int.reduceNe, Int.reduceLT, Int.reduceLE, Int.reduceToNat, Int.reduceNeg, Int.reduceAdd, Int.reduceSub, Int.reduceMul, Int.reducePow, Nat.reducePow, Int.reduceBEq]) (by simp (maxDischargeDepth := 9) -implicitDefEqProofs only [push_cast, reduceIte, Nat.reduceEqDiff, Nat.reduceAdd, Nat.reduceSub, Nat.reduceMul, Nat.reduceDiv, Nat.reduceMod, Nat.reduceLT, Nat.reduceLeDiff, Nat.reduceBEq, Nat.reduceBNe, reduceCtorEq, Int.reduceEq, Int.reduceNe, Int.reduceLT, Int.reduceLE, Int.reduceToNat, Int.reduceNeg, Int.reduceAdd, Int.reduceSub, Int.reduceMul, Int.reducePow, Nat.reducePow, Int.reduceBEq]) (by simp (maxDischargeDepth := 9) -implicitDefEqProofs only [push_cast, reduceIte, Nat.reduceEqDiff, Nat.reduceAdd, Nat.reduceSub, Nat.reduceMul, Nat.reduceDiv, Nat.reduceMod, Nat.reduceLT, Nat.reduceLeDiff, Nat.reduceBEq, Nat.reduceBNe, reduceCtorEq, Int.reduceEq, Int.reduceNe, Int.reduceLT, Int.reduceLE, Int.reduceToNat, Int.reduceNeg, Int.reduceAdd, Int.reduceSub, Int.reduceMul, Int.reducePow, Nat.reducePow, Int.reduceBEq]) (by simp (maxDischargeDepth := 9) -implicitDefEqProofs only [push_cast, reduceIte, Nat.reduceEqDiff, Nat.reduceAdd, Nat.reduceSub, Nat.reduceMul, Nat.reduceDiv, Nat.reduceMod, Nat.reduceLT, Nat.reduceLeDiff, Nat.reduceBEq, Nat.reduceBNe, reduceCtorEq, Int.reduceEq, Int.reduceNe, Int.reduceLT, Int.reduceLE, Int.reduceToNat, Int.reduceNeg, Int.reduceAdd, Int.reduceSub, Int.reduceMul, Int.reducePow, Nat.reducePow, Int.reduceBEq]) (by simp (maxDischargeDepth := 9) -implicitDefEqProofs only [push_cast, reduceIte, Nat.reduceEqDiff, Nat.reduceAdd, Nat.reduceSub, Nat.reduceMul, Nat.reduceDiv, Nat.reduceMod, Nat.reduceLT, Nat.reduceLeDiff, Nat.reduceBEq, Nat.reduceBNe, reduceCtorEq, Int.reduceEq, Int.reduceNe, Int.reduceLT, Int.reduceLE, Int.reduceToNat, Int.reduceNeg, Int.reduceAdd, Int.reduceSub, Int.reduceMul, Int.reducePow, Nat.reducePow, Int.reduceBEq]) (r15.keep low6) ((r24.keep low5).keep low6) ((by4.keep low5).keep low6) ((bz4.keep low5).keep low6) (bw5.keep low6) bO6 hFt hF12 hFl
  · have hDne : Dx ≠ [] := fun h => hne (by rw [← hn, h]; rfl)
    obtain ⟨p, rfl, hp5, hpl⟩ := ho5 hDne
    have hp5l := (List.getElem?_eq_some_iff.1 hp5).1
    have hp6 := low6 _ _ hp5
    rw [hn]
    rw [hn] at n5
    rw [ownV_ne hDne, hn] at hoV
    subst hoV
    have ho6 : H6[H5.length]? = some ⟨.tip false, .ints .u8 Dx⟩ := by rw [← hH6, ownH_ne hDne]; exact end_get _ _ _
    have hpl6 : p < H6.length := by omega
    have hpg : ¬ p < g.length := by omega
    refine wp_endsB (wp_kSeq (wp_kBlock ?_))
    refine wp_loop (fun k aa h' ws => ∃ i : Nat, k = n - i ∧ i ≤ n ∧ aa = [(0, v1), (1, v2), (7, y), (8, .int .i64 e), (9, z), (10, .int .i64 e), (11, .gsl p 0 n 1 false), (13, w'), (15, .bool true), (16, .gsl H5.length 0 n 1 false), (55, .int .i64 (n : Int)), (56, .int .i64 (i : Int))] ∧ (∃ l' : List Int, l'.length = n ∧ h' = H6.set p ⟨.tip false, .ints .u8 l'⟩) ∧ ws = []) n ?_ ?_
    · refine ⟨0, by omega, by omega, ?_, ⟨Dx, hn, (set_same hp6).symm⟩, rfl⟩
      simp (maxDischargeDepth := 9) -implicitDefEqProofs only [push_cast, reduceIte, Nat.reduceEqDiff, Nat.reduceAdd, Nat.reduceSub, Nat.reduceMul, Nat.reduceDiv, Nat.reduceMod, Nat.reduceLT, Nat.reduceLeDiff, Nat.reduceBEq, Nat.reduceBNe, reduceCtorEq, Int.reduceEq, Int.reduceNe, Int.reduceLT, Int.reduceLE, Int.reduceToNat, Int.reduceNeg, Int.reduceAdd, Int.reduceSub, Int.reduceMul, Int.reducePow, Nat.reducePow, Int.reduceBEq, n1, n2, n3, n4, n5, n6]
    · rintro k aa h' ws ⟨i, rfl, hi, rfl, ⟨l', hl', rfl⟩, rfl⟩
      have v1w : IntKind.i64.wrap ((i : Int) + 1) = (i : Int) + 1 := wr_i64 _ (by omega) (by omega)
      by_cases hlt : i < n
      · have hlt' : (i : Int) < (n : Int) := by omega
        obtain ⟨d, hd⟩ : ∃ d, l'[i]? = some d := ⟨_, List.getElem?_eq_getElem (by omega)⟩
        have hil : i < l'.length := by omega
        simp (maxDischargeDepth := 9) -implicitDefEqProofs only [push_cast, reduceIte, Nat.reduceEqDiff, Nat.reduceAdd, Nat.reduceSub, Nat.reduceMul, Nat.reduceDiv, Nat.reduceMod, Nat.reduceLT, Nat.reduceLeDiff, Nat.reduceBEq, Nat.reduceBNe, reduceCtorEq, Int.reduceEq, Int.reduceNe, Int.reduceLT, Int.reduceLE, Int.reduceToNat, Int.reduceNeg, Int.reduceAdd, Int.reduceSub, Int.reduceMul, Int.reducePow, Nat.reducePow, Int.reduceBEq, nadd1, nadd2, nadd3, nadd4, nadd5, nadd6, nadd7, nadd8, nadd9, nadd10, nadd11, nadd12, hlt, hlt', v1w, hpl6, hpg, hd, hil, Nat.mul_one]
        refine loop_next (n - (i + 1)) (by omega) ⟨i + 1, rfl, by omega, ?_, ⟨l'.set i (abits .xor .u8 d 255), by rw [List.length_set]; exact hl', rfl⟩, rfl⟩
        simp (maxDischargeDepth := 9) -implicitDefEqProofs only [push_cast, reduceIte, Nat.reduceEqDiff, Nat.reduceAdd, Nat.reduceSub, Nat.reduceMul, Nat.reduceDiv, Nat.reduceMod, Nat.reduceLT, Nat.reduceLeDiff, Nat.reduceBEq, Nat.reduceBNe, reduceCtorEq, Int.reduceEq, Int.reduceNe, Int.reduceLT, Int.reduceLE, Int.reduceToNat, Int.reduceNeg, Int.reduceAdd, Int.reduceSub, Int.reduceMul, Int.reducePow, Nat.reducePow, Int.reduceBEq, n1, n2, n3, n4, n6]; try simp
      · have hnl : ¬ (i : Int) < (n : Int) := by omega
        simp (maxDischargeDepth := 9) -implicitDefEqProofs only [push_cast, reduceIte, Nat.reduceEqDiff, Nat.reduceAdd, Nat.reduceSub, Nat.reduceMul, Nat.reduceDiv, Nat.reduceMod, Nat.reduceLT, Nat.reduceLeDiff, Nat.reduceBEq, Nat.reduceBNe, reduceCtorEq, Int.reduceEq, Int.reduceNe, Int.reduceLT, Int.reduceLE, Int.reduceToNat, Int.reduceNeg, Int.reduceAdd, Int.reduceSub, Int.reduceMul, Int.reducePow, Nat.reducePow, Int.reduceBEq, hnl, n1, n2, n3, n4, n6]
        have lowX : ∀ (q : Nat) (z : ABlk), H4[q]? = some z → (H6.set p ⟨.tip false, .ints .u8 l'⟩)[q]? = some z := fun q z e => by
          have := (List.getElem?_eq_some_iff.1 e).1
          rw [List.getElem?_set_ne (by omega)]
          exact low6 _ _ (low5 _ _ e)
        have hoX : (H6.set p ⟨.tip false, .ints .u8 l'⟩)[H5.length]? = some ⟨.tip false, .ints .u8 Dx⟩ := by
          rw [List.getElem?_set_ne (by omega)]; exact ho6
        exact puts2_w (e := e) (own := .gsl H5.length 0 n 1 false) (good_set hG6 rfl) (by simp (maxDischargeDepth := 9) -implicitDefEqProofs only [push_cast, reduceIte, Nat.reduceEqDiff, Nat.reduceAdd, Nat.reduceSub, Nat.reduceMul, Nat.reduceDiv, Nat.reduceMod, Nat.reduceLT, Nat.reduceLeDiff, Nat.reduceBEq, Nat.reduceBNe, reduceCtorEq, Int.reduceEq, Int.reduceNe, Int.reduceLT, Int.reduceLE, Int.reduceToNat, Int.reduceNeg, Int.reduceAdd, Int.reduceSub, Int.reduceMul, Int.reducePow, Nat.reducePow, Int.reduceBEq]) (by simp (maxDischargeDepth := 9) -implicitDefEqProofs only [push_cast, reduceIte, Nat.reduceEqDiff, Nat.reduceAdd, Nat.reduceSub, Nat.reduceMul, Nat.reduceDiv, Nat.reduceMod, Nat.reduceLT, Nat.reduceLeDiff, Nat.reduceBEq, Nat.reduceBNe, reduceCtorEq, Int.reduceEq, Int.reduceNe, Int.reduceLT, Int.reduceLE, Int.reduceToNat, Int.reduceNeg, Int.reduceAdd, Int.reduceSub, Int.reduceMul, Int.reducePow, Nat.reducePow, Int.reduceBEq]) (by simp (maxDischargeDepth := 9) -implicitDefEqProofs only [push_cast, reduceIte, Nat.reduceEqDiff, Nat.reduceAdd, Nat.reduceSub, Nat.reduceMul, Nat.reduceDiv, Nat.reduceMod, Nat.reduceLT, Nat.reduceLeDiff, Nat.reduceBEq, Nat.reduceBNe, reduceCtorEq, Int.reduceEq, Int.reduceNe, Int.reduceLT, Int.reduceLE, Int.reduceToNat, Int.reduceNeg, Int.reduceAdd, Int.reduceSub, Int.reduceMul, Int.reducePow, Nat.reducePow, Int.reduceBEq]) (by simp (maxDischargeDepth := 9) -implicitDefEqProofs only [push_cast, reduceIte, Nat.reduceEqDiff, Nat.reduceAdd, Nat.reduceSub, Nat.reduceMul, Nat.reduceDiv, Nat.reduceMod, Nat.reduceLT, Nat.reduceLeDiff, Nat.reduceBEq, Nat.reduceBNe, reduceCtorEq, Int.reduceEq, Int.reduceNe, Int.reduceLT, Int.reduceLE, Int.reduceToNat, Int.reduceNeg, Int.reduceAdd, Int.reduceSub, Int.reduceMul, Int.reducePow, Nat.reducePow, Int.reduceBEq]) (by simp (maxDischargeDepth := 9) -implicitDefEqProofs only [push_cast, reduceIte, Nat.reduceEqDiff, Nat.reduceAdd, Nat.reduceSub, Nat.reduceMul, Nat.reduceDiv, Nat.reduceMod, Nat.reduceLT, Nat.reduceLeDiff, Nat.reduceBEq, Nat.reduceBNe, reduceCtorEq, Int.reduceEq, Int.reduceNe, Int.reduceLT, Int.reduceLE, Int.reduceToNat, Int.reduceNeg, Int.reduceAdd, Int.reduceSub, Int.reduceMul, Int.reducePow, Nat.reducePow, Int.reduceBEq]) (by simp (maxDischargeDepth := 9) -implicitDefEqProofs only [push_cast, reduceIte, Nat.reduceEqDiff, Nat.reduceAdd, Nat.reduceSub, Nat.reduceMul, Nat.reduceDiv, Nat.reduceMod, Nat.reduceLT, Nat.reduceLeDiff, Nat.reduceBEq, Nat.reduceBNe, reduceCtorEq, Int.reduceEq, Int.reduceNe, Int.reduceLT, Int.reduceLE, Int.reduceToNat, Int.reduceNeg, Int.reduceAdd, Int.reduceSub, Int.reduceMul, Int.reducePow, Nat.reducePow, Int.reduceBEq]) (by simp (maxDischargeDepth := 9) -implicitDefEqProofs only [push_cast, reduceIte, Nat.reduceEqDiff, Nat.reduceAdd, Nat.reduceSub, Nat.reduceMul, Nat.reduceDiv, Nat.reduceMod, Nat.reduceLT, Nat.reduceLeDiff, Nat.reduceBEq, Nat.reduceBNe, reduceCtorEq, Int.reduceEq, Int.reduceNe, Int.reduceLT, Int.reduceLE, Int.reduceToNat, Int.reduceNeg, Int.reduceAdd, Int.reduceSub, Int.reduceMul, Int.reducePow, Nat.reducePow, Int.reduceBEq]) (by simp (maxDischargeDepth := 9) -implicitDefEqProofs only [push_cast, reduceIte, Nat.reduceEqDiff, Nat.reduceAdd, Nat.reduceSub, Nat.reduceMul, Nat.reduceDiv, Nat.reduceMod, Nat.reduceLT, Nat.reduceLeDiff, Nat.reduceBEq, Nat.reduceBNe, reduceCtorEq, Int.reduceEq, Int.reduceNe, Int.reduceLT, Int.reduceLE, Int.reduceToNat, Int.reduceNeg, Int.reduceAdd, Int.reduceSub, Int.reduceMul, Int.reducePow, Nat.reducePow, Int.reduceBEq]) (by simp (maxDischargeDepth := 9) -implicitDefEqProofs only [push_cast, reduceIte, Nat.reduceEqDiff, Nat.reduceAdd, Nat.reduceSub, Nat.reduceMul, Nat.reduceDiv, Nat.reduceMod, Nat.reduceLT, Nat.reduceLeDiff, Nat.reduceBEq, Nat.reduceBNe, reduceCtorEq, Int.reduceEq, Int.reduceNe, Int.reduceLT, Int.reduceLE, Int.reduceToNat, Int.reduceNeg, Int.reduceAdd, Int.reduceSub, Int.reduceMul, Int.reducePow, Nat.reducePow, Int.reduceBEq]) (r14.keep lowX) (r24.keep lowX) (by4.keep lowX) (bz4.keep lowX) (bw4.keep lowX) (gsl_bv (o := false) bw5.1 hn hoX) hFt hF12 hFl
theorem puts_law (js : AHeap) (avs : List AV) (hx : Ext js) (ht : TyA (CP.gl ++ js) [.one (.sl [.i .u16, .sl [.i .u8]]), .one (.sl [.i .u16, .sl [.i .u8]]), .one (.i .u16)] avs) : ∃ h' ws, W CP 8 avs (CP.gl ++ js) = some (.bool true, h', ws) := by
  simp only [TyA] at ht
  obtain ⟨v, _, rfl, hv, w, _, rfl, hw, _, _, rfl, hu, rfl⟩ := ht
  simp only [Ty] at hu
  obtain ⟨u, rfl, u0, u1⟩ := hu
  refine W_law (m := M8) (fun _ => rfl) rfl (puts_body (good_ext hx) hv hw) fun h0 => ?_
  simp only [AV.lts, Bool.and_eq_true] at h0
  exact puts_body good_gl (ty_nil hv h0.1) (ty_nil hw h0.2.1)
theorem puts_kinds : aksOf X.P 20 [22, 22, 23] = some [.one (.sl [.i .u16, .sl [.i .u8]]), .one (.sl [.i .u16, .sl [.i .u8]]), .one (.i .u16)] := by kernel_rfl
end Go.Proofs.YtpmibaeajmfdpaaW.AI.A

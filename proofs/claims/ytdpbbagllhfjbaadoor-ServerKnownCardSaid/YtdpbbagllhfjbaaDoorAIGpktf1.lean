import Derived.Test.YtdpbbagllhfjbaaDoorAIGpktl0
namespace Go.Proofs.YtdpbbagllhfjbaaDoorW.AI.G
open Go Go.Proofs.YtdpbbagllhfjbaaDoorW.AI Go.Proofs.YtdpbbagllhfjbaaDoorW.AI.Oct Go.RowKit
set_option maxRecDepth 100000
set_option linter.unusedSimpArgs false
set_option linter.unusedVariables false
set_option linter.unusedSectionVars false
theorem i8_mod (v : Int) (h0 : 0 ≤ v) (h1 : v < 256) : IntKind.i8.wrap v % 256 = v := by
  simp only [IntKind.wrap, IntKind.bits, IntKind.signed]
  simp
  split <;> omega
/-- Of bytes, the head's numbers. -/
theorem head_of {D : List Int} {v0 v1 v2 v3 v4 v5 v6 v7 v8 v9 v10 : Int} (hv : HV D v0 v1 v2 v3 v4 v5 v6 v7 v8 v9 v10) : headV (v0 / 64) (v0 / 8 % 8) (v0 % 8) v1 (IntKind.i8.wrap v2) (IntKind.i8.wrap v3) v4 v5 v6 v7 v8 v9 v10 = [v0, v1, v2, v3, v4, v5, v6, v7, v8, v9, v10] := by
  have hgt := hv.bounds
  obtain ⟨⟨p0, q0⟩, ⟨p1, q1⟩, ⟨p2, q2⟩, ⟨p3, q3⟩, _⟩ := hgt
  unfold headV
  rw [i8_mod v2 p2 q2, i8_mod v3 p3 q3, show v0 / 64 * 64 + v0 / 8 % 8 * 8 + v0 % 8 = v0 by omega]
theorem head_lay {D : List Int} {v0 v1 v2 v3 v4 v5 v6 v7 v8 v9 v10 : Int} (hv : HV D v0 v1 v2 v3 v4 v5 v6 v7 v8 v9 v10) : layB sizesN [v0, v1, v2, v3, v4, v5, v6, v7, v8, v9, v10] = D.take 48 := by
  rw [← hv.takeV]
  exact layB_takeV hv.B hv.l
/-- A head's numbers, laid: its bytes' numbers. -/
theorem hv_of {p0 p1 p2 p3 p4 p5 p6 p7 p8 p9 p10 p11 p12 : Int} {B : List Int} (hm : mayH p0 p1 p2 = true) (a0 : 0 ≤ p0) (b0 : p0 ≤ 255) (a1 : 0 ≤ p1) (b1 : p1 ≤ 255) (a2 : 0 ≤ p2) (b2 : p2 ≤ 255) (a3 : 0 ≤ p3) (b3 : p3 ≤ 255) (a4 : -128 ≤ p4) (b4 : p4 ≤ 127) (a5 : -128 ≤ p5) (b5 : p5 ≤ 127) (a6 : 0 ≤ p6) (b6 : p6 ≤ 4294967295) (a7 : 0 ≤ p7) (b7 : p7 ≤ 4294967295) (a8 : 0 ≤ p8) (b8 : p8 ≤ 4294967295) (a9 : 0 ≤ p9) (b9 : p9 ≤ 18446744073709551615) (a10 : 0 ≤ p10) (b10 : p10 ≤ 18446744073709551615) (a11 : 0 ≤ p11) (b11 : p11 ≤ 18446744073709551615) (a12 : 0 ≤ p12) (b12 : p12 ≤ 18446744073709551615) (hB : Byt B) : HV (layB sizesN (headV p0 p1 p2 p3 p4 p5 p6 p7 p8 p9 p10 p11 p12) ++ B) (p0 * 64 + p1 * 8 + p2) p3 (p4 % 256) (p5 % 256) p6 p7 p8 p9 p10 p11 p12 := by
  have hl : (layB sizesN (headV p0 p1 p2 p3 p4 p5 p6 p7 p8 p9 p10 p11 p12)).length = 48 := layB_len sizesN _ rfl
  have ht := takeV_layB (Ls := sizesN) (V := headV p0 p1 p2 p3 p4 p5 p6 p7 p8 p9 p10 p11 p12) (R := B) rfl (head_fits hm a0 b0 a1 b1 a2 b2 a3 b3 a4 b4 a5 b5 a6 b6 a7 b7 a8 b8 a9 b9 a10 b10 a11 b11 a12 b12)
  obtain ⟨w0, w1, w2, w3, w4, w5, w6, w7, w8, w9, w10, hv⟩ := HV.mk' ((layB_byt sizesN (headV p0 p1 p2 p3 p4 p5 p6 p7 p8 p9 p10 p11 p12)).app hB) (show 48 ≤ _ by rw [List.length_append]; omega)
  rw [hv.takeV] at ht
  simp only [headV, List.cons.injEq, and_true] at ht
  obtain ⟨rfl, rfl, rfl, rfl, rfl, rfl, rfl, rfl, rfl, rfl, rfl⟩ := ht
  exact hv
theorem i8_back (p : Int) (h0 : -128 ≤ p) (h1 : p ≤ 127) : IntKind.i8.wrap (p % 256) = p := by
  simp only [IntKind.wrap, IntKind.bits, IntKind.signed]
  simp
  split <;> omega
theorem mayS_iff {P : Pk} (h : mayS P = true) : P.s = true ↔ P.p15 ≠ 0 := by
  unfold mayS at h
  by_cases c : P.p15 = 0 <;> cases hs : P.s <;> simp_all
/-- What is put is read as it was. -/
theorem parse_putP {P : Pk} {F : List (Int × List Int)} (ok : P.Ok) (hm : mayP P F = true) (hF : ∀ z ∈ F, Byt z.2) (hT : ∀ z ∈ F, 0 ≤ z.1 ∧ z.1 < 65536) (hl : (putP P F).length ≤ 512) : parseP (putP P F) = .ok P F := by
  obtain ⟨mH, mX, mS, mT⟩ := mayP_parts hm
  obtain ⟨S, hS⟩ : ∃ S, (if P.s = true then signB P else []) = S := ⟨_, rfl⟩
  have hput : putP P F = headP P ++ (putX F ++ S) := by unfold putP bodyP; rw [hS, List.append_assoc]
  have hBS : Byt (putX F ++ S) := by
    refine (putX_byt hF).app ?_
    rw [← hS]
    split
    · exact signB_byt P
    · intro x hx; simp at hx
  have hv := hv_of (B := putX F ++ S) mH ok.a0 ok.b0 ok.a1 ok.b1 ok.a2 ok.b2 ok.a3 ok.b3 ok.a4 ok.b4 ok.a5 ok.b5 ok.a6 ok.b6 ok.a7 ok.b7 ok.a8 ok.b8 ok.a9 ok.b9 ok.a10 ok.b10 ok.a11 ok.b11 ok.a12 ok.b12 hBS
  have hS12 : S.length = 0 ∨ S.length = 12 := by
    rw [← hS]
    split
    · exact Or.inr (signB_len P)
    · exact Or.inl rfl
  have hx : parseX 9 [] ((putP P F).drop 48) = .ok F S := by
    rw [hput, List.drop_left' (headP_len P)]
    exact parse_put mX hT hS12
  have m := mH
  simp only [mayH, Bool.and_eq_true, decide_eq_true_eq] at m
  obtain ⟨⟨⟨m1, m2⟩, m3⟩, m4⟩ := m
  have a0 := ok.a0
  have a2 := ok.a2
  have e0 : (P.p0 * 64 + P.p1 * 8 + P.p2) / 64 = P.p0 := by omega
  have e1 : (P.p0 * 64 + P.p1 * 8 + P.p2) / 8 % 8 = P.p1 := by omega
  have e2 : (P.p0 * 64 + P.p1 * 8 + P.p2) % 8 = P.p2 := by omega
  have e4 := i8_back P.p4 ok.a4 ok.b4
  have e5 := i8_back P.p5 ok.a5 ok.b5
  have hl48 : 48 ≤ (putP P F).length := by rw [hput, List.length_append, headP_len]; omega
  unfold parseP
  rw [if_neg (by omega), if_neg (by omega)]
  have htv := hv.takeV
  rw [show layB sizesN (headV P.p0 P.p1 P.p2 P.p3 P.p4 P.p5 P.p6 P.p7 P.p8 P.p9 P.p10 P.p11 P.p12) = headP P from rfl, ← hput] at htv
  rw [htv]
  simp only
  rw [e1, if_pos ⟨m2, m3⟩, hx]
  have hpk : pkV (P.p0 * 64 + P.p1 * 8 + P.p2) P.p3 (P.p4 % 256) (P.p5 % 256) P.p6 P.p7 P.p8 P.p9 P.p10 P.p11 P.p12 = { P with s := false, p15 := 0, p16 := 0 } := by
    simp only [pkV, e0, e1, e2, e4, e5]
  rw [hpk]
  have hi := mayS_iff mS
  simp only [parseQ]
  cases hs : P.s with
  | false =>
    rw [hs] at hS
    simp only [Bool.false_eq_true, if_false] at hS
    subst hS
    rw [if_pos (show ([] : List Int).length = 0 from rfl)]
    have h15 : P.p15 = 0 := by
      rw [hs] at hi
      simpa using hi
    have h16 : P.p16 = 0 := by
      unfold mayT at mT
      rw [hs] at mT
      simpa using mT
    obtain ⟨⟩ := P
    simp_all
  | true =>
    rw [hs] at hS
    simp only [if_true] at hS
    subst hS
    have l4 : (dg 4 P.p15).length = 4 := dg_len _ _
    have h1 : be ((signB P).take 4) = P.p15 := by
      unfold signB
      rw [List.take_left' l4, be_dg 4 _ ok.a15 (by have := ok.b15; omega)]
    have h2 : be ((signB P).drop 4) = P.p16 := by
      unfold signB
      rw [List.drop_left' l4, be_dg 8 _ ok.a16 (by have := ok.b16; omega)]
    rw [if_neg (by rw [signB_len]; omega), h1, h2, if_neg (hi.1 hs)]
    obtain ⟨⟩ := P
    simp_all
/-- What is read may be, and is put as it was. -/
theorem put_parseP {D : List Int} {P : Pk} {F : List (Int × List Int)} (hB : Byt D) (h : parseP D = .ok P F) : mayP P F = true ∧ putP P F = D ∧ D.length ≤ 512 := by
  obtain ⟨h512, v0, v1, v2, v3, v4, v5, v6, v7, v8, v9, v10, T, hv, cv, hp, hBT, hk⟩ := parseP_inv hB h
  obtain ⟨F2, q1, q2, q3, q4, q5⟩ := put_parse 9 [] F (D.drop 48) T (fun z hz => hB z (List.mem_of_mem_drop hz)) (by simp) hp
  rw [List.nil_append] at q1
  subst q1
  have b := hv.bounds
  have mX : mayX F = true := by
    unfold mayX
    simp only [Bool.and_eq_true, decide_eq_true_eq, Bool.not_eq_true', List.any_eq_false]
    refine ⟨q4, fun z hz => ?_⟩
    have := (q3 z hz).2
    simp [badX, this]
  have mH : mayH (v0 / 64) (v0 / 8 % 8) (v0 % 8) = true := by
    simp only [mayH, Bool.and_eq_true, decide_eq_true_eq]
    refine ⟨⟨⟨?_, cv.1⟩, cv.2⟩, ?_⟩ <;> omega
  have hh : ∀ P' : Pk, P'.p0 = v0 / 64 → P'.p1 = v0 / 8 % 8 → P'.p2 = v0 % 8 → P'.p3 = v1 → P'.p4 = IntKind.i8.wrap v2 → P'.p5 = IntKind.i8.wrap v3 → P'.p6 = v4 → P'.p7 = v5 → P'.p8 = v6 → P'.p9 = v7 → P'.p10 = v8 → P'.p11 = v9 → P'.p12 = v10 → bodyP P' F = D.take 48 ++ putX F := by
    intro P' g0 g1 g2 g3 g4 g5 g6 g7 g8 g9 g10 g11 g12
    unfold bodyP headP
    rw [g0, g1, g2, g3, g4, g5, g6, g7, g8, g9, g10, g11, g12, head_of hv, head_lay hv]
  rcases hk with ⟨t0, rfl⟩ | ⟨t12, hne, rfl⟩
  · obtain rfl : T = [] := List.length_eq_zero_iff.1 t0
    refine ⟨?_, ?_, h512⟩
    · unfold mayP
      rw [show mayH (pkV v0 v1 v2 v3 v4 v5 v6 v7 v8 v9 v10).p0 (pkV v0 v1 v2 v3 v4 v5 v6 v7 v8 v9 v10).p1 (pkV v0 v1 v2 v3 v4 v5 v6 v7 v8 v9 v10).p2 = true from mH, mX]
      rfl
    · unfold putP
      rw [hh _ rfl rfl rfl rfl rfl rfl rfl rfl rfl rfl rfl rfl rfl]
      rw [List.append_nil] at q2
      rw [← q2, List.take_append_drop]
      simp [pkV]
  · refine ⟨?_, ?_, h512⟩
    · show (mayH (v0 / 64) (v0 / 8 % 8) (v0 % 8) && (mayX F && (mayS { pkV v0 v1 v2 v3 v4 v5 v6 v7 v8 v9 v10 with s := true, p15 := be (T.take 4), p16 := be (T.drop 4) } && mayT { pkV v0 v1 v2 v3 v4 v5 v6 v7 v8 v9 v10 with s := true, p15 := be (T.take 4), p16 := be (T.drop 4) }))) = true
      rw [mH, mX]
      simp [mayS, mayT, hne]
    · unfold putP
      rw [hh _ rfl rfl rfl rfl rfl rfl rfl rfl rfl rfl rfl rfl rfl]
      have hT : signB { pkV v0 v1 v2 v3 v4 v5 v6 v7 v8 v9 v10 with s := true, p15 := be (T.take 4), p16 := be (T.drop 4) } = T := by
        unfold signB
        have d1 := dg_be (l := T.take 4) fun z hz => hBT z (List.mem_of_mem_take hz)
        have d2 := dg_be (l := T.drop 4) fun z hz => hBT z (List.mem_of_mem_drop hz)
        rw [List.length_take, t12] at d1
        rw [List.length_drop, t12] at d2
        show dg 4 (be (T.take 4)) ++ dg 8 (be (T.drop 4)) = T
        rw [show dg 4 (be (T.take 4)) = T.take 4 from d1, show dg 8 (be (T.drop 4)) = T.drop 4 from d2, List.take_append_drop]
      simp only [if_true]
      rw [hT, List.append_assoc, ← q2, List.take_append_drop]
end Go.Proofs.YtdpbbagllhfjbaaDoorW.AI.G

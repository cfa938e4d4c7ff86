import Derived.Test.YtdpbbagllhfjbaaDoorAIFpktl0
namespace Go.Proofs.YtdpbbagllhfjbaaDoorW.AI.F
open Go Go.Proofs.YtdpbbagllhfjbaaDoorW.AI Go.Proofs.YtdpbbagllhfjbaaDoorW.AI.Oct Go.RowKit
set_option maxRecDepth 100000
set_option linter.unusedSimpArgs false
set_option linter.unusedVariables false
set_option linter.unusedSectionVars false
theorem i8_mod (v : Int) (h0 : 0 ≤ v) (h1 : v < 256) : IntKind.i8.wrap v % 256 = v := by
  simp only [IntKind.wrap, IntKind.bits, IntKind.signed]
  simp
  split <;> omega
/-- Of bytes, the head's numbers. -/
theorem head_of {D : List Int} {v0 v1 v2 v3 v4 v5 v6 v7 v8 v9 v10 : Int} (hv : HV D v0 v1 v2 v3 v4 v5 v6 v7 v8 v9 v10) : headV (v0 / 64) (v0 / 8 % 8) (v0 % 8) v1 (IntKind.i8.wrap v2) (IntKind.i8.wrap v3) v4 v5 v6 v7 v8 v9 v10 = [v0, v1, v2, v3, v4, v5, v6, v7, v8, v9, v10] := by
  have hgt := hv.bounds
  obtain ⟨⟨p0, q0⟩, ⟨p1, q1⟩, ⟨p2, q2⟩, ⟨p3, q3⟩, _⟩ := hgt
  unfold headV
  rw [i8_mod v2 p2 q2, i8_mod v3 p3 q3, show v0 / 64 * 64 + v0 / 8 % 8 * 8 + v0 % 8 = v0 by omega]
theorem head_lay {D : List Int} {v0 v1 v2 v3 v4 v5 v6 v7 v8 v9 v10 : Int} (hv : HV D v0 v1 v2 v3 v4 v5 v6 v7 v8 v9 v10) : layB sizesN [v0, v1, v2, v3, v4, v5, v6, v7, v8, v9, v10] = D.take 48 := by
  rw [← hv.takeV]
  exact layB_takeV hv.B hv.l
/-- What is read may be, and is put as it was. -/
theorem put_parseP {D : List Int} {P : Pk} {F : List (Int × List Int)} (hB : Byt D) (h : parseP D = .ok P F) : mayP P F = true ∧ putP P F = D ∧ D.length ≤ 512 := by
  obtain ⟨h512, v0, v1, v2, v3, v4, v5, v6, v7, v8, v9, v10, T, hv, cv, hp, hBT, hk⟩ := parseP_inv hB h
  obtain ⟨F2, q1, q2, q3, q4, q5⟩ := put_parse 9 [] F (D.drop 48) T (fun z hz => hB z (List.mem_of_mem_drop hz)) (by simp) hp
  rw [List.nil_append] at q1
  subst q1
  have b := hv.bounds
  have mX : mayX F = true := by
    unfold mayX
    simp only [Bool.and_eq_true, decide_eq_true_eq, Bool.not_eq_true', List.any_eq_false]
    refine ⟨q4, fun z hz => ?_⟩
    have := (q3 z hz).2
    simp [badX, this]
  have mH : mayH (v0 / 64) (v0 / 8 % 8) (v0 % 8) = true := by
    simp only [mayH, Bool.and_eq_true, decide_eq_true_eq]
    refine ⟨⟨⟨?_, cv.1⟩, cv.2⟩, ?_⟩ <;> omega
  have hh : ∀ P' : Pk, P'.p0 = v0 / 64 → P'.p1 = v0 / 8 % 8 → P'.p2 = v0 % 8 → P'.p3 = v1 → P'.p4 = IntKind.i8.wrap v2 → P'.p5 = IntKind.i8.wrap v3 → P'.p6 = v4 → P'.p7 = v5 → P'.p8 = v6 → P'.p9 = v7 → P'.p10 = v8 → P'.p11 = v9 → P'.p12 = v10 → bodyP P' F = D.take 48 ++ putX F := by
    intro P' g0 g1 g2 g3 g4 g5 g6 g7 g8 g9 g10 g11 g12
    unfold bodyP headP
    rw [g0, g1, g2, g3, g4, g5, g6, g7, g8, g9, g10, g11, g12, head_of hv, head_lay hv]
  rcases hk with ⟨t0, rfl⟩ | ⟨t12, hne, rfl⟩
  · obtain rfl : T = [] := List.length_eq_zero_iff.1 t0
    refine ⟨?_, ?_, h512⟩
    · unfold mayP
      rw [show mayH (pkV v0 v1 v2 v3 v4 v5 v6 v7 v8 v9 v10).p0 (pkV v0 v1 v2 v3 v4 v5 v6 v7 v8 v9 v10).p1 (pkV v0 v1 v2 v3 v4 v5 v6 v7 v8 v9 v10).p2 = true from mH, mX]
      rfl
    · unfold putP
      rw [hh _ rfl rfl rfl rfl rfl rfl rfl rfl rfl rfl rfl rfl rfl]
      rw [List.append_nil] at q2
      rw [← q2, List.take_append_drop]
      simp [pkV]
  · refine ⟨?_, ?_, h512⟩
    · show (mayH (v0 / 64) (v0 / 8 % 8) (v0 % 8) && (mayX F && (mayS { pkV v0 v1 v2 v3 v4 v5 v6 v7 v8 v9 v10 with s := true, p15 := be (T.take 4), p16 := be (T.drop 4) } && mayT { pkV v0 v1 v2 v3 v4 v5 v6 v7 v8 v9 v10 with s := true, p15 := be (T.take 4), p16 := be (T.drop 4) }))) = true
      rw [mH, mX]
      simp [mayS, mayT, hne]
    · unfold putP
      rw [hh _ rfl rfl rfl rfl rfl rfl rfl rfl rfl rfl rfl rfl rfl]
      have hT : signB { pkV v0 v1 v2 v3 v4 v5 v6 v7 v8 v9 v10 with s := true, p15 := be (T.take 4), p16 := be (T.drop 4) } = T := by
        unfold signB
        have d1 := dg_be (l := T.take 4) fun z hz => hBT z (List.mem_of_mem_take hz)
        have d2 := dg_be (l := T.drop 4) fun z hz => hBT z (List.mem_of_mem_drop hz)
        rw [List.length_take, t12] at d1
        rw [List.length_drop, t12] at d2
        show dg 4 (be (T.take 4)) ++ dg 8 (be (T.drop 4)) = T
        rw [show dg 4 (be (T.take 4)) = T.take 4 from d1, show dg 8 (be (T.drop 4)) = T.drop 4 from d2, List.take_append_drop]
      simp only [if_true]
      rw [hT, List.append_assoc, ← q2, List.take_append_drop]
end Go.Proofs.YtdpbbagllhfjbaaDoorW.AI.F

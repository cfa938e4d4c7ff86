import Derived.Test.YtdbdmnhnijpdcaaDoorAICsane5
namespace Go.Proofs.YtdbdmnhnijpdcaaDoorW.AI.C
open Go Go.Proofs.YtdbdmnhnijpdcaaDoorW.AI
set_option maxRecDepth 100000
set_option linter.unusedVariables false
set_option linter.unusedSimpArgs false
def str1 : Nat → Int → Int
  | 0, n => n
  | k + 1, n => if 0 < n ∧ n % 256 = 0 then str1 k (n / 256) else n
def dgl : Nat → Int → List UInt8
  | 0, _ => []
  | k + 1, n => if n = 0 then [] else dgl k (n / 256) ++ [by8 (n % 256)]
theorem str1_stop {k : Nat} {n : Int} (h : ¬ (0 < n ∧ n % 256 = 0)) : str1 k n = n := by cases k with
  | zero => rfl
  | succ k => simp only [str1]; rw [if_neg h]
theorem str1_go {k : Nat} {n : Int} (h : 0 < n) (h' : n % 256 = 0) : str1 (k + 1) n = str1 k (n / 256) := by simp only [str1]; rw [if_pos ⟨h, h'⟩]
theorem dgl_stop (k : Nat) : dgl k 0 = [] := by cases k <;> simp [dgl]
theorem dgl_go {k : Nat} {n : Int} (h : ¬ n = 0) : dgl (k + 1) n = dgl k (n / 256) ++ [by8 (n % 256)] := by simp only [dgl]; rw [if_neg h]
def frontL (p : Int) : List UInt8 := if p = 0 then [] else if p < 256 then [0, 0, 0] else if p < 65536 then [0, 0] else if p < 16777216 then [0] else []
theorem by8_ne {n : Int} (h : 0 < n) (h' : n < 256) : ¬ by8 n = 0 := by
  intro e
  have := congrArg UInt8.toNat e
  simp only [by8, UInt8.toNat_ofNat'] at this
  have h0 : (0 : UInt8).toNat = 0 := rfl
  rw [h0] at this
  omega
theorem code_eq {p : Int} (h0 : 0 ≤ p) (h1 : p < 4294967296) : frontL p ++ dgl 4 (str1 4 p) = codeV p := by
  unfold codeV codeL
  obtain ⟨A, hA⟩ : ∃ A, p / 16777216 = A := ⟨_, rfl⟩
  obtain ⟨B, hB⟩ : ∃ A, p / 65536 % 256 = A := ⟨_, rfl⟩
  obtain ⟨C, hC⟩ : ∃ A, p / 256 % 256 = A := ⟨_, rfl⟩
  obtain ⟨D, hD⟩ : ∃ A, p % 256 = A := ⟨_, rfl⟩
  rw [hA, hB, hC, hD]
  have hp : p = A * 16777216 + B * 65536 + C * 256 + D := by omega
  have rA : 0 ≤ A ∧ A < 256 := by omega
  have rB : 0 ≤ B ∧ B < 256 := by omega
  have rC : 0 ≤ C ∧ C < 256 := by omega
  have rD : 0 ≤ D ∧ D < 256 := by omega
  clear hA hB hC hD h0 h1
  have z8 : by8 0 = 0 := rfl
  by_cases hp0 : p = 0
  · have a0 : A = 0 := by omega
    have b0 : B = 0 := by omega
    have c0 : C = 0 := by omega
    have d0 : D = 0 := by omega
    subst a0 b0 c0 d0
    rw [hp0, str1_stop (by omega), dgl_stop]
    rfl
  · skip
    by_cases hA : A = 0
    · skip
      by_cases hB : B = 0
      · skip
        by_cases hC : C = 0
        · skip
          subst hA
          subst hB
          subst hC
          have e1 : frontL p = [0, 0, 0] := by unfold frontL; rw [if_neg (by omega), if_pos (by omega)]
          have e2 : str1 4 p = p := by exact str1_stop (by omega)
          obtain ⟨n, hn⟩ : ∃ n, p = n := ⟨_, rfl⟩
          replace e2 := e2.trans hn
          have e3 : dgl 4 n = [by8 D] := by
            rw [dgl_go (by omega)]
            rw [show n / 256 = 0 by omega, dgl_stop]
            rw [show n % 256 = D by omega]
            rfl
          have e4 : trimz [by8 0, by8 0, by8 0, by8 D] = [0, 0, 0, by8 D] := by
            rw [z8]
            exact trimz_snoc [0, 0, 0] (by8_ne (by omega) (by omega))
          rw [e1, e2, e3, e4]
          rfl
        · skip
          by_cases hD : D = 0
          · skip
            subst hA
            subst hB
            subst hD
            have e1 : frontL p = [0, 0] := by unfold frontL; rw [if_neg (by omega), if_neg (by omega), if_pos (by omega)]
            have e2 : str1 4 p = p / 256 := by rw [str1_go (by omega) (by omega)]; exact str1_stop (by omega)
            obtain ⟨n, hn⟩ : ∃ n, p / 256 = n := ⟨_, rfl⟩
            replace e2 := e2.trans hn
            have e3 : dgl 4 n = [by8 C] := by
              rw [dgl_go (by omega)]
              rw [show n / 256 = 0 by omega, dgl_stop]
              rw [show n % 256 = C by omega]
              rfl
            have e4 : trimz [by8 0, by8 0, by8 C, by8 0] = [0, 0, by8 C] := by
              rw [z8]
              rw [show ([0, 0, by8 C, 0] : List UInt8) = [0, 0, by8 C] ++ [0] from rfl, trimz_zero]
              exact trimz_snoc [0, 0] (by8_ne (by omega) (by omega))
            rw [e1, e2, e3, e4]
            rfl
          · skip
            subst hA
            subst hB
            have e1 : frontL p = [0, 0] := by unfold frontL; rw [if_neg (by omega), if_neg (by omega), if_pos (by omega)]
            have e2 : str1 4 p = p := by exact str1_stop (by omega)
            obtain ⟨n, hn⟩ : ∃ n, p = n := ⟨_, rfl⟩
            replace e2 := e2.trans hn
            have e3 : dgl 4 n = [by8 C, by8 D] := by
              rw [dgl_go (by omega)]
              rw [dgl_go (by omega)]
              rw [show n / 256 / 256 = 0 by omega, dgl_stop]
              rw [show n % 256 = D by omega]
              rw [show n / 256 % 256 = C by omega]
              rfl
            have e4 : trimz [by8 0, by8 0, by8 C, by8 D] = [0, 0, by8 C, by8 D] := by
              rw [z8]
              exact trimz_snoc [0, 0, by8 C] (by8_ne (by omega) (by omega))
            rw [e1, e2, e3, e4]
            rfl
      · skip
        by_cases hD : D = 0
        · skip
          by_cases hC : C = 0
          · skip
            subst hA
            subst hC
            subst hD
            have e1 : frontL p = [0] := by unfold frontL; rw [if_neg (by omega), if_neg (by omega), if_neg (by omega), if_pos (by omega)]
            have e2 : str1 4 p = p / 256 / 256 := by rw [str1_go (by omega) (by omega)]; rw [str1_go (by omega) (by omega)]; exact str1_stop (by omega)
            obtain ⟨n, hn⟩ : ∃ n, p / 256 / 256 = n := ⟨_, rfl⟩
            replace e2 := e2.trans hn
            have e3 : dgl 4 n = [by8 B] := by
              rw [dgl_go (by omega)]
              rw [show n / 256 = 0 by omega, dgl_stop]
              rw [show n % 256 = B by omega]
              rfl
            have e4 : trimz [by8 0, by8 B, by8 0, by8 0] = [0, by8 B] := by
              rw [z8]
              rw [show ([0, by8 B, 0, 0] : List UInt8) = [0, by8 B, 0] ++ [0] from rfl, trimz_zero]
              rw [show ([0, by8 B, 0] : List UInt8) = [0, by8 B] ++ [0] from rfl, trimz_zero]
              exact trimz_snoc [0] (by8_ne (by omega) (by omega))
            rw [e1, e2, e3, e4]
            rfl
          · skip
            subst hA
            subst hD
            have e1 : frontL p = [0] := by unfold frontL; rw [if_neg (by omega), if_neg (by omega), if_neg (by omega), if_pos (by omega)]
            have e2 : str1 4 p = p / 256 := by rw [str1_go (by omega) (by omega)]; exact str1_stop (by omega)
            obtain ⟨n, hn⟩ : ∃ n, p / 256 = n := ⟨_, rfl⟩
            replace e2 := e2.trans hn
            have e3 : dgl 4 n = [by8 B, by8 C] := by
              rw [dgl_go (by omega)]
              rw [dgl_go (by omega)]
              rw [show n / 256 / 256 = 0 by omega, dgl_stop]
              rw [show n % 256 = C by omega]
              rw [show n / 256 % 256 = B by omega]
              rfl
            have e4 : trimz [by8 0, by8 B, by8 C, by8 0] = [0, by8 B, by8 C] := by
              rw [z8]
              rw [show ([0, by8 B, by8 C, 0] : List UInt8) = [0, by8 B, by8 C] ++ [0] from rfl, trimz_zero]
              exact trimz_snoc [0, by8 B] (by8_ne (by omega) (by omega))
            rw [e1, e2, e3, e4]
            rfl
        · skip
          subst hA
          have e1 : frontL p = [0] := by unfold frontL; rw [if_neg (by omega), if_neg (by omega), if_neg (by omega), if_pos (by omega)]
          have e2 : str1 4 p = p := by exact str1_stop (by omega)
          obtain ⟨n, hn⟩ : ∃ n, p = n := ⟨_, rfl⟩
          replace e2 := e2.trans hn
          have e3 : dgl 4 n = [by8 B, by8 C, by8 D] := by
            rw [dgl_go (by omega)]
            rw [dgl_go (by omega)]
            rw [dgl_go (by omega)]
            rw [show n / 256 / 256 / 256 = 0 by omega, dgl_stop]
            rw [show n % 256 = D by omega]
            rw [show n / 256 % 256 = C by omega]
            rw [show n / 256 / 256 % 256 = B by omega]
            rfl
          have e4 : trimz [by8 0, by8 B, by8 C, by8 D] = [0, by8 B, by8 C, by8 D] := by
            rw [z8]
            exact trimz_snoc [0, by8 B, by8 C] (by8_ne (by omega) (by omega))
          rw [e1, e2, e3, e4]
          rfl
    · skip
      by_cases hD : D = 0
      · skip
        by_cases hC : C = 0
        · skip
          by_cases hB : B = 0
          · skip
            subst hB
            subst hC
            subst hD
            have e1 : frontL p = [] := by unfold frontL; rw [if_neg (by omega), if_neg (by omega), if_neg (by omega), if_neg (by omega)]
            have e2 : str1 4 p = p / 256 / 256 / 256 := by rw [str1_go (by omega) (by omega)]; rw [str1_go (by omega) (by omega)]; rw [str1_go (by omega) (by omega)]; exact str1_stop (by omega)
            obtain ⟨n, hn⟩ : ∃ n, p / 256 / 256 / 256 = n := ⟨_, rfl⟩
            replace e2 := e2.trans hn
            have e3 : dgl 4 n = [by8 A] := by
              rw [dgl_go (by omega)]
              rw [show n / 256 = 0 by omega, dgl_stop]
              rw [show n % 256 = A by omega]
              rfl
            have e4 : trimz [by8 A, by8 0, by8 0, by8 0] = [by8 A] := by
              rw [z8]
              rw [show ([by8 A, 0, 0, 0] : List UInt8) = [by8 A, 0, 0] ++ [0] from rfl, trimz_zero]
              rw [show ([by8 A, 0, 0] : List UInt8) = [by8 A, 0] ++ [0] from rfl, trimz_zero]
              rw [show ([by8 A, 0] : List UInt8) = [by8 A] ++ [0] from rfl, trimz_zero]
              exact trimz_snoc [] (by8_ne (by omega) (by omega))
            rw [e1, e2, e3, e4]
            rfl
          · skip
            subst hC
            subst hD
            have e1 : frontL p = [] := by unfold frontL; rw [if_neg (by omega), if_neg (by omega), if_neg (by omega), if_neg (by omega)]
            have e2 : str1 4 p = p / 256 / 256 := by rw [str1_go (by omega) (by omega)]; rw [str1_go (by omega) (by omega)]; exact str1_stop (by omega)
            obtain ⟨n, hn⟩ : ∃ n, p / 256 / 256 = n := ⟨_, rfl⟩
            replace e2 := e2.trans hn
            have e3 : dgl 4 n = [by8 A, by8 B] := by
              rw [dgl_go (by omega)]
              rw [dgl_go (by omega)]
              rw [show n / 256 / 256 = 0 by omega, dgl_stop]
              rw [show n % 256 = B by omega]
              rw [show n / 256 % 256 = A by omega]
              rfl
            have e4 : trimz [by8 A, by8 B, by8 0, by8 0] = [by8 A, by8 B] := by
              rw [z8]
              rw [show ([by8 A, by8 B, 0, 0] : List UInt8) = [by8 A, by8 B, 0] ++ [0] from rfl, trimz_zero]
              rw [show ([by8 A, by8 B, 0] : List UInt8) = [by8 A, by8 B] ++ [0] from rfl, trimz_zero]
              exact trimz_snoc [by8 A] (by8_ne (by omega) (by omega))
            rw [e1, e2, e3, e4]
            rfl
        · skip
          subst hD
          have e1 : frontL p = [] := by unfold frontL; rw [if_neg (by omega), if_neg (by omega), if_neg (by omega), if_neg (by omega)]
          have e2 : str1 4 p = p / 256 := by rw [str1_go (by omega) (by omega)]; exact str1_stop (by omega)
          obtain ⟨n, hn⟩ : ∃ n, p / 256 = n := ⟨_, rfl⟩
          replace e2 := e2.trans hn
          have e3 : dgl 4 n = [by8 A, by8 B, by8 C] := by
            rw [dgl_go (by omega)]
            rw [dgl_go (by omega)]
            rw [dgl_go (by omega)]
            rw [show n / 256 / 256 / 256 = 0 by omega, dgl_stop]
            rw [show n % 256 = C by omega]
            rw [show n / 256 % 256 = B by omega]
            rw [show n / 256 / 256 % 256 = A by omega]
            rfl
          have e4 : trimz [by8 A, by8 B, by8 C, by8 0] = [by8 A, by8 B, by8 C] := by
            rw [z8]
            rw [show ([by8 A, by8 B, by8 C, 0] : List UInt8) = [by8 A, by8 B, by8 C] ++ [0] from rfl, trimz_zero]
            exact trimz_snoc [by8 A, by8 B] (by8_ne (by omega) (by omega))
          rw [e1, e2, e3, e4]
          rfl
      · skip
        have e1 : frontL p = [] := by unfold frontL; rw [if_neg (by omega), if_neg (by omega), if_neg (by omega), if_neg (by omega)]
        have e2 : str1 4 p = p := by exact str1_stop (by omega)
        obtain ⟨n, hn⟩ : ∃ n, p = n := ⟨_, rfl⟩
        replace e2 := e2.trans hn
        have e3 : dgl 4 n = [by8 A, by8 B, by8 C, by8 D] := by
          rw [dgl_go (by omega)]
          rw [dgl_go (by omega)]
          rw [dgl_go (by omega)]
          rw [dgl_go (by omega)]
          rw [show n / 256 / 256 / 256 / 256 = 0 by omega, dgl_stop]
          rw [show n % 256 = D by omega]
          rw [show n / 256 % 256 = C by omega]
          rw [show n / 256 / 256 % 256 = B by omega]
          rw [show n / 256 / 256 / 256 % 256 = A by omega]
          rfl
        have e4 : trimz [by8 A, by8 B, by8 C, by8 D] = [by8 A, by8 B, by8 C, by8 D] := by
          exact trimz_snoc [by8 A, by8 B, by8 C] (by8_ne (by omega) (by omega))
        rw [e1, e2, e3, e4]
        rfl
def fid (p : Int) : Nat → Int
  | 0 => p
  | 1 => p * 256
  | 2 => p * 65536
  | _ => p * 16777216
theorem front_c {p : Int} (h0 : 0 ≤ p) (h1 : p < 4294967296) (h : AHeap) : W CS 53 [.int .u32 p] h = some (.str (sb (frontL p)), h, []) := by
  refine W_val (m := M53) (fun _ => rfl) rfl rfl rfl ?_ h
  by_cases hp : p = 0
  · subst hp
    simp (maxDischargeDepth := 9) -implicitDefEqProofs only [push_cast, reduceIte, Nat.reduceEqDiff, Nat.reduceAdd, Nat.reduceSub, Nat.reduceMul, Nat.reduceDiv, Nat.reduceMod, Nat.reduceLT, Nat.reduceLeDiff, Nat.reduceBEq, Nat.reduceBNe, reduceCtorEq, Int.reduceEq, Int.reduceNe, Int.reduceLT, Int.reduceLE, Int.reduceToNat, Int.reduceNeg, Int.reduceAdd, Int.reduceSub, Int.reduceMul, Int.reducePow, Nat.reducePow, Int.reduceBEq, M53, sb_none]
    rfl
  · obtain ⟨L, hL, hf, lo, up⟩ : ∃ L : Nat, L ≤ 3 ∧ frontL p = List.replicate L 0 ∧ 16777216 ≤ fid p L ∧ ∀ c, c < L → fid p c < 16777216 := by
      unfold frontL
      rw [if_neg hp]
      by_cases c3 : p < 256
      · exact ⟨3, by omega, by rw [if_pos c3]; rfl, by simp only [fid]; omega, fun c hc => by rcases (by omega : c = 0 ∨ c = 1 ∨ c = 2) with rfl | rfl | rfl <;> simp only [fid] <;> omega⟩
      · by_cases c2 : p < 65536
        · exact ⟨2, by omega, by rw [if_neg c3, if_pos c2]; rfl, by simp only [fid]; omega, fun c hc => by rcases (by omega : c = 0 ∨ c = 1) with rfl | rfl <;> simp only [fid] <;> omega⟩
        · by_cases c1 : p < 16777216
          · exact ⟨1, by omega, by rw [if_neg c3, if_neg c2, if_pos c1]; rfl, by simp only [fid]; omega, fun c hc => by obtain rfl : c = 0 := (by omega); simp only [fid]; omega⟩
          · exact ⟨0, by omega, by rw [if_neg c3, if_neg c2, if_neg c1]; rfl, by simp only [fid]; omega, fun c hc => by omega⟩
    rw [hf]
    have fnext : ∀ c, c < L → IntKind.u32.wrap (fid p c * 256) = fid p (c + 1) := by
      intro c hc
      have := up c hc
      have h2 : fid p c * 256 = fid p (c + 1) := by
        rcases (by omega : c = 0 ∨ c = 1 ∨ c = 2) with rfl | rfl | rfl <;> simp only [fid] <;> omega
      have h3 : 0 ≤ fid p c := by rcases (by omega : c = 0 ∨ c = 1 ∨ c = 2) with rfl | rfl | rfl <;> simp only [fid] <;> omega
      rw [← h2]
      exact wr_u32 _ (by omega) (by omega)
    simp (maxDischargeDepth := 9) -implicitDefEqProofs only [push_cast, reduceIte, Nat.reduceEqDiff, Nat.reduceAdd, Nat.reduceSub, Nat.reduceMul, Nat.reduceDiv, Nat.reduceMod, Nat.reduceLT, Nat.reduceLeDiff, Nat.reduceBEq, Nat.reduceBNe, reduceCtorEq, Int.reduceEq, Int.reduceNe, Int.reduceLT, Int.reduceLE, Int.reduceToNat, Int.reduceNeg, Int.reduceAdd, Int.reduceSub, Int.reduceMul, Int.reducePow, Nat.reducePow, Int.reduceBEq, M53, hp, sb_none]
    refine wp_kRes (wp_kSeq (wp_kBlock ?_))
    refine wp_loop (fun k a h' ws => ∃ c : Nat, k = L - c ∧ c ≤ L ∧ a = [(0, .int .u32 (fid p c)), (3, .str (sb (List.replicate c 0)))] ∧ h' = CS.gl ∧ ws = []) L ?_ ?_
    · refine ⟨0, by omega, by omega, ?_, rfl, rfl⟩
      simp (maxDischargeDepth := 9) -implicitDefEqProofs only [push_cast, reduceIte, Nat.reduceEqDiff, Nat.reduceAdd, Nat.reduceSub, Nat.reduceMul, Nat.reduceDiv, Nat.reduceMod, Nat.reduceLT, Nat.reduceLeDiff, Nat.reduceBEq, Nat.reduceBNe, reduceCtorEq, Int.reduceEq, Int.reduceNe, Int.reduceLT, Int.reduceLE, Int.reduceToNat, Int.reduceNeg, Int.reduceAdd, Int.reduceSub, Int.reduceMul, Int.reducePow, Nat.reducePow, Int.reduceBEq, fid, List.replicate_zero]; try rfl
    · rintro k aa h' ws ⟨c, rfl, hc, rfl, rfl, rfl⟩
      by_cases hlt : c < L
      · have u := up c hlt
        have f := fnext c hlt
        have hs : (sb (List.replicate c 0)).size + (sb [0]).size ≤ 9223372036854775807 := by
          rw [sb_size, sb_size, List.length_replicate]
          simp only [List.length_cons, List.length_nil]
          omega
        have ha : List.replicate c (0 : UInt8) ++ [0] = List.replicate (c + 1) 0 := (List.replicate_succ').symm
        simp (maxDischargeDepth := 9) -implicitDefEqProofs only [push_cast, reduceIte, Nat.reduceEqDiff, Nat.reduceAdd, Nat.reduceSub, Nat.reduceMul, Nat.reduceDiv, Nat.reduceMod, Nat.reduceLT, Nat.reduceLeDiff, Nat.reduceBEq, Nat.reduceBNe, reduceCtorEq, Int.reduceEq, Int.reduceNe, Int.reduceLT, Int.reduceLE, Int.reduceToNat, Int.reduceNeg, Int.reduceAdd, Int.reduceSub, Int.reduceMul, Int.reducePow, Nat.reducePow, Int.reduceBEq, u, f, sb_zero, hs, sb_append, ha]
        refine loop_next (L - (c + 1)) (by omega) ⟨c + 1, rfl, by omega, ?_, rfl, rfl⟩
        simp (maxDischargeDepth := 9) -implicitDefEqProofs only [push_cast, reduceIte, Nat.reduceEqDiff, Nat.reduceAdd, Nat.reduceSub, Nat.reduceMul, Nat.reduceDiv, Nat.reduceMod, Nat.reduceLT, Nat.reduceLeDiff, Nat.reduceBEq, Nat.reduceBNe, reduceCtorEq, Int.reduceEq, Int.reduceNe, Int.reduceLT, Int.reduceLE, Int.reduceToNat, Int.reduceNeg, Int.reduceAdd, Int.reduceSub, Int.reduceMul, Int.reducePow, Nat.reducePow, Int.reduceBEq]; try rfl
      · obtain rfl : c = L := by omega
        have u : ¬ fid p c < 16777216 := by omega
        simp (maxDischargeDepth := 9) -implicitDefEqProofs only [push_cast, reduceIte, Nat.reduceEqDiff, Nat.reduceAdd, Nat.reduceSub, Nat.reduceMul, Nat.reduceDiv, Nat.reduceMod, Nat.reduceLT, Nat.reduceLeDiff, Nat.reduceBEq, Nat.reduceBNe, reduceCtorEq, Int.reduceEq, Int.reduceNe, Int.reduceLT, Int.reduceLE, Int.reduceToNat, Int.reduceNeg, Int.reduceAdd, Int.reduceSub, Int.reduceMul, Int.reducePow, Nat.reducePow, Int.reduceBEq, u]
theorem frontL_len (p : Int) : (frontL p).length ≤ 3 := by unfold frontL; split <;> (try split) <;> (try split) <;> (try split) <;> simp
theorem refKiss_c {p0 p1 p2 p3 p4 p5 p6 p7 p8 p9 p10 p11 p12 p15 p16 : Int} {x : AV} {s : Bool} (hx : x.isCell = true) (q3 : 0 ≤ p3) (a0 : 0 ≤ p8) (a1 : p8 < 4294967296) {h : AHeap} (hg : Good h) :
    W CS 21 [.agg [.int .u8 p0, .int .u8 p1, .int .u8 p2, .int .u8 p3, .int .i8 p4, .int .i8 p5, .int .u32 p6, .int .u32 p7, .int .u32 p8, .int .u64 p9, .int .u64 p10, .int .u64 p11, .int .u64 p12, x, .bool s, .int .u32 p15, .int .u64 p16]] h = some (if p3 = 0 then .tup [.str (sb (codeV p8)), .bool true] else .tup [.str (sb []), .bool false], h, []) := by
  have ef := fun h => front_c a0 a1 h
  have w0 : IntKind.u64.wrap p8 = p8 := wr_u64 _ (by omega) (by omega)
  refine W_both (m := M21) (fun _ => True) (fun _ => rfl) rfl rfl (by split <;> rfl) good_glS trivial (fun g hg _ => ?_) hg trivial
  by_cases c : p3 = 0
  · subst c
    rw [if_pos rfl, ← code_eq a0 a1]
    obtain ⟨N, hN⟩ : ∃ N, str1 4 p8 = N := ⟨_, rfl⟩
    rw [hN]
    simp (maxDischargeDepth := 9) -implicitDefEqProofs only [push_cast, reduceIte, Nat.reduceEqDiff, Nat.reduceAdd, Nat.reduceSub, Nat.reduceMul, Nat.reduceDiv, Nat.reduceMod, Nat.reduceLT, Nat.reduceLeDiff, Nat.reduceBEq, Nat.reduceBNe, reduceCtorEq, Int.reduceEq, Int.reduceNe, Int.reduceLT, Int.reduceLE, Int.reduceToNat, Int.reduceNeg, Int.reduceAdd, Int.reduceSub, Int.reduceMul, Int.reducePow, Nat.reducePow, Int.reduceBEq, M21, hx, sb_none, w0]
    refine wp_kRes (wp_kSeq (wp_kBlock ?_))
    refine wp_loop (fun k a h' ws => ∃ (j : Nat) (n : Int), k = n.toNat ∧ j ≤ 4 ∧ 0 ≤ n ∧ n < 256 ^ j ∧ n < 4294967296 ∧ str1 j n = N ∧ a = [(1, .ptr g.length 0), (4, .str (sb [])), (5, .int .u64 n)] ∧ h' = g ++ [⟨.tip false, .vals [.int .u8 p0, .int .u8 p1, .int .u8 p2, .int .u8 0, .int .i8 p4, .int .i8 p5, .int .u32 p6, .int .u32 p7, .int .u32 p8, .int .u64 p9, .int .u64 p10, .int .u64 p11, .int .u64 p12, x, .bool s, .int .u32 p15, .int .u64 p16]⟩] ∧ ws = []) p8.toNat ?_ ?_
    · refine ⟨4, p8, rfl, by omega, a0, by simpa using a1, a1, hN, ?_, rfl, rfl⟩
      simp (maxDischargeDepth := 9) -implicitDefEqProofs only [push_cast, reduceIte, Nat.reduceEqDiff, Nat.reduceAdd, Nat.reduceSub, Nat.reduceMul, Nat.reduceDiv, Nat.reduceMod, Nat.reduceLT, Nat.reduceLeDiff, Nat.reduceBEq, Nat.reduceBNe, reduceCtorEq, Int.reduceEq, Int.reduceNe, Int.reduceLT, Int.reduceLE, Int.reduceToNat, Int.reduceNeg, Int.reduceAdd, Int.reduceSub, Int.reduceMul, Int.reducePow, Nat.reducePow, Int.reduceBEq]; try rfl
    · rintro k aa h' ws ⟨j, n, rfl, hj, n0, n1, n2, hs, rfl, rfl, rfl⟩
      obtain ⟨r, hr⟩ : ∃ r, n % 256 = r := ⟨_, rfl⟩
      obtain ⟨q, hq⟩ : ∃ q, n / 256 = q := ⟨_, rfl⟩
      have d1 : n.tmod 256 = r := by rw [Int.tmod_eq_emod_of_nonneg n0]; exact hr
      have d2 : n.tdiv 256 = q := by rw [Int.tdiv_eq_ediv_of_nonneg n0]; exact hq
      have w1 : IntKind.u64.wrap r = r := wr_u64 _ (by omega) (by omega)
      have w2 : IntKind.u64.wrap q = q := wr_u64 _ (by omega) (by omega)
      by_cases c1 : 0 < n ∧ r = 0
      · obtain ⟨c2, rfl⟩ := c1
        cases j with
        | zero => simp at n1; omega
        | succ j =>
          rw [str1_go c2 hr, hq] at hs
          have n3 : q < 256 ^ j := by
            rw [← hq]
            exact Int.ediv_lt_of_lt_mul (by omega) (by rw [Int.pow_succ] at n1; exact n1)
          simp (maxDischargeDepth := 9) -implicitDefEqProofs only [push_cast, reduceIte, Nat.reduceEqDiff, Nat.reduceAdd, Nat.reduceSub, Nat.reduceMul, Nat.reduceDiv, Nat.reduceMod, Nat.reduceLT, Nat.reduceLeDiff, Nat.reduceBEq, Nat.reduceBNe, reduceCtorEq, Int.reduceEq, Int.reduceNe, Int.reduceLT, Int.reduceLE, Int.reduceToNat, Int.reduceNeg, Int.reduceAdd, Int.reduceSub, Int.reduceMul, Int.reducePow, Nat.reducePow, Int.reduceBEq, c2, d1, d2, w1, w2]
          refine loop_next q.toNat (by omega) ⟨j, q, rfl, by omega, by omega, n3, by omega, hs, ?_, rfl, rfl⟩
          simp (maxDischargeDepth := 9) -implicitDefEqProofs only [push_cast, reduceIte, Nat.reduceEqDiff, Nat.reduceAdd, Nat.reduceSub, Nat.reduceMul, Nat.reduceDiv, Nat.reduceMod, Nat.reduceLT, Nat.reduceLeDiff, Nat.reduceBEq, Nat.reduceBNe, reduceCtorEq, Int.reduceEq, Int.reduceNe, Int.reduceLT, Int.reduceLE, Int.reduceToNat, Int.reduceNeg, Int.reduceAdd, Int.reduceSub, Int.reduceMul, Int.reducePow, Nat.reducePow, Int.reduceBEq]; try rfl
      · have e : N = n := by rw [← hs]; exact str1_stop (by rw [hr]; exact c1)
        subst e
        have hbr : ¬ 0 < N ∨ (0 < N ∧ ¬ r = 0) := by omega
        rcases hbr with b1 | ⟨b1, b2⟩
        · simp (maxDischargeDepth := 9) -implicitDefEqProofs only [push_cast, reduceIte, Nat.reduceEqDiff, Nat.reduceAdd, Nat.reduceSub, Nat.reduceMul, Nat.reduceDiv, Nat.reduceMod, Nat.reduceLT, Nat.reduceLeDiff, Nat.reduceBEq, Nat.reduceBNe, reduceCtorEq, Int.reduceEq, Int.reduceNe, Int.reduceLT, Int.reduceLE, Int.reduceToNat, Int.reduceNeg, Int.reduceAdd, Int.reduceSub, Int.reduceMul, Int.reducePow, Nat.reducePow, Int.reduceBEq, b1, d1, d2, w1, w2]
          refine wp_kSeq (wp_kBlock ?_)
          refine wp_loop (fun k a h' ws => ∃ (j : Nat) (n : Int) (l : List UInt8) (js : List ABlk), k = n.toNat ∧ l.length + j ≤ 4 ∧ 0 ≤ n ∧ n < 256 ^ j ∧ n < 4294967296 ∧ dgl j n ++ l = dgl 4 N ∧ a = [(1, .ptr g.length 0), (4, .str (sb l)), (5, .int .u64 n)] ∧ h' = g ++ (⟨.tip false, .vals [.int .u8 p0, .int .u8 p1, .int .u8 p2, .int .u8 0, .int .i8 p4, .int .i8 p5, .int .u32 p6, .int .u32 p7, .int .u32 p8, .int .u64 p9, .int .u64 p10, .int .u64 p11, .int .u64 p12, x, .bool s, .int .u32 p15, .int .u64 p16]⟩ :: js) ∧ ws = []) N.toNat ?_ ?_
          · refine ⟨4, N, [], [], rfl, by simp, n0, by simpa using n2, n2, by simp, ?_, rfl, rfl⟩
            simp (maxDischargeDepth := 9) -implicitDefEqProofs only [push_cast, reduceIte, Nat.reduceEqDiff, Nat.reduceAdd, Nat.reduceSub, Nat.reduceMul, Nat.reduceDiv, Nat.reduceMod, Nat.reduceLT, Nat.reduceLeDiff, Nat.reduceBEq, Nat.reduceBNe, reduceCtorEq, Int.reduceEq, Int.reduceNe, Int.reduceLT, Int.reduceLE, Int.reduceToNat, Int.reduceNeg, Int.reduceAdd, Int.reduceSub, Int.reduceMul, Int.reducePow, Nat.reducePow, Int.reduceBEq]; try rfl
          · rintro k aa h' ws ⟨j, n, l, js, rfl, hj2, n0, n1, n2, hs2, rfl, hH, rfl⟩
            have hq0 : h'[g.length]? = some ⟨.tip false, .vals [.int .u8 p0, .int .u8 p1, .int .u8 p2, .int .u8 0, .int .i8 p4, .int .i8 p5, .int .u32 p6, .int .u32 p7, .int .u32 p8, .int .u64 p9, .int .u64 p10, .int .u64 p11, .int .u64 p12, x, .bool s, .int .u32 p15, .int .u64 p16]⟩ := by rw [hH, List.getElem?_append_right (by omega)]; simp
            have hl0 : g.length < h'.length := by rw [hH]; simp
            have hl1 : ¬ h'.length ≤ g.length := by omega
            obtain ⟨r, hr⟩ : ∃ r, n % 256 = r := ⟨_, rfl⟩
            obtain ⟨q, hq⟩ : ∃ q, n / 256 = q := ⟨_, rfl⟩
            have d1 : n.tmod 256 = r := by rw [Int.tmod_eq_emod_of_nonneg n0]; exact hr
            have d2 : n.tdiv 256 = q := by rw [Int.tdiv_eq_ediv_of_nonneg n0]; exact hq
            have w1 : IntKind.u64.wrap r = r := wr_u64 _ (by omega) (by omega)
            have w3 : IntKind.u8.wrap r = r := wr_u8 _ (by omega) (by omega)
            have w2 : IntKind.u64.wrap q = q := wr_u64 _ (by omega) (by omega)
            by_cases c1 : 0 < n
            · cases j with
              | zero => simp at n1; omega
              | succ j =>
                rw [dgl_go (by omega), hq, hr] at hs2
                have n3 : q < 256 ^ j := by
                  rw [← hq]
                  exact Int.ediv_lt_of_lt_mul (by omega) (by rw [Int.pow_succ] at n1; exact n1)
                have sc : sliceCells (h' ++ [⟨.tip false, .ints .u8 [r]⟩]) 1 (.sl h'.length 0 1 1) = some (.ints .u8 [r]) := by
                  have : (h' ++ [(⟨.tip false, .ints .u8 [r]⟩ : ABlk)])[h'.length]? = some ⟨.tip false, .ints .u8 [r]⟩ := by simp
                  simp [sliceCells, cellsAt, this, ACells.len, ACells.sub]
                have b1 : bytesOf (.ints .u8 [r]) = some (sb [by8 r]) := rfl
                have hz : (sb [by8 r]).size + (sb l).size ≤ 9223372036854775807 := by rw [sb_size, sb_size]; simp only [List.length_cons, List.length_nil]; omega
                simp (maxDischargeDepth := 9) -implicitDefEqProofs only [push_cast, reduceIte, Nat.reduceEqDiff, Nat.reduceAdd, Nat.reduceSub, Nat.reduceMul, Nat.reduceDiv, Nat.reduceMod, Nat.reduceLT, Nat.reduceLeDiff, Nat.reduceBEq, Nat.reduceBNe, reduceCtorEq, Int.reduceEq, Int.reduceNe, Int.reduceLT, Int.reduceLE, Int.reduceToNat, Int.reduceNeg, Int.reduceAdd, Int.reduceSub, Int.reduceMul, Int.reducePow, Nat.reducePow, Int.reduceBEq, c1, d1, d2, w1, w2, w3, sc, b1, hz, sb_append]
                refine loop_next q.toNat (by omega) ⟨j, q, [by8 r] ++ l, js ++ [⟨.tip false, .ints .u8 [r]⟩], rfl, by simp only [List.length_append, List.length_cons, List.length_nil]; omega, by omega, n3, by omega, by rw [← hs2]; simp, ?_, by rw [hH]; simp, rfl⟩
                simp (maxDischargeDepth := 9) -implicitDefEqProofs only [push_cast, reduceIte, Nat.reduceEqDiff, Nat.reduceAdd, Nat.reduceSub, Nat.reduceMul, Nat.reduceDiv, Nat.reduceMod, Nat.reduceLT, Nat.reduceLeDiff, Nat.reduceBEq, Nat.reduceBNe, reduceCtorEq, Int.reduceEq, Int.reduceNe, Int.reduceLT, Int.reduceLE, Int.reduceToNat, Int.reduceNeg, Int.reduceAdd, Int.reduceSub, Int.reduceMul, Int.reducePow, Nat.reducePow, Int.reduceBEq]; try rfl
            · obtain rfl : n = 0 := by omega
              rw [dgl_stop, List.nil_append] at hs2
              have hz : (sb (frontL p8)).size + (sb l).size ≤ 9223372036854775807 := by rw [sb_size, sb_size]; have := frontL_len p8; omega
              simp (maxDischargeDepth := 9) -implicitDefEqProofs only [push_cast, reduceIte, Nat.reduceEqDiff, Nat.reduceAdd, Nat.reduceSub, Nat.reduceMul, Nat.reduceDiv, Nat.reduceMod, Nat.reduceLT, Nat.reduceLeDiff, Nat.reduceBEq, Nat.reduceBNe, reduceCtorEq, Int.reduceEq, Int.reduceNe, Int.reduceLT, Int.reduceLE, Int.reduceToNat, Int.reduceNeg, Int.reduceAdd, Int.reduceSub, Int.reduceMul, Int.reducePow, Nat.reducePow, Int.reduceBEq, hq0, hl0, hl1, ef, hz, sb_append]
              rw [← hs2, hH]
              exact quiet_i
        · simp (maxDischargeDepth := 9) -implicitDefEqProofs only [push_cast, reduceIte, Nat.reduceEqDiff, Nat.reduceAdd, Nat.reduceSub, Nat.reduceMul, Nat.reduceDiv, Nat.reduceMod, Nat.reduceLT, Nat.reduceLeDiff, Nat.reduceBEq, Nat.reduceBNe, reduceCtorEq, Int.reduceEq, Int.reduceNe, Int.reduceLT, Int.reduceLE, Int.reduceToNat, Int.reduceNeg, Int.reduceAdd, Int.reduceSub, Int.reduceMul, Int.reducePow, Nat.reducePow, Int.reduceBEq, b1, b2, d1, d2, w1, w2]
          refine wp_kSeq (wp_kBlock ?_)
          refine wp_loop (fun k a h' ws => ∃ (j : Nat) (n : Int) (l : List UInt8) (js : List ABlk), k = n.toNat ∧ l.length + j ≤ 4 ∧ 0 ≤ n ∧ n < 256 ^ j ∧ n < 4294967296 ∧ dgl j n ++ l = dgl 4 N ∧ a = [(1, .ptr g.length 0), (4, .str (sb l)), (5, .int .u64 n)] ∧ h' = g ++ (⟨.tip false, .vals [.int .u8 p0, .int .u8 p1, .int .u8 p2, .int .u8 0, .int .i8 p4, .int .i8 p5, .int .u32 p6, .int .u32 p7, .int .u32 p8, .int .u64 p9, .int .u64 p10, .int .u64 p11, .int .u64 p12, x, .bool s, .int .u32 p15, .int .u64 p16]⟩ :: js) ∧ ws = []) N.toNat ?_ ?_
          · refine ⟨4, N, [], [], rfl, by simp, n0, by simpa using n2, n2, by simp, ?_, rfl, rfl⟩
            simp (maxDischargeDepth := 9) -implicitDefEqProofs only [push_cast, reduceIte, Nat.reduceEqDiff, Nat.reduceAdd, Nat.reduceSub, Nat.reduceMul, Nat.reduceDiv, Nat.reduceMod, Nat.reduceLT, Nat.reduceLeDiff, Nat.reduceBEq, Nat.reduceBNe, reduceCtorEq, Int.reduceEq, Int.reduceNe, Int.reduceLT, Int.reduceLE, Int.reduceToNat, Int.reduceNeg, Int.reduceAdd, Int.reduceSub, Int.reduceMul, Int.reducePow, Nat.reducePow, Int.reduceBEq]; try rfl
          · rintro k aa h' ws ⟨j, n, l, js, rfl, hj2, n0, n1, n2, hs2, rfl, hH, rfl⟩
            have hq0 : h'[g.length]? = some ⟨.tip false, .vals [.int .u8 p0, .int .u8 p1, .int .u8 p2, .int .u8 0, .int .i8 p4, .int .i8 p5, .int .u32 p6, .int .u32 p7, .int .u32 p8, .int .u64 p9, .int .u64 p10, .int .u64 p11, .int .u64 p12, x, .bool s, .int .u32 p15, .int .u64 p16]⟩ := by rw [hH, List.getElem?_append_right (by omega)]; simp
            have hl0 : g.length < h'.length := by rw [hH]; simp
            have hl1 : ¬ h'.length ≤ g.length := by omega
            obtain ⟨r, hr⟩ : ∃ r, n % 256 = r := ⟨_, rfl⟩
            obtain ⟨q, hq⟩ : ∃ q, n / 256 = q := ⟨_, rfl⟩
            have d1 : n.tmod 256 = r := by rw [Int.tmod_eq_emod_of_nonneg n0]; exact hr
            have d2 : n.tdiv 256 = q := by rw [Int.tdiv_eq_ediv_of_nonneg n0]; exact hq
            have w1 : IntKind.u64.wrap r = r := wr_u64 _ (by omega) (by omega)
            have w3 : IntKind.u8.wrap r = r := wr_u8 _ (by omega) (by omega)
            have w2 : IntKind.u64.wrap q = q := wr_u64 _ (by omega) (by omega)
            by_cases c1 : 0 < n
            · cases j with
              | zero => simp at n1; omega
              | succ j =>
                rw [dgl_go (by omega), hq, hr] at hs2
                have n3 : q < 256 ^ j := by
                  rw [← hq]
                  exact Int.ediv_lt_of_lt_mul (by omega) (by rw [Int.pow_succ] at n1; exact n1)
                have sc : sliceCells (h' ++ [⟨.tip false, .ints .u8 [r]⟩]) 1 (.sl h'.length 0 1 1) = some (.ints .u8 [r]) := by
                  have : (h' ++ [(⟨.tip false, .ints .u8 [r]⟩ : ABlk)])[h'.length]? = some ⟨.tip false, .ints .u8 [r]⟩ := by simp
                  simp [sliceCells, cellsAt, this, ACells.len, ACells.sub]
                have b1 : bytesOf (.ints .u8 [r]) = some (sb [by8 r]) := rfl
                have hz : (sb [by8 r]).size + (sb l).size ≤ 9223372036854775807 := by rw [sb_size, sb_size]; simp only [List.length_cons, List.length_nil]; omega
                simp (maxDischargeDepth := 9) -implicitDefEqProofs only [push_cast, reduceIte, Nat.reduceEqDiff, Nat.reduceAdd, Nat.reduceSub, Nat.reduceMul, Nat.reduceDiv, Nat.reduceMod, Nat.reduceLT, Nat.reduceLeDiff, Nat.reduceBEq, Nat.reduceBNe, reduceCtorEq, Int.reduceEq, Int.reduceNe, Int.reduceLT, Int.reduceLE, Int.reduceToNat, Int.reduceNeg, Int.reduceAdd, Int.reduceSub, Int.reduceMul, Int.reducePow, Nat.reducePow, Int.reduceBEq, c1, d1, d2, w1, w2, w3, sc, b1, hz, sb_append]
                refine loop_next q.toNat (by omega) ⟨j, q, [by8 r] ++ l, js ++ [⟨.tip false, .ints .u8 [r]⟩], rfl, by simp only [List.length_append, List.length_cons, List.length_nil]; omega, by omega, n3, by omega, by rw [← hs2]; simp, ?_, by rw [hH]; simp, rfl⟩
                simp (maxDischargeDepth := 9) -implicitDefEqProofs only [push_cast, reduceIte, Nat.reduceEqDiff, Nat.reduceAdd, Nat.reduceSub, Nat.reduceMul, Nat.reduceDiv, Nat.reduceMod, Nat.reduceLT, Nat.reduceLeDiff, Nat.reduceBEq, Nat.reduceBNe, reduceCtorEq, Int.reduceEq, Int.reduceNe, Int.reduceLT, Int.reduceLE, Int.reduceToNat, Int.reduceNeg, Int.reduceAdd, Int.reduceSub, Int.reduceMul, Int.reducePow, Nat.reducePow, Int.reduceBEq]; try rfl
            · obtain rfl : n = 0 := by omega
              rw [dgl_stop, List.nil_append] at hs2
              have hz : (sb (frontL p8)).size + (sb l).size ≤ 9223372036854775807 := by rw [sb_size, sb_size]; have := frontL_len p8; omega
              simp (maxDischargeDepth := 9) -implicitDefEqProofs only [push_cast, reduceIte, Nat.reduceEqDiff, Nat.reduceAdd, Nat.reduceSub, Nat.reduceMul, Nat.reduceDiv, Nat.reduceMod, Nat.reduceLT, Nat.reduceLeDiff, Nat.reduceBEq, Nat.reduceBNe, reduceCtorEq, Int.reduceEq, Int.reduceNe, Int.reduceLT, Int.reduceLE, Int.reduceToNat, Int.reduceNeg, Int.reduceAdd, Int.reduceSub, Int.reduceMul, Int.reducePow, Nat.reducePow, Int.reduceBEq, hq0, hl0, hl1, ef, hz, sb_append]
              rw [← hs2, hH]
              exact quiet_i
  · rw [if_neg c]
    have c' : 0 < p3 := by omega
    simp (maxDischargeDepth := 9) -implicitDefEqProofs only [push_cast, reduceIte, Nat.reduceEqDiff, Nat.reduceAdd, Nat.reduceSub, Nat.reduceMul, Nat.reduceDiv, Nat.reduceMod, Nat.reduceLT, Nat.reduceLeDiff, Nat.reduceBEq, Nat.reduceBNe, reduceCtorEq, Int.reduceEq, Int.reduceNe, Int.reduceLT, Int.reduceLE, Int.reduceToNat, Int.reduceNeg, Int.reduceAdd, Int.reduceSub, Int.reduceMul, Int.reducePow, Nat.reducePow, Int.reduceBEq, M21, hx, c, c', sb_none]
    exact quiet_i
end Go.Proofs.YtdbdmnhnijpdcaaDoorW.AI.C

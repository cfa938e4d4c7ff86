import Derived.Test.YtdpbbagllhfjbaaDoorAIGextC
import Derived.Test.YtdpbbagllhfjbaaDoorAIGoctB
namespace Go.Proofs.YtdpbbagllhfjbaaDoorW.AI.G
open Go Go.Proofs.YtdpbbagllhfjbaaDoorW.AI Go.Proofs.YtdpbbagllhfjbaaDoorW.AI.Oct
set_option maxRecDepth 100000
set_option linter.unusedSimpArgs false
set_option linter.unusedVariables false
set_option linter.unusedSectionVars false
/-- A row of fields that came in: its cells. -/
structure ArgX (g : AHeap) (v : AV) (F : List (Int × List Int)) (A : List AV) : Prop where
  fl : F.length ≤ 9223372036854775807
  len : A.length = F.length * 2
  sh : (v = .nils ∧ F = []) ∨ ∃ b c, v = .sl b 0 F.length c ∧ F.length ≤ c ∧ g[b]? = some ⟨.ext, .vals A⟩
  el : ∀ (i : Nat) (t : Int) (D : List Int), F[i]? = some (t, D) → (0 ≤ t ∧ t < 65536) ∧ A[i * 2]? = some (.int .u16 t) ∧ ∃ d, A[i * 2 + 1]? = some d ∧ BV g d D ∧ nilOf d ≠ none ∧ D.length ≤ 9223372036854775807
theorem ArgX.xr {g : AHeap} {v : AV} {F : List (Int × List Int)} {A : List AV} (a : ArgX g v F A) : ExtAt g v F := by
  rcases a.sh with ⟨rfl, rfl⟩ | ⟨b, c, rfl, hc, hb⟩
  · exact ExtAt.nil g
  · refine ⟨b, 0, A, rfl, fun g i hi => by simp only [iaV, if_pos hi], fun _ => ⟨cellsAt_of hb (by simp), by unfold faceOk; rw [hb], (List.getElem?_eq_some_iff.1 hb).1⟩, fun i t D hi => ?_⟩
    obtain ⟨h1, h2, d, h3, h4, h5, _⟩ := a.el i t D hi
    exact ⟨h1, by rw [Nat.zero_add]; exact h2, d, by rw [Nat.zero_add]; exact h3, h4, h5⟩
theorem ArgX.app {g : AHeap} {v : AV} {F : List (Int × List Int)} {A : List AV} (a : ArgX g v F A) (js : AHeap) : ArgX (g ++ js) v F A := by
  refine ⟨a.fl, a.len, ?_, fun i t D hi => ?_⟩
  · rcases a.sh with e | ⟨b, c, e, hc, hb⟩
    · exact Or.inl e
    · exact Or.inr ⟨b, c, e, hc, by rw [List.getElem?_append_left (List.getElem?_eq_some_iff.1 hb).1]; exact hb⟩
  · obtain ⟨h1, h2, d, h3, h4, h5⟩ := a.el i t D hi
    exact ⟨h1, h2, d, h3, h4.app js, h5⟩
end Go.Proofs.YtdpbbagllhfjbaaDoorW.AI.G
namespace Go.Proofs.YtdpbbagllhfjbaaDoorW.AI.G
open Go Go.Proofs.YtdpbbagllhfjbaaDoorW.AI Go.Proofs.YtdpbbagllhfjbaaDoorW.AI.Oct
set_option maxRecDepth 100000
set_option linter.unusedSimpArgs false
set_option linter.unusedVariables false
set_option linter.unusedSectionVars false
end Go.Proofs.YtdpbbagllhfjbaaDoorW.AI.G
namespace Go.Proofs.YtdpbbagllhfjbaaDoorW.AI.G
open Go Go.Proofs.YtdpbbagllhfjbaaDoorW.AI Go.Proofs.YtdpbbagllhfjbaaDoorW.AI.Oct
set_option linter.unusedVariables false
/-- What is laid is taken. -/
theorem takeV_layB : ∀ {Ls : List Nat} {V R : List Int}, Ls.length = V.length → (∀ (i s : Nat) (v : Int), Ls[i]? = some s → V[i]? = some v → 0 ≤ v ∧ v < 256 ^ s) → takeV Ls (layB Ls V ++ R) = V
  | [], [], R, _, _ => rfl
  | s :: Ls, v :: V, R, h, hf => by
    have h0 := hf 0 s v rfl rfl
    have hl := dg_len s v
    simp only [layB, takeV, List.append_assoc]
    rw [List.take_left' hl, List.drop_left' hl, be_dg s v h0.1 h0.2, takeV_layB (by simpa using h) fun i => by simpa using hf (i + 1)]
  | [], _ :: _, _, h, _ => by simp at h
  | _ :: _, [], _, h, _ => by simp at h
/-- What is taken is laid again. -/
theorem layB_takeV : ∀ {Ls : List Nat} {D : List Int}, Byt D → Ls.sum ≤ D.length → layB Ls (takeV Ls D) = D.take Ls.sum
  | [], D, _, _ => by simp [layB]
  | s :: Ls, D, hB, hl => by
    simp only [List.sum_cons] at hl ⊢
    have h1 : (D.take s).length = s := by rw [List.length_take]; omega
    have h2 := dg_be (fun z hz => hB z (List.mem_of_mem_take hz) : Byt (D.take s))
    rw [h1] at h2
    simp only [takeV, layB]
    rw [h2, layB_takeV (fun z hz => hB z (List.mem_of_mem_drop hz)) (by rw [List.length_drop]; omega), List.take_add]
end Go.Proofs.YtdpbbagllhfjbaaDoorW.AI.G
namespace Go.Proofs.YtdpbbagllhfjbaaDoorW.AI.G
open Go Go.Proofs.YtdpbbagllhfjbaaDoorW.AI Go.Proofs.YtdpbbagllhfjbaaDoorW.AI.Oct
set_option maxRecDepth 100000
set_option linter.unusedSimpArgs false
set_option linter.unusedVariables false
set_option linter.unusedSectionVars false
theorem GxAt.app {h : AHeap} {v : AV} {n : Nat} {l : List AV} (g : GxAt h v n l) (js : AHeap) : GxAt (h ++ js) v n l := by
  refine ⟨g.1, ?_⟩
  rcases g.2 with e | ⟨p, mn, o, e, hp⟩
  · exact Or.inl e
  · exact Or.inr ⟨p, mn, o, e, by rw [List.getElem?_append_left (List.getElem?_eq_some_iff.1 hp).1]; exact hp⟩
theorem Ents.app {h : AHeap} {v : AV} {l : List AV} {F : List (Int × List Int)} (e : Ents h v l F) (js : AHeap) : Ents (h ++ js) v l F := fun i t D hi => by
  obtain ⟨h1, h2, d, h3, h4, h5, h6⟩ := e i t D hi
  exact ⟨h1, h2, d, h3, h4.app js, h5, h6⟩
theorem gsAt_bv {h : AHeap} {v : AV} {l : List Int} (g : GsAt h v l) (hB : Byt l) : BV h v l := by
  rcases g with ⟨rfl, rfl⟩ | ⟨p, mn, o, rfl, hp⟩
  · exact BV.nil h
  · exact gsl_bv hB rfl hp
-- ---------------------------------------------------------------- plain laws
theorem field_head {t : Int} {n : Nat} {R : List Int} (ht : 0 ≤ t ∧ t < 65536) (hn : n ≤ 464) : typF (dg 2 t ++ (dg 2 ((n : Int) + 4) ++ R)) = t ∧ lenF (dg 2 t ++ (dg 2 ((n : Int) + 4) ++ R)) = (n : Int) := by
  have l1 := dg_len 2 t
  have l2 := dg_len 2 ((n : Int) + 4)
  refine ⟨?_, ?_⟩
  · rw [typF, List.take_left' l1, be_dg 2 t ht.1 (by simp only [Int.reducePow]; omega)]
  · rw [lenF, List.drop_left' l1, List.take_left' l2, be_dg 2 _ (by omega) (by simp only [Int.reducePow]; omega)]
    omega
theorem mayN_I {n : Nat} (h : mayN n = true) : mayI (n : Int) = true := by
  simp only [mayI, Int.toNat_natCast, h, Bool.and_true, decide_eq_true_eq]; omega
theorem mayN_of {F : List (Int × List Int)} (h : mayX F = true) : ∀ z ∈ F, mayN z.2.length = true := by
  simp only [mayX, Bool.and_eq_true, Bool.not_eq_true', List.any_eq_false] at h
  intro z hz
  have := h.2 z hz
  simpa [badX] using this
/-- Of laid fields that are cut: too short, or the first of them. -/
theorem parse_cut : ∀ (F2 F1 : List (Int × List Int)) (k : Nat) (S : List Int), F1.length + F2.length ≤ 8 → (∀ z ∈ F2, (0 ≤ z.1 ∧ z.1 < 65536) ∧ mayN z.2.length = true) → (S.length = 0 ∨ S.length = 12) →
    ∀ c, c ≤ (putX F2 ++ S).length → (c = (putX F2 ++ S).length ∨ S = []) → k = 9 - F1.length →
    (parseX k F1 ((putX F2 ++ S).take c) = .err 4 ∧ c ≠ (putX F2 ++ S).length) ∨ (∃ j T, j ≤ F2.length ∧ parseX k F1 ((putX F2 ++ S).take c) = .ok (F1 ++ F2.take j) T ∧ (c = (putX F2 ++ S).length → j = F2.length ∧ T = S))
  | [], F1, k, S, h8, hF, hS, c, hc, hcS, hk => by
    refine Or.inr ⟨0, S.take c, by simp, ?_, fun e => ⟨rfl, ?_⟩⟩
    · obtain ⟨k', rfl⟩ : ∃ k', k = k' + 1 := ⟨k - 1, by simp at h8; omega⟩
      simp only [putX, List.map_nil, List.flatten_nil, List.nil_append] at hc hcS ⊢
      rw [parseX, if_pos]
      · simp
      · rcases hcS with e | rfl
        · rw [e, List.take_length]; exact hS
        · simp
    · simp only [putX, List.map_nil, List.flatten_nil, List.nil_append] at e
      rw [e, List.take_length]
  | z :: F2, F1, k, S, h8, hF, hS, c, hc, hcS, hk => by
    obtain ⟨⟨t0, t1⟩, hm⟩ := hF z List.mem_cons_self
    obtain ⟨t, D⟩ := z
    simp only at t0 t1 hm
    obtain ⟨n, hn⟩ : ∃ n, D.length = n := ⟨_, rfl⟩
    rw [hn] at hm
    have hm' := hm
    simp only [mayN, Bool.and_eq_true, decide_eq_true_eq] at hm'
    obtain ⟨k', rfl⟩ : ∃ k', k = k' + 1 := ⟨k - 1, by simp at h8; omega⟩
    obtain ⟨R, hR⟩ : ∃ R, putX F2 ++ S = R := ⟨_, rfl⟩
    have hput : putX ((t, D) :: F2) ++ S = dg 2 t ++ (dg 2 ((n : Int) + 4) ++ (D ++ R)) := by
      rw [← hR]; simp [putX, putF, hn]
    rw [hput] at hc hcS ⊢
    have l1 := dg_len 2 t
    have l2 := dg_len 2 ((n : Int) + 4)
    have hlen : (dg 2 t ++ (dg 2 ((n : Int) + 4) ++ (D ++ R))).length = 4 + n + R.length := by simp only [List.length_append, l1, l2, hn]; omega
    rw [hlen] at hc hcS ⊢
    by_cases c0 : c = 0 ∨ c = 12
    · have hS0 : S = [] := by
        rcases hcS with e | e
        · omega
        · exact e
      refine Or.inr ⟨0, (dg 2 t ++ (dg 2 ((n : Int) + 4) ++ (D ++ R))).take c, by simp, ?_, fun e => by omega⟩
      rw [parseX, if_pos (by rw [List.length_take, hlen]; omega)]
      simp
    · have hSc := hcS
      by_cases c1 : c < 16
      · refine Or.inl ⟨?_, by omega⟩
        rw [parseX, if_neg (by rw [List.length_take, hlen]; omega), if_pos (by rw [List.length_take, hlen]; omega)]
      · have htake : (dg 2 t ++ (dg 2 ((n : Int) + 4) ++ (D ++ R))).take c = dg 2 t ++ (dg 2 ((n : Int) + 4) ++ (D ++ R).take (c - 4)) := by
          rw [List.take_append, l1, List.take_of_length_le (by omega : (dg 2 t).length ≤ c), List.take_append, l2, List.take_of_length_le (by omega : (dg 2 ((n : Int) + 4)).length ≤ c - 2), show c - 2 - 2 = c - 4 by omega]
        obtain ⟨f1, f2⟩ := field_head (t := t) (n := n) (R := (D ++ R).take (c - 4)) ⟨t0, t1⟩ (by omega)
        rw [htake]
        have hl3 : (dg 2 t ++ (dg 2 ((n : Int) + 4) ++ (D ++ R).take (c - 4))).length = c := by rw [← htake, List.length_take, hlen]; omega
        rw [parseX, hl3, if_neg c0, if_neg c1, f1, f2, mayN_I hm, if_neg (by simp), Int.toNat_natCast]
        by_cases c2 : c < n + 4
        · rw [if_pos (by omega)]
          exact Or.inl ⟨rfl, by omega⟩
        · rw [if_neg (by omega), if_neg (by simp at h8; omega)]
          have hd : ((dg 2 t ++ (dg 2 ((n : Int) + 4) ++ (D ++ R).take (c - 4))).drop 4).take n = D := by
            rw [← List.append_assoc, List.drop_left' (by simp [l1, l2]), List.take_take, Nat.min_eq_left (by omega), List.take_left' hn]
          have hr : (dg 2 t ++ (dg 2 ((n : Int) + 4) ++ (D ++ R).take (c - 4))).drop (4 + n) = R.take (c - (4 + n)) := by
            rw [← List.drop_drop, ← List.append_assoc, List.drop_left' (by simp [l1, l2]), List.drop_take, List.drop_left' hn, show c - 4 - n = c - (4 + n) by omega]
          rw [hd, hr]
          have ih := parse_cut F2 (F1 ++ [(t, D)]) k' S (by simp at h8 ⊢; omega) (fun z hz => hF z (List.mem_cons_of_mem _ hz)) hS (c - (4 + n)) (by rw [hR]; omega) (by rw [hR]; rcases hSc with e | e; exact Or.inl (by omega); exact Or.inr e) (by simp; omega)
          rw [hR] at ih
          rcases ih with ⟨e, e2⟩ | ⟨j, T, hj, e, e2⟩
          · exact Or.inl ⟨e, by omega⟩
          · refine Or.inr ⟨j + 1, T, by simp; omega, by rw [e]; simp, fun h => ?_⟩
            obtain ⟨a, b⟩ := e2 (by omega)
            exact ⟨by simp [a], b⟩
/-- What is laid is read. -/
theorem parse_put {F : List (Int × List Int)} {S : List Int} (hm : mayX F = true) (hF : ∀ z ∈ F, 0 ≤ z.1 ∧ z.1 < 65536) (hS : S.length = 0 ∨ S.length = 12) : parseX 9 [] (putX F ++ S) = .ok F S := by
  have h8 := (mayX_all hm).1
  have := parse_cut F [] 9 S (by simpa using h8) (fun z hz => ⟨hF z hz, mayN_of hm z hz⟩) hS (putX F ++ S).length (Nat.le_refl _) (Or.inl rfl) rfl
  rw [List.take_length] at this
  rcases this with ⟨_, e⟩ | ⟨j, T, hj, e, e2⟩
  · exact absurd rfl e
  · obtain ⟨rfl, rfl⟩ := e2 rfl
    rw [e]; simp
/-- What is read is laid again. -/
theorem put_parse : ∀ (k : Nat) (F1 F : List (Int × List Int)) (D D' : List Int), Byt D → F1.length + k = 9 → parseX k F1 D = .ok F D' → ∃ F2, F = F1 ++ F2 ∧ D = putX F2 ++ D' ∧ (∀ z ∈ F2, (0 ≤ z.1 ∧ z.1 < 65536) ∧ mayN z.2.length = true) ∧ F.length ≤ 8 ∧ (D'.length = 0 ∨ D'.length = 12)
  | 0, F1, F, D, D', hB, hk, h => by cases h
  | k + 1, F1, F, D, D', hB, hk, h => by
    rw [parseX] at h
    split at h
    · rename_i c0
      cases h
      exact ⟨[], by simp, by simp [putX], by simp, by omega, c0⟩
    · split at h
      · cases h
      · rename_i c0 c1
        split at h
        · cases h
        · rename_i c2
          split at h
          · cases h
          · rename_i c3
            split at h
            · cases h
            · rename_i c4
              have hmI : mayI (lenF D) = true := by simpa using c2
              obtain ⟨m1, m2⟩ := mayI_le hmI
              obtain ⟨n, hn⟩ : ∃ n : Nat, lenF D = (n : Int) := ⟨(lenF D).toNat, by omega⟩
              rw [hn, Int.toNat_natCast] at h
              have hl22 := len22 hB (show 4 ≤ D.length by omega)
              have hBd : Byt (D.drop (4 + n)) := fun z hz => hB z (List.mem_of_mem_drop hz)
              obtain ⟨F2, e1, e2, e3, e4, e5⟩ := put_parse k _ F _ D' hBd (by simp; omega) h
              have hm : mayN n = true := by
                have := hmI
                rw [hn] at this
                simp only [mayI, Int.toNat_natCast, Bool.and_eq_true] at this
                exact this.2
              have hcl : ((D.drop 4).take n).length = n := by rw [List.length_take, List.length_drop]; omega
              refine ⟨(typF D, (D.drop 4).take n) :: F2, by rw [e1]; simp, ?_, ?_, e4, e5⟩
              · have hB2 : Byt (D.take 2) := fun z hz => hB z (List.mem_of_mem_take hz)
                have hB3 : Byt ((D.drop 2).take 2) := fun z hz => hB z (List.mem_of_mem_drop (List.mem_of_mem_take hz))
                have d1 := dg_be hB2
                have d2 := dg_be hB3
                rw [show (D.take 2).length = 2 by rw [List.length_take]; omega] at d1
                rw [show ((D.drop 2).take 2).length = 2 by rw [List.length_take, List.length_drop]; omega] at d2
                have e6 : putX ((typF D, (D.drop 4).take n) :: F2) = D.take 2 ++ ((D.drop 2).take 2 ++ ((D.drop 4).take n ++ putX F2)) := by
                  have h7 : ((n : Int) + 4) = be ((D.drop 2).take 2) := by rw [← hn, lenF]; omega
                  simp only [putX, List.map_cons, List.flatten_cons, putF, hcl, h7, d2]
                  rw [show dg 2 (typF D) = D.take 2 from d1]
                  simp
                rw [e6, List.append_assoc, List.append_assoc, List.append_assoc, ← e2, show (4 + n) = 2 + 2 + n by omega, ← List.drop_drop, ← List.drop_drop]
                rw [show D.drop 4 = (D.drop 2).drop 2 by rw [List.drop_drop], List.take_append_drop, List.take_append_drop, List.take_append_drop]
              · intro z hz
                rcases List.mem_cons.1 hz with rfl | hz
                · exact ⟨hl22.1, by simp only [hcl]; exact hm⟩
                · exact e3 z hz
end Go.Proofs.YtdpbbagllhfjbaaDoorW.AI.G

import Derived.Test.YthcjmmngenogmaaAIEfil3
namespace Go.Proofs.YthcjmmngenogmaaW.AI.E
open Go Go.Proofs.YthcjmmngenogmaaW.AI
set_option maxRecDepth 100000
set_option linter.unusedSimpArgs false
set_option linter.unusedVariables false
set_option linter.unusedSectionVars false
theorem W_setJ {C : Cfg} {f : Nat} {m : MFunc} {args : List AV} {h : AHeap} {p : Nat} {b : ABlk} {v : AV} (hp : C.prim f args h = none) (hm : C.mp f = some m) (h0 : AV.lts 0 args = false) (ht : m.trim = true) (hv : v.lt h.length = true) (hg : Good h) (hl : p < h.length) (hb : notOld b = true) (hc : b.c.lt h.length = true)
    (e : Wp (xbody (W C) m args h) fun r => r.1 = v ∧ (∃ js, r.2.1 = h.set p b ++ js) ∧ ∀ q ∈ r.2.2, q = p) : ∃ ws, (∀ q ∈ ws, q = p) ∧ W C f args h = some (v, h.set p b, ws) := by
  obtain ⟨⟨v', h', ws⟩, e, rfl, ⟨js, rfl⟩, hw⟩ := e
  refine ⟨ws, hw, W_sets (js := js) hp hm h0 ht hv (List.length_set ..) (good_set hg hb) (fun q hq => ?_) e⟩
  obtain rfl := hw q hq
  exact ⟨b, List.getElem?_set_self hl, hc⟩
def jmpF (F : FS) (s : Sp) : Prop := canL F s.1 ∧ 3 ≤ F.L.length ∧ jmpB F s = true
def badP (F : FS) (s : Sp) : Prop := mayS s.1 s.2.1 s.2.2 = false ∨ ∃ t, F.L[0]? = some t ∧ s.1 < t.1
section
variable {h : AHeap} {p r : Nat} {C : List Int} {F : FS}
theorem jumps_any {s : Sp} (hg : Good h) (a : FilAt h p F r C) : ∃ b : Bool, (b = true ↔ jmpF F s) ∧ W CP 77 [.ptr p 0, spV s] h = some (.bool b, h, []) := by
  by_cases c : canL F s.1 ∧ 3 ≤ F.L.length
  · exact ⟨jmpB F s, ⟨fun e => ⟨c.1, c.2, e⟩, fun e => e.2.2⟩, jumps_c hg a c.1 c.2⟩
  · exact ⟨false, ⟨(fun e => by cases e), (fun e => absurd ⟨e.1, e.2.1⟩ c)⟩, jumps_no hg a (by
      by_cases c1 : canL F s.1
      · exact Or.inr (by have : ¬ 3 ≤ F.L.length := fun e => c ⟨c1, e⟩; omega)
      · exact Or.inl c1)⟩
theorem FilAt.get (a : FilAt h p F r C) {i : Nat} {s : Sp} (hs : F.L[i]? = some s) : C[i * 3]? = some s.1 ∧ C[i * 3 + 1]? = some s.2.1 ∧ C[i * 3 + 2]? = some s.2.2 := by
  have hi := (List.getElem?_eq_some_iff.1 hs).1
  obtain ⟨g1, g2, g3⟩ := flat3_get hs
  rw [← a.tk] at g1 g2 g3
  rw [List.getElem?_take_of_lt (by omega)] at g1 g2 g3
  exact ⟨g1, g2, g3⟩
theorem Put_bad {s : Sp} (hg : Good h) (a : FilAt h p F r C) (hb : badP F s) : W CP 34 [.ptr p 0, spV s] h = some (.int .i64 1, h, []) := by
  have b := a.blk
  have l := (List.getElem?_eq_some_iff.1 b).1
  have hC := a.len
  have f25 := fX_25 (r := r) hC F.L.length F.used F.held
  obtain ⟨x, y, z⟩ := s
  have hg1 : Good (h ++ [⟨.tip false, .ints .i64 [x, y, z]⟩]) := good_app hg rfl
  have a1 := a.app [⟨.tip false, .ints .i64 [x, y, z]⟩]
  have eN := fnone_c hg1 a1
  have b1 := a1.blk
  have l1 := (List.getElem?_eq_some_iff.1 b1).1
  have c1 : (h ++ [(⟨.tip false, .ints .i64 [x, y, z]⟩ : ABlk)])[h.length]? = some ⟨.tip false, .ints .i64 [x, y, z]⟩ := fend _ _ _
  have eM := fun g => span_May (a := x) (l := y) (u := z) g
  refine W_quietP (m := M34) rfl rfl (by simp [AV.lts, AV.lt]) rfl rfl hg ?_
  by_cases hm : mayS x y z = true
  · rcases hb with hb | ⟨t, ht, hlt⟩
    · rw [hm] at hb; cases hb
    · rw [hm] at eM
      have hn := (List.getElem?_eq_some_iff.1 ht).1
      have hn' : (0 : Int) < (F.L.length : Int) := by omega
      have hX := fX_c (r := r) (a.get ht).1 F.L.length F.used F.held
      simp only [Nat.zero_mul, Nat.zero_add] at hX
      simp only at hlt
      obtain ⟨H, hH⟩ : ∃ H, h ++ [(⟨.tip false, .ints .i64 [x, y, z]⟩ : ABlk)] = H := ⟨_, rfl⟩
      rw [hH] at eN b1 l1 c1
      have c1l := (List.getElem?_eq_some_iff.1 c1).1
      simp (maxDischargeDepth := 9) -implicitDefEqProofs only [push_cast, simprocAttr, M34, nadd1, nadd2, nadd3, nadd4, nadd5, nadd6, nadd7, nadd8, nadd9, nadd10, nadd11, nadd12, ABlk.new, hH, eN, c1, c1l, eM, b1, l1, f25, hn', hX, hlt, Nat.zero_add, Nat.zero_mul, Nat.add_zero]
      exact ⟨rfl, ⟨_, hH.symm⟩, rfl⟩
  · rw [show mayS x y z = false from by simpa using hm] at eM
    obtain ⟨H, hH⟩ : ∃ H, h ++ [(⟨.tip false, .ints .i64 [x, y, z]⟩ : ABlk)] = H := ⟨_, rfl⟩
    rw [hH] at eN b1 l1 c1
    have c1l := (List.getElem?_eq_some_iff.1 c1).1
    simp (maxDischargeDepth := 9) -implicitDefEqProofs only [push_cast, simprocAttr, M34, nadd1, nadd2, nadd3, nadd4, nadd5, nadd6, nadd7, nadd8, nadd9, nadd10, nadd11, nadd12, ABlk.new, hH, eN, c1, c1l, eM, Nat.zero_add, Nat.zero_mul, Nat.add_zero]
    exact ⟨rfl, ⟨_, hH.symm⟩, rfl⟩
theorem list_sets {X : List AV} (x y z : AV) : ((X.set 1 x).set 2 y).set 3 z = match X with | a :: _ :: _ :: _ :: l => a :: x :: y :: z :: l | X => ((X.set 1 x).set 2 y).set 3 z := by
  match X with
  | [] => rfl
  | [_] => rfl
  | [_, _] => rfl
  | [_, _, _] => rfl
  | _ :: _ :: _ :: _ :: _ => rfl
theorem storeL_app : ∀ (l A B D : List AV), (∀ x ∈ l, x.isCell = true) → B.length = l.length → storeL (.vals (A ++ B ++ D)) A.length l = some (.vals (A ++ l ++ D))
  | [], A, B, D, _, hB => by
    obtain rfl : B = [] := List.length_eq_zero_iff.1 (by simpa using hB)
    rfl
  | v :: l, A, [], D, _, hB => by simp at hB
  | v :: l, A, b :: B, D, hl, hB => by
    have ih := storeL_app l (A ++ [v]) B D (fun x hx => hl x (List.mem_cons_of_mem _ hx)) (by simpa using hB)
    have hc := hl v List.mem_cons_self
    have hset : (A ++ b :: B ++ D).set A.length v = A ++ [v] ++ B ++ D := by
      rw [List.append_assoc, List.set_append_right _ _ (Nat.le_refl _), Nat.sub_self]
      simp
    simp only [storeL, ACells.set?]
    rw [if_pos ⟨by simp, hc⟩, hset]
    simp only [Option.bind_some]
    rw [List.length_append, List.length_singleton] at ih
    rw [ih]
    simp
/-- What a span that is taken does. -/
def addF (F : FS) (s : Sp) : FS := { F with L := (s :: F.L).take 8, held := false }
def heldF (F : FS) : FS := { F with held := true }
def useF (F : FS) (u : Int) : FS := { F with used := u }
set_option maxHeartbeats 4000000 in
theorem Put_ok {s : Sp} (hg : Good h) (a : FilAt h p F r C) (hrp : r ≠ p) (hb : ¬ badP F s) (hj : ¬ (jmpF F s ∧ F.held = false)) : ∃ C' ws, (∀ q ∈ ws, q = p) ∧ W CP 34 [.ptr p 0, spV s] h = some (.int .i64 0, h.set p ⟨.tip false, .vals (fX r C' (addF F s).L.length (addF F s).used false)⟩, ws) ∧
    FilAt (h.set p ⟨.tip false, .vals (fX r C' (addF F s).L.length (addF F s).used false)⟩) p (addF F s) r C' := by
  have b := a.blk
  have l := (List.getElem?_eq_some_iff.1 b).1
  have hC := a.len
  have h8 := a.le
  have f25 := fX_25 (r := r) hC F.L.length F.used F.held
  have f27 := fX_27 (r := r) hC F.L.length F.used F.held
  obtain ⟨x, y, z⟩ := s
  have hg1 : Good (h ++ [⟨.tip false, .ints .i64 [x, y, z]⟩]) := good_app hg rfl
  have a1 := a.app [⟨.tip false, .ints .i64 [x, y, z]⟩]
  have eN := fnone_c hg1 a1
  have b1 := a1.blk
  have l1 := (List.getElem?_eq_some_iff.1 b1).1
  have c1 : (h ++ [(⟨.tip false, .ints .i64 [x, y, z]⟩ : ABlk)])[h.length]? = some ⟨.tip false, .ints .i64 [x, y, z]⟩ := fend _ _ _
  have eM := fun g => span_May (a := x) (l := y) (u := z) g
  have hm : mayS x y z = true := by
    cases hmm : mayS x y z with
    | true => rfl
    | false => exact absurd (Or.inl hmm) hb
  rw [hm] at eM
  obtain ⟨jb, hjb, eJ⟩ := jumps_any (s := (x, y, z)) hg1 a1
  -- the cells
  have hC21 : (C.take 21).length = 21 := by rw [List.length_take]; omega
  have hC3 : (C.take 3).length = 3 := by rw [List.length_take]; omega
  have hCC : (C.take 3 ++ C.take 21).length = 24 := by rw [List.length_append]; omega
  have hCf : (x :: y :: z :: C.take 21).length = 24 := by simp only [List.length_cons]; omega
  have hcell : ∀ (D : List Int), ∀ v ∈ D.map (AV.int .i64), v.isCell = true := fun D v hv => by obtain ⟨w, _, rfl⟩ := List.mem_map.1 hv; rfl
  have hst : storeL (.vals (fX r C F.L.length F.used F.held)) 4 (List.take 21 (List.map (AV.int .i64) C)) = some (.vals (fX r (C.take 3 ++ C.take 21) F.L.length F.used F.held)) := by
    have e : fX r C F.L.length F.used F.held = (.ptr r 0 :: (C.take 3).map (AV.int .i64)) ++ (C.drop 3).map (AV.int .i64) ++ [.int .i64 (F.L.length : Int), .int .i64 F.used, .bool F.held] := by
      unfold fX
      rw [List.cons_append, List.cons_append, ← List.map_append, List.take_append_drop]
    rw [e]
    have := storeL_app ((C.take 21).map (AV.int .i64)) (.ptr r 0 :: (C.take 3).map (AV.int .i64)) ((C.drop 3).map (AV.int .i64)) [.int .i64 (F.L.length : Int), .int .i64 F.used, .bool F.held] (hcell _) (by simp; omega)
    rw [show (AV.ptr r 0 :: (C.take 3).map (AV.int .i64)).length = 4 by simp; omega] at this
    rw [← List.map_take, this]
    unfold fX
    simp
  have hsl : sliceCells (h ++ [⟨.tip false, .ints .i64 [x, y, z]⟩]) 3 (.sl p 1 8 8) = some (.vals (C.map (AV.int .i64))) := by
    have hc : cellsAt (h ++ [(⟨.tip false, .ints .i64 [x, y, z]⟩ : ABlk)]) p = some (.vals (fX r C F.L.length F.used F.held)) := by
      unfold cellsAt
      rw [b1]
    simp only [sliceCells, hc, ACells.len, ACells.sub, Option.bind_some, fX_len hC]
    rw [if_pos (by omega)]
    congr 1
    congr 1
    unfold fX
    rw [show (1 : Nat) = 0 + 1 from rfl, List.drop_succ_cons, List.drop_zero, List.take_append_of_le_length (by simp [hC])]
    rw [List.take_of_length_le (by simp [hC])]
  obtain ⟨m, hmm⟩ : ∃ m, F.L.length = m := ⟨_, rfl⟩
  obtain ⟨u, hu⟩ : ∃ u, F.used = u := ⟨_, rfl⟩
  obtain ⟨d, hd⟩ : ∃ d, F.held = d := ⟨_, rfl⟩
  have hlen : ((x, y, z) :: F.L).length = m + 1 := by rw [List.length_cons, hmm]
  obtain ⟨m', hm'⟩ : ∃ m', (addF F (x, y, z)).L.length = m' := ⟨_, rfl⟩
  have hm'' : m' = min 8 (m + 1) := by rw [← hm']; unfold addF; simp only [List.length_take, hlen]
  rw [hm']
  rw [hmm] at f25 f27 b1 hst h8
  rw [hu] at f25 f27 b1 hst
  rw [hd] at f25 f27 b1 hst hj
  have hau : (addF F (x, y, z)).used = u := hu
  rw [hau]
  obtain ⟨H, hH⟩ : ∃ H, h ++ [(⟨.tip false, .ints .i64 [x, y, z]⟩ : ABlk)] = H := ⟨_, rfl⟩
  rw [hH] at eN b1 l1 c1 eJ hsl
  have c1l := (List.getElem?_eq_some_iff.1 c1).1
  have hpn : p ≠ h.length := by omega
  obtain ⟨H2, hH2⟩ : ∃ H2, H.set p ⟨.tip false, .vals (fX r (C.take 3 ++ C.take 21) m u d)⟩ = H2 := ⟨_, rfl⟩
  have b2 : H2[p]? = some ⟨.tip false, .vals (fX r (C.take 3 ++ C.take 21) m u d)⟩ := by rw [← hH2]; exact List.getElem?_set_self l1
  have c2 : H2[h.length]? = some ⟨.tip false, .ints .i64 [x, y, z]⟩ := by rw [← hH2, List.getElem?_set_ne hpn]; exact c1
  have b2l := (List.getElem?_eq_some_iff.1 b2).1
  have c2l := (List.getElem?_eq_some_iff.1 c2).1
  obtain ⟨H3, hH3⟩ : ∃ H3, H2.set p ⟨.tip false, .vals (fX r (x :: y :: z :: C.take 21) m u d)⟩ = H3 := ⟨_, rfl⟩
  have b3 : H3[p]? = some ⟨.tip false, .vals (fX r (x :: y :: z :: C.take 21) m u d)⟩ := by rw [← hH3]; exact List.getElem?_set_self b2l
  have b3l := (List.getElem?_eq_some_iff.1 b3).1
  obtain ⟨H4, hH4⟩ : ∃ H4, H3.set p ⟨.tip false, .vals (fX r (x :: y :: z :: C.take 21) m' u d)⟩ = H4 := ⟨_, rfl⟩
  have b4 : H4[p]? = some ⟨.tip false, .vals (fX r (x :: y :: z :: C.take 21) m' u d)⟩ := by rw [← hH4]; exact List.getElem?_set_self b3l
  have b4l := (List.getElem?_eq_some_iff.1 b4).1
  have hH5 : H4.set p ⟨.tip false, .vals (fX r (x :: y :: z :: C.take 21) m' u false)⟩ = h.set p ⟨.tip false, .vals (fX r (x :: y :: z :: C.take 21) m' u false)⟩ ++ [⟨.tip false, .ints .i64 [x, y, z]⟩] := by
    rw [← hH4, List.set_set, ← hH3, List.set_set, ← hH2, List.set_set, ← hH, List.set_append_left _ _ l]
  have s3 : (((fX r (C.take 3 ++ C.take 21) m u d).set 1 (.int .i64 x)).set 2 (.int .i64 y)).set 3 (.int .i64 z) = fX r (x :: y :: z :: C.take 21) m u d := by
    rw [list_sets]
    match hCt : C.take 3, hC3 with
    | [c0, c1, c2], _ => unfold fX; simp
  have g25 := fX_25 (r := r) hCf m u d
  have s25 := fX_set25 (r := r) hCf m m' u d
  have s27 := fX_set27 (r := r) hCf m' u d false
  have n2 := fX_len (r := r) hCC m u d
  have n3 := fX_len (r := r) hCf m u d
  have n4 := fX_len (r := r) hCf m' u d
  have w1 : IntKind.i64.wrap ((m : Int) + 1) = (m : Int) + 1 := wr_i64 _ (by omega) (by omega)
  have hmn : (if (8 : Int) < (m : Int) + 1 then (8 : Int) else (m : Int) + 1) = (m' : Int) := by split <;> omega
  have fin : FilAt (h.set p ⟨.tip false, .vals (fX r (x :: y :: z :: C.take 21) m' u false)⟩) p (addF F (x, y, z)) r (x :: y :: z :: C.take 21) := by
    refine ⟨by rw [hm', hau]; exact List.getElem?_set_self l, hCf, ?_, by rw [hm']; omega, ?_⟩
    · rw [hm']
      obtain ⟨k, hk⟩ : ∃ k, m' = k + 1 := ⟨m' - 1, by omega⟩
      rw [hk, show (k + 1) * 3 = k * 3 + 1 + 1 + 1 by omega, List.take_succ_cons, List.take_succ_cons, List.take_succ_cons, List.take_take, show min (k * 3) 21 = k * 3 by omega]
      have e1 : C.take (k * 3) = flat3 (F.L.take k) := by
        have := a.tk
        rw [hmm] at this
        rw [← flat3_take, ← this, List.take_take, show min (k * 3) (m * 3) = k * 3 by omega]
      rw [e1]
      unfold addF
      simp only [List.take_succ_cons, flat3_cons]
      congr 4
      rw [show (7 : Nat) = 7 from rfl]
      by_cases c : k = 7
      · rw [c]
      · rw [List.take_of_length_le (by omega), List.take_of_length_le (by omega)]
    · obtain ⟨q1, q2, q3⟩ := a.rul
      exact ⟨by rw [List.getElem?_set_ne (Ne.symm hrp)]; exact q1, by rw [List.length_set]; exact q2, q3⟩
  have walk : Wp (xbody (W CP) M34 [.ptr p 0, spV (x, y, z)] h) fun q => q.1 = .int .i64 0 ∧ (∃ js, q.2.1 = h.set p ⟨.tip false, .vals (fX r (x :: y :: z :: C.take 21) m' u false)⟩ ++ js) ∧ ∀ b ∈ q.2.2, b = p := by
    by_cases hm0 : (0 : Int) < (m : Int)
    · obtain ⟨t, ht⟩ : ∃ t, F.L[0]? = some t := ⟨_, List.getElem?_eq_getElem (by omega)⟩
      have hX := fX_c (r := r) (a.get ht).1 F.L.length F.used F.held
      simp only [Nat.zero_mul, Nat.zero_add] at hX
      rw [hmm, hu, hd] at hX
      have hlt : ¬ x < t.1 := fun e => hb (Or.inr ⟨t, ht, e⟩)
      cases hjb' : jb with
      | false =>
        rw [hjb'] at eJ
        simp (maxDischargeDepth := 9) -implicitDefEqProofs only [push_cast, simprocAttr, M34, nadd1, nadd2, nadd3, nadd4, nadd5, nadd6, nadd7, nadd8, nadd9, nadd10, nadd11, nadd12, ABlk.new, hH, eN, c1, c1l, eM, b1, l1, f25, hm0, hX, hlt, eJ, hsl, List.drop_zero, hst, hH2, b2, b2l, c2, c2l, n2, s3, hH3, b3, b3l, g25, w1, hmn, n3, s25, hH4, b4, b4l, n4, s27, hH5, Nat.zero_add, Nat.zero_mul, Nat.add_zero, List.length_set, l, List.mem_singleton, not_true_eq_false, and_false, if_false, true_and]
        exact ⟨⟨_, rfl⟩, by simp⟩
      | true =>
        rw [hjb'] at eJ
        have hdt : d = true := by
          cases hdd : d with
          | true => rfl
          | false => exact absurd ⟨hjb.1 hjb', hdd⟩ hj
        rw [hdt] at f27
        subst hdt
        simp (maxDischargeDepth := 9) -implicitDefEqProofs only [push_cast, simprocAttr, M34, nadd1, nadd2, nadd3, nadd4, nadd5, nadd6, nadd7, nadd8, nadd9, nadd10, nadd11, nadd12, ABlk.new, hH, eN, c1, c1l, eM, b1, l1, f25, f27, hm0, hX, hlt, eJ, hsl, List.drop_zero, hst, hH2, b2, b2l, c2, c2l, n2, s3, hH3, b3, b3l, g25, w1, hmn, n3, s25, hH4, b4, b4l, n4, s27, hH5, Nat.zero_add, Nat.zero_mul, Nat.add_zero, List.length_set, l, List.mem_singleton, not_true_eq_false, and_false, if_false, true_and]
        exact ⟨⟨_, rfl⟩, by simp⟩
    · have hjb' : jb = false := by
        cases hq : jb with
        | false => rfl
        | true => have := (hjb.1 hq).2.1; omega
      rw [hjb'] at eJ
      simp (maxDischargeDepth := 9) -implicitDefEqProofs only [push_cast, simprocAttr, M34, nadd1, nadd2, nadd3, nadd4, nadd5, nadd6, nadd7, nadd8, nadd9, nadd10, nadd11, nadd12, ABlk.new, hH, eN, c1, c1l, eM, b1, l1, f25, hm0, eJ, hsl, List.drop_zero, hst, hH2, b2, b2l, c2, c2l, n2, s3, hH3, b3, b3l, g25, w1, hmn, n3, s25, hH4, b4, b4l, n4, s27, hH5, Nat.zero_add, Nat.zero_mul, Nat.add_zero, List.length_set, l, List.mem_singleton, not_true_eq_false, and_false, if_false, true_and]
      exact ⟨⟨_, rfl⟩, by simp⟩
  obtain ⟨ws, hw, e⟩ := W_setJ (C := CP) (f := 34) (m := M34) rfl rfl (by simp [AV.lts, AV.lt]) rfl rfl hg l rfl (fX_lt a.rul.2.1 _ _ _) walk
  exact ⟨_, ws, hw, e, fin⟩
end
end Go.Proofs.YthcjmmngenogmaaW.AI.E
namespace Go.Proofs.YthcjmmngenogmaaW.AI.E
open Go Go.Proofs.YthcjmmngenogmaaW.AI
set_option maxRecDepth 100000
set_option linter.unusedSimpArgs false
set_option linter.unusedVariables false
set_option linter.unusedSectionVars false
section
variable {h : AHeap} {p r : Nat} {C : List Int} {F : FS}
theorem FilAt.again (a : FilAt h p F r C) (hrp : r ≠ p) (u : Int) (d : Bool) : FilAt (h.set p ⟨.tip false, .vals (fX r C F.L.length u d)⟩) p ⟨F.t, F.f, F.L, u, d⟩ r C := by
  refine ⟨List.getElem?_set_self (List.getElem?_eq_some_iff.1 a.blk).1, a.len, a.tk, a.le, ?_⟩
  obtain ⟨q1, q2, q3⟩ := a.rul
  exact ⟨by rw [List.getElem?_set_ne (Ne.symm hrp)]; exact q1, by rw [List.length_set]; exact q2, q3⟩
set_option maxHeartbeats 4000000 in
theorem Put_held {s : Sp} (hg : Good h) (a : FilAt h p F r C) (hrp : r ≠ p) (hb : ¬ badP F s) (hj : jmpF F s) (hh : F.held = false) : ∃ ws, (∀ q ∈ ws, q = p) ∧ W CP 34 [.ptr p 0, spV s] h = some (.int .i64 35, h.set p ⟨.tip false, .vals (fX r C F.L.length F.used true)⟩, ws) ∧
    FilAt (h.set p ⟨.tip false, .vals (fX r C F.L.length F.used true)⟩) p (heldF F) r C := by
  have b := a.blk
  have l := (List.getElem?_eq_some_iff.1 b).1
  have hC := a.len
  have h8 := a.le
  have hm0 : (0 : Int) < (F.L.length : Int) := by have := hj.2.1; omega
  have f25 := fX_25 (r := r) hC F.L.length F.used F.held
  have f27 := fX_27 (r := r) hC F.L.length F.used F.held
  have s27 := fX_set27 (r := r) hC F.L.length F.used F.held true
  have n1 := fX_len (r := r) hC F.L.length F.used F.held
  obtain ⟨x, y, z⟩ := s
  have hg1 : Good (h ++ [⟨.tip false, .ints .i64 [x, y, z]⟩]) := good_app hg rfl
  have a1 := a.app [⟨.tip false, .ints .i64 [x, y, z]⟩]
  have eN := fnone_c hg1 a1
  have b1 := a1.blk
  have l1 := (List.getElem?_eq_some_iff.1 b1).1
  have c1 : (h ++ [(⟨.tip false, .ints .i64 [x, y, z]⟩ : ABlk)])[h.length]? = some ⟨.tip false, .ints .i64 [x, y, z]⟩ := fend _ _ _
  have eM := fun g => span_May (a := x) (l := y) (u := z) g
  have hm : mayS x y z = true := by
    cases hmm : mayS x y z with
    | true => rfl
    | false => exact absurd (Or.inl hmm) hb
  rw [hm] at eM
  obtain ⟨jb, hjb, eJ⟩ := jumps_any (s := (x, y, z)) hg1 a1
  rw [hjb.2 hj] at eJ
  obtain ⟨t, ht⟩ : ∃ t, F.L[0]? = some t := ⟨_, List.getElem?_eq_getElem (by omega)⟩
  have hX := fX_c (r := r) (a.get ht).1 F.L.length F.used F.held
  simp only [Nat.zero_mul, Nat.zero_add] at hX
  have hlt : ¬ x < t.1 := fun e => hb (Or.inr ⟨t, ht, e⟩)
  rw [hh] at f25 f27 s27 n1 b1 hX
  obtain ⟨H, hH⟩ : ∃ H, h ++ [(⟨.tip false, .ints .i64 [x, y, z]⟩ : ABlk)] = H := ⟨_, rfl⟩
  rw [hH] at eN b1 l1 c1 eJ
  have c1l := (List.getElem?_eq_some_iff.1 c1).1
  have hH5 : H.set p ⟨.tip false, .vals (fX r C F.L.length F.used true)⟩ = h.set p ⟨.tip false, .vals (fX r C F.L.length F.used true)⟩ ++ [⟨.tip false, .ints .i64 [x, y, z]⟩] := by
    rw [← hH, List.set_append_left _ _ l]
  have walk : Wp (xbody (W CP) M34 [.ptr p 0, spV (x, y, z)] h) fun q => q.1 = .int .i64 35 ∧ (∃ js, q.2.1 = h.set p ⟨.tip false, .vals (fX r C F.L.length F.used true)⟩ ++ js) ∧ ∀ b ∈ q.2.2, b = p := by
    simp (maxDischargeDepth := 9) -implicitDefEqProofs only [push_cast, simprocAttr, M34, nadd1, nadd2, nadd3, nadd4, nadd5, nadd6, nadd7, nadd8, nadd9, nadd10, nadd11, nadd12, ABlk.new, hH, eN, c1, c1l, eM, b1, l1, f25, f27, hm0, hX, hlt, eJ, n1, s27, hH5, Nat.zero_add, Nat.zero_mul, Nat.add_zero, List.length_set, l, List.mem_singleton, not_true_eq_false, and_false, if_false, true_and]
    exact ⟨⟨_, rfl⟩, by simp⟩
  obtain ⟨ws, hw, e⟩ := W_setJ (C := CP) (f := 34) (m := M34) rfl rfl (by simp [AV.lts, AV.lt]) rfl rfl hg l rfl (fX_lt a.rul.2.1 _ _ _) walk
  exact ⟨ws, hw, e, a.again hrp F.used true⟩
theorem Use_no {raw : Int} (hg : Good h) (a : FilAt h p F r C) (hc : ¬ canL F raw) : W CP 39 [.ptr p 0, .int .i64 raw] h = some (.tup [spA 0 0 0, .bool false], h, []) := by
  have a1 := a.app [⟨.tip false, .ints .i64 [0, 0, 0]⟩]
  have hg1 : Good (h ++ [⟨.tip false, .ints .i64 [0, 0, 0]⟩]) := good_app hg rfl
  have eA := aged_no hg1 a1 hc
  have hset : (h ++ [(⟨.tip false, .ints .i64 [0, 0, 0]⟩ : ABlk)]).set h.length ⟨.tip false, .ints .i64 [0, 0, 0]⟩ = h ++ [⟨.tip false, .ints .i64 [0, 0, 0]⟩] := by
    rw [List.set_append_right _ _ (Nat.le_refl _), Nat.sub_self]; rfl
  have hself : ¬ h.length < h.length := Nat.lt_irrefl _
  refine W_quietP (m := M39) rfl rfl (by simp [AV.lts, AV.lt]) rfl rfl hg ?_
  simp (maxDischargeDepth := 9) -implicitDefEqProofs only [push_cast, simprocAttr, M39, eA, hset, hself]
  exact quiet_i
/-- The span that the best one is of. -/
def srcS (F : FS) (raw : Int) : Sp := (F.L[bestN (ageL F raw) F.L.length]?).getD (0, 0, 0)
theorem src_at {raw : Int} (hc : canL F raw) : F.L[bestN (ageL F raw) F.L.length]? = some (srcS F raw) := by
  have h0 : 0 < F.L.length := List.length_pos_iff.2 hc.1
  have := bestN_lt (L := ageL F raw) h0 F.L.length (Nat.le_refl _)
  unfold srcS
  rw [List.getElem?_eq_getElem this]
  rfl
theorem best_src {raw : Int} (hc : canL F raw) : bestS (ageL F raw) = age1 F.t F.f raw (srcS F raw) := by
  unfold bestS
  rw [ageL_len, List.getElem?_map, src_at hc]
  rfl
def UseP (h : AHeap) (p r : Nat) (C : List Int) (F : FS) (raw : Int) (q : AV × AHeap × List Nat) : Prop :=
    ((srcS F raw).1 ≤ F.used → q.1 = .tup [spA 0 0 0, .bool false] ∧ (∃ js, q.2.1 = h ++ js) ∧ q.2.2 = []) ∧
    (¬ (srcS F raw).1 ≤ F.used → q.1 = .tup [spV (bestS (ageL F raw)), .bool true] ∧ (∃ js, q.2.1 = h.set p ⟨.tip false, .vals (fX r C F.L.length (srcS F raw).1 F.held)⟩ ++ js) ∧ ∀ b ∈ q.2.2, b = p)
theorem uld_mv {H H2 : AHeap} {b off : Nat} {n : Option Nat} {v : AV} {o : Bool} {c : ACells} (h1 : H[b]? = some ⟨.tip o, c⟩) (h2 : H2[b]? = some ⟨.tip o, c⟩) (e : uld n H (some (.ptr b off)) = some (v, H, [])) : uld n H2 (some (.ptr b off)) = some (v, H2, []) := by
  have c1 : cellsAt H b = some c := by unfold cellsAt; rw [h1]
  have c2 : cellsAt H2 b = some c := by unfold cellsAt; rw [h2]
  simp only [uld, c1, Option.bind_some] at e
  simp only [uld, c2, Option.bind_some]
  cases hl : loadA c off n with
  | none => rw [hl] at e; cases e
  | some w =>
    rw [hl] at e
    simp only [Option.map_some, Option.some.injEq, Prod.mk.injEq, and_true] at e
    rw [e]
    rfl
set_option maxHeartbeats 4000000 in
theorem Use_walk {raw : Int} (hg : Good h) (a : FilAt h p F r C) (hc : canL F raw) : Wp (xbody (W CP) M39 [.ptr p 0, .int .i64 raw] h) (UseP h p r C F raw) := by
  have hn : ageL F raw ≠ [] := fun e => hc.1 (List.map_eq_nil_iff.1 e)
  have h8 : (ageL F raw).length ≤ 8 := by rw [ageL_len]; exact a.le
  have h0 : 0 < F.L.length := List.length_pos_iff.2 hc.1
  have hbl := bestN_lt (L := ageL F raw) h0 F.L.length (Nat.le_refl _)
  have hC := a.len
  have hle := a.le
  have hl0 := (List.getElem?_eq_some_iff.1 a.blk).1
  have a1 := a.app [⟨.tip false, .ints .i64 [0, 0, 0]⟩]
  have hg1 : Good (h ++ [⟨.tip false, .ints .i64 [0, 0, 0]⟩]) := good_app hg rfl
  obtain ⟨v, js, eA, rv, hG⟩ := aged_ok hg1 a1 hc
  have k := keepsG hG
  have b0 : (h ++ [(⟨.tip false, .ints .i64 [0, 0, 0]⟩ : ABlk)])[h.length]? = some ⟨.tip false, .ints .i64 [0, 0, 0]⟩ := fend _ _ _
  have b1 := keepsN k _ _ b0
  have hbest := bestS_at hn
  rw [ageL_len] at hbest
  have hsrc := src_at hc
  have eB := best_c hG rv hn h8
  rw [ageL_len] at eB
  obtain ⟨i, hi⟩ : ∃ i, bestN (ageL F raw) F.L.length = i := ⟨_, rfl⟩
  rw [hi] at eB hbest hsrc hbl
  have bp := keepsN k _ _ a1.blk
  obtain ⟨H, hH⟩ : ∃ H, h ++ [(⟨.tip false, .ints .i64 [0, 0, 0]⟩ : ABlk)] ++ js = H := ⟨_, rfl⟩
  rw [hH] at eA rv hG b1 eB bp
  have l1 := (List.getElem?_eq_some_iff.1 b1).1
  have lp := (List.getElem?_eq_some_iff.1 bp).1
  have nv := rv.na
  obtain ⟨b, x1, x2, x3, x4, o, cc, x5⟩ := rv.at hbest
  have f26 := fX_26 (r := r) hC F.L.length F.used F.held
  have hX := fX_c (r := r) (a.get hsrc).1 F.L.length F.used F.held
  rw [Nat.add_comm] at hX
  have hi8 : i < 8 := by omega
  have hself : ¬ h.length < h.length := Nat.lt_irrefl _
  have hpn : h.length ≠ p := by omega
  obtain ⟨B, hB⟩ : ∃ B, bestS (ageL F raw) = B := ⟨_, rfl⟩
  rw [hB] at x2
  obtain ⟨x, y, z⟩ := B
  by_cases c : (srcS F raw).1 ≤ F.used
  · simp (maxDischargeDepth := 9) -implicitDefEqProofs only [push_cast, simprocAttr, M39, nadd1, nadd2, nadd3, nadd4, nadd5, nadd6, nadd7, nadd8, nadd9, nadd10, nadd11, nadd12, eA, nv, eB, bp, lp, hi8, hX, f26, c, b1, l1, hself, Nat.zero_add]
    exact ⟨fun _ => ⟨rfl, ⟨_, by show H.set h.length _ = _; rw [← hH, List.append_assoc, List.set_append_right _ _ (Nat.le_refl _)]⟩, rfl⟩, fun e => absurd c e⟩
  · have s26 := fX_set26 (r := r) hC F.L.length F.used (srcS F raw).1 F.held
    have n1 := fX_len (r := r) hC F.L.length F.used F.held
    obtain ⟨H2, hH2⟩ : ∃ H2, H.set p ⟨.tip false, .vals (fX r C F.L.length (srcS F raw).1 F.held)⟩ = H2 := ⟨_, rfl⟩
    have b2 : H2[h.length]? = some ⟨.tip false, .ints .i64 [0, 0, 0]⟩ := by rw [← hH2, List.getElem?_set_ne (Ne.symm hpn)]; exact b1
    have l2 := (List.getElem?_eq_some_iff.1 b2).1
    have hbp : p ≠ b := by
      have := x3
      simp at this
      omega
    have x2' := uld_mv (H2 := H2) x5 (by rw [← hH2, List.getElem?_set_ne hbp]; exact x5) x2
    have hfin : ∀ zz : ABlk, H2.set h.length zz = h.set p ⟨.tip false, .vals (fX r C F.L.length (srcS F raw).1 F.held)⟩ ++ (zz :: js) := fun zz => by
      rw [← hH2, ← hH, List.append_assoc, List.set_append_left _ _ hl0, List.set_append_right _ _ (by simp), List.length_set, Nat.sub_self]
      rfl
    simp (maxDischargeDepth := 9) -implicitDefEqProofs only [push_cast, simprocAttr, M39, nadd1, nadd2, nadd3, nadd4, nadd5, nadd6, nadd7, nadd8, nadd9, nadd10, nadd11, nadd12, eA, nv, eB, bp, lp, hi8, hX, f26, c, n1, s26, hH2, ↓uia_eq, x1, ↓uld_eq 45, x2', b2, l2, hself, hfin, hl0, List.mem_singleton, not_true_eq_false, and_false, if_false, Nat.zero_add]
    exact ⟨fun e => absurd e c, fun _ => ⟨by rw [hB], ⟨_, rfl⟩, by simp⟩⟩
theorem Use_old {raw : Int} (hg : Good h) (a : FilAt h p F r C) (hc : canL F raw) (hu : (srcS F raw).1 ≤ F.used) : W CP 39 [.ptr p 0, .int .i64 raw] h = some (.tup [spA 0 0 0, .bool false], h, []) :=
  W_quietP (m := M39) rfl rfl (by simp [AV.lts, AV.lt]) rfl rfl hg ((Use_walk hg a hc).mono fun q hq => hq.1 hu)
theorem Use_new {raw : Int} (hg : Good h) (a : FilAt h p F r C) (hrp : r ≠ p) (hc : canL F raw) (hu : ¬ (srcS F raw).1 ≤ F.used) : ∃ ws, (∀ q ∈ ws, q = p) ∧ W CP 39 [.ptr p 0, .int .i64 raw] h = some (.tup [spV (bestS (ageL F raw)), .bool true], h.set p ⟨.tip false, .vals (fX r C F.L.length (srcS F raw).1 F.held)⟩, ws) ∧
    FilAt (h.set p ⟨.tip false, .vals (fX r C F.L.length (srcS F raw).1 F.held)⟩) p (useF F (srcS F raw).1) r C := by
  have l := (List.getElem?_eq_some_iff.1 a.blk).1
  obtain ⟨ws, hw, e⟩ := W_setJ (C := CP) (f := 39) (m := M39) rfl rfl (by simp [AV.lts, AV.lt]) rfl (by simp [AV.lt, AV.lts]) hg l rfl (fX_lt a.rul.2.1 _ _ _) ((Use_walk hg a hc).mono fun q hq => hq.2 hu)
  exact ⟨ws, hw, e, a.again hrp (srcS F raw).1 F.held⟩
def C0 : List Int := List.replicate 24 0
theorem FNew_ok {t f : Int} (h1 : 1 ≤ t) (h2 : t ≤ 1000000000) (h3 : 0 ≤ f) (h4 : f ≤ 500000) (h : AHeap) :
    W CP 33 [.int .i64 t, .int .i64 f] h = some (.tup [.ptr (h.length + 1) 0, .int .i64 0], h ++ [⟨.tip false, .vals [.int .i64 t, .int .i64 f, .bool true]⟩, ⟨.tip false, .vals (fX h.length C0 0 (-1) false)⟩], []) := by
  have eN := fun g => span_New h1 h2 h3 h4 g
  have hb : ∀ h : AHeap, xbody (W CP) M33 [.int .i64 t, .int .i64 f] h = some (.tup [.ptr (h.length + 1) 0, .int .i64 0], h ++ [⟨.tip false, .vals [.int .i64 t, .int .i64 f, .bool true]⟩, ⟨.tip false, .vals (fX h.length C0 0 (-1) false)⟩], []) := by
    intro h
    simp (maxDischargeDepth := 9) -implicitDefEqProofs only [push_cast, simprocAttr, M33, eN]
    try rfl
  rw [W_made (m := M33) rfl rfl rfl (hb _) (by simp [AV.lt, AV.lts]) (hb h)]
  have : M33.trim = true := rfl
  rw [this, if_pos rfl, trim_addr (by simp [AV.lt, AV.lts])]
theorem FNew_bad {t f : Int} (hb : t < 1 ∨ 1000000000 < t ∨ f < 0 ∨ 500000 < f) (h : AHeap) : W CP 33 [.int .i64 t, .int .i64 f] h = some (.tup [.nilp, .int .i64 1], h, []) := by
  have eN := fun g => span_New_bad hb g
  refine W_val (m := M33) (fun _ => rfl) rfl rfl rfl ?_ h
  simp (maxDischargeDepth := 9) -implicitDefEqProofs only [push_cast, simprocAttr, M33, eN]
theorem fil_new {t f : Int} (h1 : 1 ≤ t) (h2 : t ≤ 1000000000) (h3 : 0 ≤ f) (h4 : f ≤ 500000) (h : AHeap) : FilAt (h ++ [⟨.tip false, .vals [.int .i64 t, .int .i64 f, .bool true]⟩, ⟨.tip false, .vals (fX h.length C0 0 (-1) false)⟩]) (h.length + 1) ⟨t, f, [], -1, false⟩ h.length C0 :=
  ⟨fend1 _ _ _ _, rfl, rfl, Nat.zero_le _, fend _ _ _, by simp, h1, h2, h3, h4⟩
theorem loadN_all : ∀ (A B : List AV), loadN (.vals (A ++ B)) A.length B.length = some B
  | A, [] => rfl
  | A, b :: B => by
    have ih := loadN_all (A ++ [b]) B
    simp only [List.length_cons, loadN, ACells.get?]
    rw [List.getElem?_append_right (Nat.le_refl _), Nat.sub_self]
    simp only [List.getElem?_cons_zero, Option.bind_some]
    rw [List.length_append, List.length_singleton, List.append_assoc, List.singleton_append] at ih
    rw [ih]
    rfl
theorem FCopy {h : AHeap} (hg : Good h) (a : FilAt h p F r C) : W CP 47 [.ptr p 0] h = some (.ptr h.length 0, h ++ [⟨.tip false, .vals (fX r C F.L.length F.used F.held)⟩], []) := by
  have b := a.blk
  have l := (List.getElem?_eq_some_iff.1 b).1
  have eN := fnone_c hg a
  have hC := a.len
  have n := fX_len (r := r) hC F.L.length F.used F.held
  have eL : loadA (.vals (fX r C F.L.length F.used F.held)) 0 (some 28) = some (.agg (fX r C F.L.length F.used F.held)) := by
    have := loadN_all [] (fX r C F.L.length F.used F.held)
    rw [n] at this
    simp only [loadA]
    rw [List.nil_append] at this
    simp only [List.length_nil] at this
    rw [this]
    rfl
  have eS : storeL (.vals [.nilp, .int .i64 0, .int .i64 0, .int .i64 0, .int .i64 0, .int .i64 0, .int .i64 0, .int .i64 0, .int .i64 0, .int .i64 0, .int .i64 0, .int .i64 0, .int .i64 0, .int .i64 0, .int .i64 0, .int .i64 0, .int .i64 0, .int .i64 0, .int .i64 0, .int .i64 0, .int .i64 0, .int .i64 0, .int .i64 0, .int .i64 0, .int .i64 0, .int .i64 0, .int .i64 0, .bool false]) 0 (fX r C F.L.length F.used F.held) = some (.vals (fX r C F.L.length F.used F.held)) := by
    have := storeL_app (fX r C F.L.length F.used F.held) [] [.nilp, .int .i64 0, .int .i64 0, .int .i64 0, .int .i64 0, .int .i64 0, .int .i64 0, .int .i64 0, .int .i64 0, .int .i64 0, .int .i64 0, .int .i64 0, .int .i64 0, .int .i64 0, .int .i64 0, .int .i64 0, .int .i64 0, .int .i64 0, .int .i64 0, .int .i64 0, .int .i64 0, .int .i64 0, .int .i64 0, .int .i64 0, .int .i64 0, .int .i64 0, .int .i64 0, .bool false] [] (fun x hx => by
      have := fX_lt (C := C) (n := r + 1) (Nat.lt_succ_self r) F.L.length F.used F.held
      simp only [ACells.lt, Bool.and_eq_true, List.all_eq_true] at this
      exact this.2 x hx) (by rw [n]; rfl)
    simpa using this
  obtain ⟨X, hX⟩ : ∃ X, fX r C F.L.length F.used F.held = X := ⟨_, rfl⟩
  rw [hX] at b n eL eS ⊢
  have b2 : (h ++ [(⟨.tip false, .vals [.nilp, .int .i64 0, .int .i64 0, .int .i64 0, .int .i64 0, .int .i64 0, .int .i64 0, .int .i64 0, .int .i64 0, .int .i64 0, .int .i64 0, .int .i64 0, .int .i64 0, .int .i64 0, .int .i64 0, .int .i64 0, .int .i64 0, .int .i64 0, .int .i64 0, .int .i64 0, .int .i64 0, .int .i64 0, .int .i64 0, .int .i64 0, .int .i64 0, .int .i64 0, .int .i64 0, .bool false]⟩ : ABlk)])[h.length]? = some ⟨.tip false, .vals [.nilp, .int .i64 0, .int .i64 0, .int .i64 0, .int .i64 0, .int .i64 0, .int .i64 0, .int .i64 0, .int .i64 0, .int .i64 0, .int .i64 0, .int .i64 0, .int .i64 0, .int .i64 0, .int .i64 0, .int .i64 0, .int .i64 0, .int .i64 0, .int .i64 0, .int .i64 0, .int .i64 0, .int .i64 0, .int .i64 0, .int .i64 0, .int .i64 0, .int .i64 0, .int .i64 0, .bool false]⟩ := fend _ _ _
  have hset : (h ++ [(⟨.tip false, .vals [.nilp, .int .i64 0, .int .i64 0, .int .i64 0, .int .i64 0, .int .i64 0, .int .i64 0, .int .i64 0, .int .i64 0, .int .i64 0, .int .i64 0, .int .i64 0, .int .i64 0, .int .i64 0, .int .i64 0, .int .i64 0, .int .i64 0, .int .i64 0, .int .i64 0, .int .i64 0, .int .i64 0, .int .i64 0, .int .i64 0, .int .i64 0, .int .i64 0, .int .i64 0, .int .i64 0, .bool false]⟩ : ABlk)]).set h.length ⟨.tip false, .vals X⟩ = h ++ [⟨.tip false, .vals X⟩] := by
    rw [List.set_append_right _ _ (Nat.le_refl _), Nat.sub_self]; rfl
  have hself : ¬ h.length < h.length := Nat.lt_irrefl _
  have hbody : xbody (W CP) M47 [.ptr p 0] h = some (.ptr h.length 0, h ++ [⟨.tip false, .vals X⟩], []) := by
    have eU : uld (some 28) h (some (.ptr p 0)) = some (.agg X, h, []) := by
      simp only [uld, cellsAt, b, Option.bind_some, eL, Option.map_some]
    simp (maxDischargeDepth := 9) -implicitDefEqProofs only [push_cast, simprocAttr, M47, nadd1, nadd2, nadd3, nadd4, nadd5, nadd6, nadd7, nadd8, nadd9, nadd10, nadd11, nadd12, ABlk.new, eN, b, l, ↓uld_eq 7, eU, eS, n, b2, hset, hself, Nat.zero_add]
  rw [W_body (m := M47) rfl rfl (by simp [AV.lts, AV.lt]) hbody, show (M47).trim = true from rfl, if_pos rfl, trim_addr (by simp [AV.lt])]
end
end Go.Proofs.YthcjmmngenogmaaW.AI.E
namespace Go.Proofs.YthcjmmngenogmaaW.AI.E
open Go Go.Proofs.YthcjmmngenogmaaW.AI
set_option maxRecDepth 100000
set_option linter.unusedSimpArgs false
set_option linter.unusedVariables false
set_option linter.unusedSectionVars false
open Classical in
noncomputable def putF (F : FS) (s : Sp) : Int × FS := if badP F s then (1, F) else if jmpF F s ∧ F.held = false then (35, heldF F) else (0, addF F s)
open Classical in
noncomputable def useO (F : FS) (raw : Int) : Sp × Bool × FS := if canL F raw ∧ ¬ (srcS F raw).1 ≤ F.used then (bestS (ageL F raw), true, useF F (srcS F raw).1) else ((0, 0, 0), false, F)
open Classical in
noncomputable def bestO (F : FS) (raw : Int) : Sp × Bool := if canL F raw then (bestS (ageL F raw), true) else ((0, 0, 0), false)
open Classical in
noncomputable def jitO (F : FS) (raw : Int) : Int := if canL F raw then jitF F raw else 0
section
variable {h : AHeap} {p r : Nat} {C : List Int} {F : FS}
theorem FilAt.other (a : FilAt h p F r C) {q : Nat} (hp : q ≠ p) (hr : q ≠ r) (X : ABlk) : FilAt (h.set q X) p F r C := by
  refine ⟨by rw [List.getElem?_set_ne hp]; exact a.blk, a.len, a.tk, a.le, ?_⟩
  obtain ⟨q1, q2, q3⟩ := a.rul
  exact ⟨by rw [List.getElem?_set_ne hr]; exact q1, by rw [List.length_set]; exact q2, q3⟩
theorem put_c {s : Sp} (hg : Good h) (a : FilAt h p F r C) (hrp : r ≠ p) : ∃ C' X ws, (∀ q ∈ ws, q = p) ∧ W CP 34 [.ptr p 0, spV s] h = some (.int .i64 (putF F s).1, h.set p X, ws) ∧ notOld X = true ∧ FilAt (h.set p X) p (putF F s).2 r C' := by
  unfold putF
  by_cases c1 : badP F s
  · rw [if_pos c1]
    refine ⟨C, ⟨.tip false, .vals (fX r C F.L.length F.used F.held)⟩, [], by simp, ?_, rfl, ?_⟩
    · have := Put_bad hg a c1
      rw [set_sameF a.blk]
      exact this
    · rw [set_sameF a.blk]
      exact a
  · rw [if_neg c1]
    by_cases c2 : jmpF F s ∧ F.held = false
    · rw [if_pos c2]
      obtain ⟨ws, hw, e, a'⟩ := Put_held hg a hrp c1 c2.1 c2.2
      exact ⟨C, _, ws, hw, e, rfl, a'⟩
    · rw [if_neg c2]
      obtain ⟨C', ws, hw, e, a'⟩ := Put_ok hg a hrp c1 c2
      exact ⟨C', _, ws, hw, e, rfl, a'⟩
theorem use_c {raw : Int} (hg : Good h) (a : FilAt h p F r C) (hrp : r ≠ p) : ∃ X ws, (∀ q ∈ ws, q = p) ∧ W CP 39 [.ptr p 0, .int .i64 raw] h = some (.tup [spV (useO F raw).1, .bool (useO F raw).2.1], h.set p X, ws) ∧ notOld X = true ∧ FilAt (h.set p X) p (useO F raw).2.2 r C := by
  unfold useO
  by_cases c1 : canL F raw ∧ ¬ (srcS F raw).1 ≤ F.used
  · rw [if_pos c1]
    obtain ⟨ws, hw, e, a'⟩ := Use_new hg a hrp c1.1 c1.2
    exact ⟨_, ws, hw, e, rfl, a'⟩
  · rw [if_neg c1]
    refine ⟨⟨.tip false, .vals (fX r C F.L.length F.used F.held)⟩, [], by simp, ?_, rfl, by rw [set_sameF a.blk]; exact a⟩
    rw [set_sameF a.blk]
    by_cases c2 : canL F raw
    · exact Use_old hg a c2 (Classical.byContradiction fun e => c1 ⟨c2, e⟩)
    · exact Use_no hg a c2
theorem bestO_c {raw : Int} (hg : Good h) (a : FilAt h p F r C) : W CP 35 [.ptr p 0, .int .i64 raw] h = some (.tup [spV (bestO F raw).1, .bool (bestO F raw).2], h, []) := by
  unfold bestO
  by_cases c : canL F raw
  · rw [if_pos c]
    obtain ⟨s, hs, e⟩ := Best_ok hg a c
    have : bestS (ageL F raw) = s := by unfold bestS; rw [ageL_len, hs]; rfl
    simp only [this]
    exact e
  · rw [if_neg c]
    exact Best_no hg a c
theorem jitO_c {raw : Int} (hg : Good h) (a : FilAt h p F r C) : W CP 43 [.ptr p 0, .int .i64 raw] h = some (.int .i64 (jitO F raw), h, []) := by
  unfold jitO
  by_cases c : canL F raw
  · rw [if_pos c]
    exact Jitter_c hg a c
  · rw [if_neg c]
    exact Jitter_no hg a (Or.inl c)
end
theorem alive20 (h : AHeap) : W CP 40 [] h = some (.bool true, h, []) := W_known (n := 400) (fun _ => rfl) (by kernel_rfl) h
-- ------------------------------------------------------------------ all times moved
def sh (d : Int) (s : Sp) : Sp := (s.1, s.2.1 + d, s.2.2 + d)
/-- Spans far from the ends of time. -/
def Rg (M : Int) (s : Sp) : Prop := 0 ≤ s.1 ∧ s.1 ≤ M ∧ 0 ≤ s.2.1 ∧ s.2.1 ≤ s.2.2 ∧ s.2.2 ≤ M
section
variable {d M : Int}
theorem may_rg (hM : M ≤ 4611686018427387904) {s : Sp} (h : Rg M s) : mayS s.1 s.2.1 s.2.2 = true := by
  unfold Rg at h
  exact mayS_iff.2 ⟨⟨by omega, by omega⟩, by omega, by omega, by omega⟩
theorem rg_sh (d0 : 0 ≤ d) {s : Sp} (h : Rg M s) : Rg (M + d) (sh d s) := by
  unfold Rg sh at *
  simp only
  omega
theorem wS_sh (d0 : 0 ≤ d) (hM : M + d ≤ 4611686018427387904) {s : Sp} (h : Rg M s) : wS (sh d s) = wS s := by
  have h1 := may_rg (by omega) h
  have h2 := may_rg hM (rg_sh d0 h)
  unfold wS widS
  rw [if_pos h1, if_pos h2]
  unfold sh
  simp only
  omega
theorem mS_sh (d0 : 0 ≤ d) (hM : M + d ≤ 4611686018427387904) {s : Sp} (h : Rg M s) : mS (sh d s) = mS s + d := by
  have h1 := may_rg (by omega) h
  have h2 := may_rg hM (rg_sh d0 h)
  unfold mS midS
  rw [if_pos h1, if_pos h2]
  unfold sh
  simp only
  omega
theorem apS_sh (d0 : 0 ≤ d) (hM : M + d ≤ 4611686018427387904) {s t : Sp} (h : Rg M s) (h' : Rg M t) : apS (sh d s) (sh d t) = apS s t := by
  unfold apS
  rw [mS_sh d0 hM h, mS_sh d0 hM h', show mS s + d - (mS t + d) = mS s - mS t by omega]
theorem wAt_sh (d0 : 0 ≤ d) (hM : M + d ≤ 4611686018427387904) {A : List Sp} (hA : ∀ s ∈ A, Rg M s) (i : Nat) : wAt (A.map (sh d)) i = wAt A i := by
  unfold wAt
  rw [List.getElem?_map]
  cases h : A[i]? with
  | none => rfl
  | some s => exact wS_sh d0 hM (hA s (List.mem_of_getElem? h))
theorem bestN_sh (d0 : 0 ≤ d) (hM : M + d ≤ 4611686018427387904) {A : List Sp} (hA : ∀ s ∈ A, Rg M s) : ∀ i : Nat, bestN (A.map (sh d)) i = bestN A i
  | 0 => rfl
  | i + 1 => by simp only [bestN, bestN_sh d0 hM hA i, wAt_sh d0 hM hA]
theorem bestS_sh (d0 : 0 ≤ d) (hM : M + d ≤ 4611686018427387904) {A : List Sp} (hA : ∀ s ∈ A, Rg M s) (hne : A ≠ []) : bestS (A.map (sh d)) = sh d (bestS A) := by
  have h := bestS_at hne
  have e : (A.map (sh d))[bestN (A.map (sh d)) (A.map (sh d)).length]? = some (sh d (bestS A)) := by
    rw [bestN_sh d0 hM hA, List.length_map, List.getElem?_map, h]
    rfl
  have : bestS (A.map (sh d)) = ((A.map (sh d))[bestN (A.map (sh d)) (A.map (sh d)).length]?).getD (0, 0, 0) := rfl
  rw [this, e]
  rfl
theorem dist_sh (d0 : 0 ≤ d) (hM : M + d ≤ 4611686018427387904) {A : List Sp} (hA : ∀ s ∈ A, Rg M s) (hne : A ≠ []) : distL (A.map (sh d)) = distL A := by
  have hb : bestS A ∈ A := List.mem_of_getElem? (bestS_at hne)
  unfold distL
  rw [bestS_sh d0 hM hA hne, List.map_map]
  exact List.map_congr_left fun s hs => apS_sh d0 hM (hA s hs) (hA _ hb)
theorem jitS_sh (d0 : 0 ≤ d) (hM : M + d ≤ 4611686018427387904) {A : List Sp} (hA : ∀ s ∈ A, Rg M s) (hne : A ≠ []) : jitS (A.map (sh d)) = jitS A := by
  unfold jitS
  rw [dist_sh d0 hM hA hne, List.length_map]
end
/-- What ages within bounds. -/
theorem age_rg {t f raw K : Int} {s : Sp} (t1 : 1 ≤ t) (t2 : t ≤ 1000000000) (f1 : 0 ≤ f) (f2 : f ≤ 500000) (hK : K ≤ 1000000000000000000) (h : Rg K s) (h1 : s.1 ≤ raw) (h2 : raw ≤ K) :
    0 ≤ downV t f (raw - s.1) ∧ downV t f (raw - s.1) ≤ raw - s.1 ∧ raw - s.1 + t + 1 ≤ upV t f (raw - s.1) ∧ upV t f (raw - s.1) ≤ 2 * K + 4000000000 := by
  unfold Rg at h
  obtain ⟨u, eu, u1, u2, u3, u4⟩ := upV_char t1 t2 f1 f2 (x := raw - s.1) (by omega) (by omega)
  obtain ⟨v, ev, v1, v2, _⟩ := downV_char t1 t2 f1 f2 (x := raw - s.1) (by omega) (by omega)
  rw [eu, ev]
  refine ⟨v1, v2, u1, ?_⟩
  rcases Int.lt_or_le (2 * K + 4000000000) u with c | c
  · exfalso
    have : (2 * K + 4000000000) * (1000000000 - f) ≤ (u - 1) * (1000000000 - f) := Int.mul_le_mul_of_nonneg_right (by omega) (by omega)
    have e : (2 * K + 4000000000) * 500000000 ≤ (2 * K + 4000000000) * (1000000000 - f) := Int.mul_le_mul_of_nonneg_left (by omega) (by omega)
    omega
  · exact c
section
variable {F G : FS} {d now raw : Int}
/-- Two filters, of which one has all times moved. -/
structure Moved (d now : Int) (F G : FS) : Prop where
  t : G.t = F.t
  f : G.f = F.f
  L : G.L = F.L.map (sh d)
  used : G.used = F.used
  held : G.held = F.held
  rg : ∀ s ∈ F.L, Rg 1000000000000 s ∧ s.1 ≤ now
  t1 : 1 ≤ F.t
  t2 : F.t ≤ 1000000000
  f1 : 0 ≤ F.f
  f2 : F.f ≤ 500000
  d0 : 0 ≤ d
  d1 : d ≤ 1125899906842624
theorem Moved.later (m : Moved d now F G) {n' : Int} (h : now ≤ n') : Moved d n' F G :=
  ⟨m.t, m.f, m.L, m.used, m.held, fun s hs => ⟨(m.rg s hs).1, by have := (m.rg s hs).2; omega⟩, m.t1, m.t2, m.f1, m.f2, m.d0, m.d1⟩
theorem Moved.age (m : Moved d now F G) (hr : now ≤ raw) (hr2 : raw ≤ 1000000000000) : ageL G raw = (ageL F raw).map (sh d) ∧ ∀ s ∈ ageL F raw, Rg 4000000000000 s := by
  have key : ∀ s ∈ F.L, age1 F.t F.f raw (sh d s) = sh d (age1 F.t F.f raw s) ∧ Rg 4000000000000 (age1 F.t F.f raw s) := by
    intro s hs
    obtain ⟨hg, hn⟩ := m.rg s hs
    have ha := age_rg m.t1 m.t2 m.f1 m.f2 (by decide) hg (raw := raw) (by omega) hr2
    unfold Rg at hg
    have d0 := m.d0
    have d1 := m.d1
    have t1 := m.t1
    obtain ⟨x, y, z⟩ := s
    simp only at hg ha hn
    have e1 : bro (y + downV F.t F.f (raw - x)) = y + downV F.t F.f (raw - x) := bro_id (by omega) (by omega)
    have e2 : bro (z + upV F.t F.f (raw - x)) = z + upV F.t F.f (raw - x) := bro_id (by omega) (by omega)
    have e3 : bro (y + d + downV F.t F.f (raw - x)) = y + d + downV F.t F.f (raw - x) := bro_id (by omega) (by omega)
    have e4 : bro (z + d + upV F.t F.f (raw - x)) = z + d + upV F.t F.f (raw - x) := bro_id (by omega) (by omega)
    unfold age1 sh
    simp only [e1, e2, e3, e4]
    refine ⟨?_, ?_⟩
    · simp only [Prod.mk.injEq, true_and]
      constructor <;> omega
    · unfold Rg
      simp only
      omega
  constructor
  · unfold ageL
    rw [m.L, m.t, m.f, List.map_map, List.map_map]
    exact List.map_congr_left fun s hs => (key s hs).1
  · intro s hs
    obtain ⟨u, hu, rfl⟩ := List.mem_map.1 hs
    exact (key u hu).2
theorem Moved.can (m : Moved d now F G) : canL G raw ↔ canL F raw := by
  have d0 := m.d0
  have d1 := m.d1
  have one : ∀ s ∈ F.L, (canA raw (sh d s) ↔ canA raw s) := by
    intro s hs
    have hg := (m.rg s hs).1
    have h1 := may_rg (by decide) hg
    have h2 := may_rg (by omega) (rg_sh d0 hg)
    unfold canA
    simp only [h1, h2]
    unfold sh
    simp only
  unfold canL
  rw [m.L]
  constructor
  · rintro ⟨h1, h2⟩
    exact ⟨fun e => h1 (by rw [e]; rfl), fun s hs => (one s hs).1 (h2 _ (List.mem_map_of_mem hs))⟩
  · rintro ⟨h1, h2⟩
    refine ⟨fun e => h1 (List.map_eq_nil_iff.1 e), fun s hs => ?_⟩
    obtain ⟨u, hu, rfl⟩ := List.mem_map.1 hs
    exact (one u hu).2 (h2 u hu)
theorem ageL_ne (hc : canL F raw) : ageL F raw ≠ [] := fun e => hc.1 (List.map_eq_nil_iff.1 e)
theorem Moved.best (m : Moved d now F G) (hr : now ≤ raw) (hr2 : raw ≤ 1000000000000) (hc : canL F raw) : bestS (ageL G raw) = sh d (bestS (ageL F raw)) := by
  obtain ⟨e, hg⟩ := m.age hr hr2
  have d1 := m.d1
  rw [e]
  exact bestS_sh m.d0 (M := 4000000000000) (by omega) hg (ageL_ne hc)
theorem Moved.src (m : Moved d now F G) (hr : now ≤ raw) (hr2 : raw ≤ 1000000000000) (hc : canL F raw) : srcS G raw = sh d (srcS F raw) := by
  obtain ⟨e, hg⟩ := m.age hr hr2
  have d1 := m.d1
  have h := src_at hc
  have : G.L[bestN (ageL G raw) G.L.length]? = some (sh d (srcS F raw)) := by
    rw [e, bestN_sh m.d0 (M := 4000000000000) (by omega) hg, m.L, List.length_map, List.getElem?_map, h]
    rfl
  unfold srcS at this ⊢
  rw [this]
  rfl
theorem Moved.jit (m : Moved d now F G) (hr : now ≤ raw) (hr2 : raw ≤ 1000000000000) (hc : canL F raw) : jitF G raw = jitF F raw := by
  obtain ⟨e, hg⟩ := m.age hr hr2
  have d1 := m.d1
  unfold jitF
  rw [e, m.L, List.length_map, jitS_sh m.d0 (M := 4000000000000) (by omega) hg (ageL_ne hc)]
theorem Moved.jitO (m : Moved d now F G) (hr : now ≤ raw) (hr2 : raw ≤ 1000000000000) : jitO G raw = jitO F raw := by
  unfold Go.Proofs.YthcjmmngenogmaaW.AI.E.jitO
  by_cases c : canL F raw
  · rw [if_pos c, if_pos (m.can.2 c), m.jit hr hr2 c]
  · rw [if_neg c, if_neg (fun e => c (m.can.1 e))]
theorem Moved.use (m : Moved d now F G) (hr : now ≤ raw) (hr2 : raw ≤ 1000000000000) : (useO G raw).2.1 = (useO F raw).2.1 ∧ ((useO F raw).2.1 = true → (useO G raw).1 = sh d (useO F raw).1) ∧ Moved d now (useO F raw).2.2 (useO G raw).2.2 := by
  unfold useO
  by_cases c : canL F raw
  · have c' := m.can.2 c
    have hs := m.src hr hr2 c
    have hs1 : (srcS G raw).1 = (srcS F raw).1 := by rw [hs]; rfl
    by_cases c2 : (srcS F raw).1 ≤ F.used
    · have nF : ¬ (canL F raw ∧ ¬ (srcS F raw).1 ≤ F.used) := fun e => e.2 c2
      have nG : ¬ (canL G raw ∧ ¬ (srcS G raw).1 ≤ G.used) := fun e => e.2 (by rw [hs1, m.used]; exact c2)
      rw [if_neg nF, if_neg nG]
      exact ⟨rfl, (fun e => by cases e), m⟩
    · have pF : canL F raw ∧ ¬ (srcS F raw).1 ≤ F.used := ⟨c, c2⟩
      have pG : canL G raw ∧ ¬ (srcS G raw).1 ≤ G.used := ⟨c', by rw [hs1, m.used]; exact c2⟩
      rw [if_pos pF, if_pos pG]
      exact ⟨rfl, fun _ => m.best hr hr2 c, ⟨m.t, m.f, m.L, hs1, m.held, m.rg, m.t1, m.t2, m.f1, m.f2, m.d0, m.d1⟩⟩
  · have nF : ¬ (canL F raw ∧ ¬ (srcS F raw).1 ≤ F.used) := fun e => c e.1
    have nG : ¬ (canL G raw ∧ ¬ (srcS G raw).1 ≤ G.used) := fun e => c (m.can.1 e.1)
    rw [if_neg nF, if_neg nG]
    exact ⟨rfl, (fun e => by cases e), m⟩
theorem Moved.put (m : Moved d now F G) {s : Sp} (hs : Rg 1000000000000 s) (hn : s.1 = now) : (putF G (sh d s)).1 = (putF F s).1 ∧ Moved d now (putF F s).2 (putF G (sh d s)).2 := by
  have d0 := m.d0
  have d1 := m.d1
  have h1 := may_rg (by decide) hs
  have h2 := may_rg (by omega) (rg_sh d0 hs)
  have hb : badP G (sh d s) ↔ badP F s := by
    unfold badP
    rw [h1, h2, m.L, List.getElem?_map]
    constructor
    · rintro (e | ⟨t, e1, e2⟩)
      · cases e
      · cases ht : F.L[0]? with
        | none => rw [ht] at e1; cases e1
        | some u =>
          rw [ht] at e1
          simp only [Option.map_some, Option.some.injEq] at e1
          refine Or.inr ⟨u, rfl, ?_⟩
          rw [← e1] at e2
          exact e2
    · rintro (e | ⟨t, e1, e2⟩)
      · cases e
      · exact Or.inr ⟨sh d t, by rw [e1]; rfl, e2⟩
  have hr2 : s.1 ≤ 1000000000000 := hs.2.1
  have hsc : (sh d s).1 = s.1 := rfl
  have hrs : Rg 4000000000000 s := by unfold Rg at hs ⊢; omega
  have hj : jmpF G (sh d s) ↔ jmpF F s := by
    unfold jmpF
    rw [hsc, m.can, m.L, List.length_map]
    by_cases c : canL F s.1
    · have e1 := m.best (by omega) hr2 c
      have e2 := m.jit (by omega) hr2 c
      obtain ⟨_, hg⟩ := m.age (raw := s.1) (by omega) hr2
      have hbm : bestS (ageL F s.1) ∈ ageL F s.1 := List.mem_of_getElem? (bestS_at (ageL_ne c))
      have hgb := hg _ hbm
      unfold jmpB
      rw [hsc, e1, e2, wS_sh d0 (by omega) hrs, wS_sh d0 (by omega) hgb, apS_sh d0 (by omega) hrs hgb]
    · constructor
      · exact fun e => absurd e.1 c
      · exact fun e => absurd e.1 c
  unfold putF
  by_cases c1 : badP F s
  · rw [if_pos c1, if_pos (hb.2 c1)]
    exact ⟨rfl, m⟩
  · rw [if_neg c1, if_neg (fun e => c1 (hb.1 e))]
    rw [m.held]
    by_cases c2 : jmpF F s ∧ F.held = false
    · rw [if_pos c2, if_pos ⟨hj.2 c2.1, c2.2⟩]
      exact ⟨rfl, ⟨m.t, m.f, m.L, m.used, rfl, m.rg, m.t1, m.t2, m.f1, m.f2, m.d0, m.d1⟩⟩
    · rw [if_neg c2, if_neg (fun e => c2 ⟨hj.1 e.1, e.2⟩)]
      refine ⟨rfl, ⟨m.t, m.f, ?_, m.used, rfl, fun u hu => ?_, m.t1, m.t2, m.f1, m.f2, m.d0, m.d1⟩⟩
      · show (sh d s :: G.L).take 8 = ((s :: F.L).take 8).map (sh d)
        rw [m.L, List.map_take, List.map_cons]
      · have hu' : u ∈ s :: F.L := List.mem_of_mem_take hu
        rcases List.mem_cons.1 hu' with rfl | hu'
        · exact ⟨hs, by omega⟩
        · exact m.rg u hu'
end
end Go.Proofs.YthcjmmngenogmaaW.AI.E

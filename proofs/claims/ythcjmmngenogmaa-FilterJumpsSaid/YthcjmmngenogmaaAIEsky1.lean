import Derived.Test.YthcjmmngenogmaaAIEdiv
import Derived.Test.YthcjmmngenogmaaAIBig
namespace Go.Proofs.YthcjmmngenogmaaW.AI.E
open Go Go.Proofs.YthcjmmngenogmaaW.AI
set_option maxRecDepth 100000
set_option linter.unusedSimpArgs false
set_option linter.unusedVariables false
set_option linter.unusedSectionVars false
theorem glG : Good CP.gl := rfl
theorem W_prim {C : Cfg} {f : Nat} {args : List AV} {h : AHeap} {r : AV × AHeap × List Nat} (hp : C.prim f args h = some (some r)) : W C f args h = some r := W_eq.2 ⟨1, by rw [acall, hp]⟩
theorem bits_Add64 {x y : Int} (hx : U64 x) (hy : U64 y) (h : AHeap) : W CP 89 [.int .u64 x, .int .u64 y, .int .u64 0] h = some (.tup [.int .u64 ((x + y) % 18446744073709551616), .int .u64 ((x + y) / 18446744073709551616)], h, []) := by
  refine W_prim ?_
  have h1 := hx.1
  have h2 := hy.1
  simp [CP, prim, h1, h2]
/-- A number of 128 bits. -/
abbrev n128 (T : Int) : AV := .agg [.int .u64 (T / 18446744073709551616), .int .u64 (T % 18446744073709551616)]
theorem plus128 {S a b : Int} (h0 : 0 ≤ S) (ha : U64 a) (hb : U64 b) (h1 : S + a * b < 340282366920938463463374607431768211456) (h : AHeap) : W CP 52 [n128 S, .int .u64 a, .int .u64 b] h = some (n128 (S + a * b), h, []) := by
  have em := fun h => bits_Mul64 ha hb h
  have hP0 : 0 ≤ a * b := Int.mul_nonneg ha.1 hb.1
  obtain ⟨P, hP⟩ : ∃ P, a * b = P := ⟨_, rfl⟩
  rw [hP] at em h1 hP0 ⊢
  obtain ⟨P1, hP1⟩ : ∃ x, P / 18446744073709551616 = x := ⟨_, rfl⟩
  obtain ⟨P0, hP0'⟩ : ∃ x, P % 18446744073709551616 = x := ⟨_, rfl⟩
  rw [hP1, hP0'] at em
  obtain ⟨H, hH⟩ : ∃ x, S / 18446744073709551616 = x := ⟨_, rfl⟩
  obtain ⟨L, hL⟩ : ∃ x, S % 18446744073709551616 = x := ⟨_, rfl⟩
  have ea := fun h => bits_Add64 (x := L) (y := P0) ⟨by omega, by omega⟩ ⟨by omega, by omega⟩ h
  obtain ⟨s1, hs1⟩ : ∃ x, (L + P0) / 18446744073709551616 = x := ⟨_, rfl⟩
  obtain ⟨s0, hs0⟩ : ∃ x, (L + P0) % 18446744073709551616 = x := ⟨_, rfl⟩
  rw [hs1, hs0] at ea
  have e1 : (S + P) / 18446744073709551616 = H + P1 + s1 := by omega
  have e0 : (S + P) % 18446744073709551616 = s0 := by omega
  have w1 : IntKind.u64.wrap (H + P1) = H + P1 := wr_u64 _ (by omega) (by omega)
  have w2 : IntKind.u64.wrap (H + P1 + s1) = H + P1 + s1 := wr_u64 _ (by omega) (by omega)
  unfold n128
  rw [hH, hL, e1, e0]
  refine W_val (m := M52) (fun _ => rfl) rfl rfl rfl ?_ h
  simp (maxDischargeDepth := 9) -implicitDefEqProofs only [push_cast, simprocAttr, M52, em, ea, w1, w2]
/-- Pieces, as they lie. -/
def flatP (P : List (Int × Int)) : List Int := (P.map fun p => [p.1, p.2]).flatten
theorem flatP_get : ∀ {P : List (Int × Int)} {i : Nat} {f o : Int}, P[i]? = some (f, o) → (flatP P)[i * 2]? = some f ∧ (flatP P)[i * 2 + 1]? = some o
  | [], i, f, o, h => by simp at h
  | p :: P, 0, f, o, h => by simp at h; subst h; simp [flatP]
  | p :: P, i + 1, f, o, h => by
    have := flatP_get (P := P) (i := i) (f := f) (o := o) (by simpa using h)
    unfold flatP at this ⊢
    simp only [List.map_cons, List.flatten_cons]
    rw [show (i + 1) * 2 = i * 2 + 2 by omega, show i * 2 + 2 + 1 = i * 2 + 1 + 2 by omega, List.getElem?_append_right (by simp), List.getElem?_append_right (by simp)]
    simpa using this
theorem flatP_len (P : List (Int × Int)) : (flatP P).length = P.length * 2 := by
  induction P with
  | nil => rfl
  | cons p P ih => unfold flatP at ih ⊢; simp only [List.map_cons, List.flatten_cons, List.length_append, ih, List.length_cons, List.length_nil]; omega
/-- Pieces that may be. -/
structure Pcs (P : List (Int × Int)) : Prop where
  ne : 1 ≤ P.length
  le : P.length ≤ 64
  rng : ∀ p ∈ P, 0 ≤ p.1 ∧ p.1 ≤ 4503599627370496 ∧ -500000 ≤ p.2 ∧ p.2 ≤ 500000
  head : ∀ p, P[0]? = some p → p.1 = 0
  inc : ∀ (i : Nat) p q, P[i]? = some p → P[i + 1]? = some q → p.1 < q.1
abbrev mnS (x y : Int) : Int := if y < x then y else x
/-- What a piece adds. -/
def term (P : List (Int × Int)) (t : Int) (j : Nat) : Int :=
  match P[j]? with
  | some (f, o) => let e := (match P[j + 1]? with | some (f', _) => mnS t f' | none => t)
    if f < e then (e - f) * (1000000000 + o) else 0
  | none => 0
def pacN (P : List (Int × Int)) (t : Int) : Nat → Int
  | 0 => 0
  | i + 1 => pacN P t i + term P t i
def pac (P : List (Int × Int)) (t : Int) : Int := pacN P t P.length
def tm (t : Int) : Int := clamp t 0 4503599627370496
theorem tm_in (t : Int) : 0 ≤ tm t ∧ tm t ≤ 4503599627370496 := by unfold tm clamp; split <;> (try split) <;> omega
theorem term_in {P : List (Int × Int)} (hP : Pcs P) {t : Int} (t0 : 0 ≤ t) (t1 : t ≤ 4503599627370496) (j : Nat) : 0 ≤ term P t j ∧ term P t j ≤ 4503599627370496 * 1000500000 := by
  unfold term
  split
  · rename_i f o hj
    obtain ⟨a1, a2, a3, a4⟩ := hP.rng _ (List.mem_of_getElem? hj)
    simp only at a1 a2 a3 a4 ⊢
    obtain ⟨e, he, e1⟩ : ∃ e, (match P[j + 1]? with | some (f', _) => mnS t f' | none => t) = e ∧ e ≤ t := by
      cases P[j + 1]? with
      | none => exact ⟨t, rfl, Int.le_refl _⟩
      | some q => obtain ⟨f', o'⟩ := q; exact ⟨mnS t f', rfl, by unfold mnS; split <;> omega⟩
    rw [he]
    split
    · refine ⟨Int.mul_nonneg (by omega) (by omega), ?_⟩
      exact Int.mul_le_mul (by omega) (by omega) (by omega) (by omega)
    · omega
  · omega
theorem pacN_in {P : List (Int × Int)} (hP : Pcs P) {t : Int} (t0 : 0 ≤ t) (t1 : t ≤ 4503599627370496) : ∀ i : Nat, 0 ≤ pacN P t i ∧ pacN P t i ≤ i * (4503599627370496 * 1000500000)
  | 0 => by simp [pacN]
  | i + 1 => by
    have h1 := pacN_in hP t0 t1 i
    have h2 := term_in hP t0 t1 i
    simp only [pacN]
    omega
/-- How many ticks there are. -/
def tks (hz : Int) (P : List (Int × Int)) (t : Int) : Int := pac P (tm t) * hz / 1000000000000000000
/-- A sky. -/
structure SkAt (h : AHeap) (p : Nat) (hz mk fs : Int) (P : List (Int × Int)) : Prop where
  at' : ∃ q, q < p ∧ h[p]? = some ⟨.tip false, .vals [.int .u64 hz, .int .u64 mk, .int .u64 fs, .gsl q 0 P.length 2 false]⟩ ∧ h[q]? = some ⟨.tip false, .ints .i64 (flatP P)⟩
  hz0 : 1 ≤ hz
  hz1 : hz ≤ 1000000000
  mk0 : 0 ≤ mk
  mk1 : mk < 18446744073709551616
  fs0 : 0 ≤ fs
  fs1 : fs ≤ mk
  ok : Pcs P
theorem SkAt.keep {h h' : AHeap} {p : Nat} {hz mk fs : Int} {P : List (Int × Int)} (s : SkAt h p hz mk fs P) (hm : ∀ (q : Nat) (z : ABlk), h[q]? = some z → h'[q]? = some z) : SkAt h' p hz mk fs P := by
  obtain ⟨⟨q, hq, e1, e2⟩, r⟩ := s
  exact ⟨⟨q, hq, hm _ _ e1, hm _ _ e2⟩, by assumption, by assumption, by assumption, by assumption, by assumption, by assumption, by assumption⟩
theorem SkAt.app {h : AHeap} {p : Nat} {hz mk fs : Int} {P : List (Int × Int)} (s : SkAt h p hz mk fs P) (js : AHeap) : SkAt (h ++ js) p hz mk fs P := s.keep fun q z e => by rw [List.getElem?_append_left (List.getElem?_eq_some_iff.1 e).1]; exact e
theorem end_getS (h : AHeap) (z : ABlk) (ks : AHeap) : (h ++ z :: ks)[h.length]? = some z := by simp
section
variable {h : AHeap} {p : Nat} {hz mk fs : Int} {P : List (Int × Int)}
theorem none_c (hg : Good h) (s : SkAt h p hz mk fs P) : W CP 50 [.ptr p 0] h = some (.bool false, h, []) := by
  obtain ⟨q, _, b1, b2⟩ := s.at'
  have l1 := (List.getElem?_eq_some_iff.1 b1).1
  have := s.hz0
  have hn : ¬ hz = 0 := by omega
  refine W_quiet0 (m := M50) rfl rfl (by simp [AV.lts, AV.lt]) rfl rfl hg ?_
  simp (maxDischargeDepth := 9) -implicitDefEqProofs only [push_cast, simprocAttr, M50, b1, l1, hn]
theorem time_c (t : Int) (h : AHeap) : W CP 51 [.int .i64 t] h = some (.int .i64 (tm t), h, []) := by
  have e := fun g => fix_Clamp (a := t) (lo := 0) (hi := 4503599627370496) g
  refine W_val (m := M51) (fun _ => rfl) rfl rfl rfl ?_ h
  simp (maxDischargeDepth := 9) -implicitDefEqProofs only [push_cast, simprocAttr, M51, e]
  try rfl
set_option maxHeartbeats 8000000 in
theorem ticks_c {t : Int} (hg : Good h) (s : SkAt h p hz mk fs P) : W CP 14 [.ptr p 0, .int .i64 t] h = some (.int .u64 (tks hz P t), h, []) := by
  have eN := none_c hg s
  obtain ⟨q, _, b1, b2⟩ := s.at'
  have l1 := (List.getElem?_eq_some_iff.1 b1).1
  have l2 := (List.getElem?_eq_some_iff.1 b2).1
  have hz0 := s.hz0
  have hz1 := s.hz1
  have hP := s.ok
  have p64 := hP.le
  have eT := fun g => time_c t g
  obtain ⟨t0, t1⟩ := tm_in t
  unfold tks pac
  obtain ⟨T, hT⟩ : ∃ T, tm t = T := ⟨_, rfl⟩
  rw [hT] at eT t0 t1 ⊢
  obtain ⟨n, hn⟩ : ∃ n, P.length = n := ⟨_, rfl⟩
  rw [hn] at b1 p64 ⊢
  refine W_quietP (m := M14) rfl rfl (by simp [AV.lts, AV.lt]) rfl rfl hg ?_
  obtain ⟨Y0, hY0⟩ : ∃ Y, h ++ [ABlk.new (.ints .u64 [0, 0])] = Y := ⟨_, rfl⟩
  have kY0 : Keeps h Y0 none := by rw [← hY0]; exact Keeps.app h [⟨.tip false, .ints .u64 [0, 0]⟩] none rfl
  have bY0 : Y0[h.length]? = some ⟨.tip false, .ints .u64 [0, 0]⟩ := by rw [← hY0]; exact end_getS _ _ _
  have c1 := keepsN kY0 _ _ b1
  have c1l := (List.getElem?_eq_some_iff.1 c1).1
  simp (maxDischargeDepth := 9) -implicitDefEqProofs only [push_cast, simprocAttr, M14, eN, eT, hY0, c1, c1l]
  refine wp_kRes (wp_kSeq (wp_kBlock ?_))
  refine wp_loop (fun k a h' ws => ∃ i : Nat, k = n - i ∧ i ≤ n ∧ a = [(0, .ptr p 0), (1, .int .i64 T), (5, .ptr h.length 0), (19, .gsl q 0 n 2 false), (20, .int .i64 (n : Int)), (21, .int .i64 (i : Int))] ∧
      h'[h.length]? = some ⟨.tip false, .ints .u64 [pacN P T i / 18446744073709551616, pacN P T i % 18446744073709551616]⟩ ∧ Keeps h h' none ∧ ws = []) n ?_ ?_
  · refine ⟨0, by omega, by omega, ?_, bY0, kY0, rfl⟩
    simp (maxDischargeDepth := 9) -implicitDefEqProofs only [push_cast, simprocAttr]; try rfl
  · rintro k aa h' ws ⟨i, rfl, hi, rfl, bS, kh, rfl⟩
    have d1 := keepsN kh _ _ b1
    have d2 := keepsN kh _ _ b2
    have d1l := (List.getElem?_eq_some_iff.1 d1).1
    have d2l := (List.getElem?_eq_some_iff.1 d2).1
    have bSl := (List.getElem?_eq_some_iff.1 bS).1
    obtain ⟨s0, s1⟩ := pacN_in hP t0 t1 i
    obtain ⟨S, hS⟩ : ∃ S, pacN P T i = S := ⟨_, rfl⟩
    rw [hS] at bS s0 s1
    by_cases hlt : i < n
    · have hlt' : (i : Int) < (n : Int) := by omega
      obtain ⟨⟨f, o⟩, hfo⟩ : ∃ z, P[i]? = some z := ⟨_, List.getElem?_eq_getElem (by omega)⟩
      obtain ⟨g1, g2⟩ := flatP_get hfo
      obtain ⟨a1, a2, a3, a4⟩ := hP.rng _ (List.mem_of_getElem? hfo)
      simp only at a1 a2 a3 a4
      obtain ⟨i1, hi1⟩ : ∃ i1, i + 1 = i1 := ⟨_, rfl⟩
      have v1 : IntKind.i64.wrap ((i : Int) + 1) = (i1 : Int) := by rw [wr_i64 _ (by omega) (by omega)]; omega
      obtain ⟨Y, hY⟩ : ∃ Y, h' ++ [ABlk.new (.ints .i64 [0, 0])] = Y := ⟨_, rfl⟩
      have kY : Keeps h' Y none := by rw [← hY]; exact Keeps.app h' [⟨.tip false, .ints .i64 [0, 0]⟩] none rfl
      have bY : Y[h'.length]? = some ⟨.tip false, .ints .i64 [0, 0]⟩ := by rw [← hY]; exact end_getS _ _ _
      have lY := (List.getElem?_eq_some_iff.1 bY).1
      obtain ⟨H1, hH1⟩ : ∃ H, Y.set h'.length ⟨.tip false, .ints .i64 [f, o]⟩ = H := ⟨_, rfl⟩
      have k1 : Keeps h' H1 none := by rw [← hH1]; exact keepsS kY (Nat.le_refl _) rfl
      have e1 : H1[h'.length]? = some ⟨.tip false, .ints .i64 [f, o]⟩ := by rw [← hH1]; exact List.getElem?_set_self lY
      have e1l := (List.getElem?_eq_some_iff.1 e1).1
      have f1 := keepsN k1 _ _ d1
      have f2 := keepsN k1 _ _ d2
      have f1l := (List.getElem?_eq_some_iff.1 f1).1
      have f2l := (List.getElem?_eq_some_iff.1 f2).1
      have fS := keepsN k1 _ _ bS
      have fSl := (List.getElem?_eq_some_iff.1 fS).1
      have kk1 := keepsT kh k1
      have hlo : ¬ h'.length < h.length := by have := kh.2.1; omega
      -- how far
      obtain ⟨e, he, e2⟩ : ∃ e, (match P[i + 1]? with | some (f', _) => mnS T f' | none => T) = e ∧ e ≤ T := by
        cases P[i + 1]? with
        | none => exact ⟨T, rfl, Int.le_refl _⟩
        | some z => obtain ⟨f', o'⟩ := z; exact ⟨mnS T f', rfl, by unfold mnS; split <;> omega⟩
      have hterm : term P T i = if f < e then (e - f) * (1000000000 + o) else 0 := by
        unfold term
        rw [hfo]
        simp only [he]
      have hnext : pacN P T i1 = S + if f < e then (e - f) * (1000000000 + o) else 0 := by rw [← hi1, pacN, hS, hterm]
      -- what the round leaves
      have fin : ∀ (H : AHeap), H[h.length]? = some ⟨.tip false, .ints .u64 [pacN P T i1 / 18446744073709551616, pacN P T i1 % 18446744073709551616]⟩ → Keeps h H none → ∃ i : Nat, n - i1 = n - i ∧ i ≤ n ∧ ([(0, .ptr p 0), (1, .int .i64 T), (5, .ptr h.length 0), (19, .gsl q 0 n 2 false), (20, .int .i64 (n : Int)), (21, .int .i64 (i1 : Int))] : Acts) = [(0, .ptr p 0), (1, .int .i64 T), (5, .ptr h.length 0), (19, .gsl q 0 n 2 false), (20, .int .i64 (n : Int)), (21, .int .i64 (i : Int))] ∧
          H[h.length]? = some ⟨.tip false, .ints .u64 [pacN P T i / 18446744073709551616, pacN P T i % 18446744073709551616]⟩ ∧ Keeps h H none := fun H h1 h2 => ⟨i1, rfl, by omega, rfl, h1, h2⟩
      -- add
      have hadd : f < e → ∃ H2, (∀ g, W CP 52 [n128 S, .int .u64 (e - f), .int .u64 (1000000000 + o)] g = some (n128 (pacN P T i1), g, [])) ∧ H1.set h.length ⟨.tip false, .ints .u64 [pacN P T i1 / 18446744073709551616, pacN P T i1 % 18446744073709551616]⟩ = H2 ∧ H2[h.length]? = some ⟨.tip false, .ints .u64 [pacN P T i1 / 18446744073709551616, pacN P T i1 % 18446744073709551616]⟩ ∧ Keeps h H2 none := fun hlt => by
        refine ⟨_, fun g => ?_, rfl, List.getElem?_set_self fSl, keepsS kk1 (Nat.le_refl _) rfl⟩
        rw [hnext, if_pos hlt]
        refine plus128 s0 ⟨by omega, by omega⟩ ⟨by omega, by omega⟩ ?_ g
        have hm : (e - f) * (1000000000 + o) ≤ 4503599627370496 * 1000500000 := Int.mul_le_mul (by omega) (by omega) (by omega) (by omega)
        omega
      have w3 : IntKind.i64.wrap (1000000000 + o) = 1000000000 + o := wr_i64 _ (by omega) (by omega)
      have w4 : IntKind.u64.wrap (1000000000 + o) = 1000000000 + o := wr_u64 _ (by omega) (by omega)
      by_cases hnx : i1 < n
      · have hnx' : (i1 : Int) < (n : Int) := by omega
        obtain ⟨⟨f', o'⟩, hfo'⟩ : ∃ z, P[i1]? = some z := ⟨_, List.getElem?_eq_getElem (by omega)⟩
        obtain ⟨g3, g4⟩ := flatP_get hfo'
        rw [hi1, hfo'] at he
        have hmin : (if f' < T then f' else T) = e := he
        by_cases hfe : f < e
        · obtain ⟨H2, ep, hH2, b2', k2⟩ := hadd hfe
          have w1 : IntKind.i64.wrap (e - f) = e - f := wr_i64 _ (by omega) (by omega)
          have w2 : IntKind.u64.wrap (e - f) = e - f := wr_u64 _ (by omega) (by omega)
          simp (maxDischargeDepth := 9) -implicitDefEqProofs only [push_cast, simprocAttr, nadd1, nadd2, nadd3, nadd4, nadd5, nadd6, nadd7, nadd8, nadd9, nadd10, nadd11, nadd12, hlt, hlt', v1, d1, d2, d1l, d2l, g1, g2, hY, bY, lY, hH1, e1, e1l, f1, f2, f1l, f2l, hnx', hnx, g3, hmin, hfe, fS, fSl, w1, w2, w3, w4, ep, hH2, hlo]
          refine loop_next (n - i1) (by omega) ?_
          have := fin H2 b2' k2
          simp (maxDischargeDepth := 9) -implicitDefEqProofs only [push_cast, simprocAttr]
          exact this
        · have hge : pacN P T i1 = S := by rw [hnext, if_neg hfe, Int.add_zero]
          simp (maxDischargeDepth := 9) -implicitDefEqProofs only [push_cast, simprocAttr, nadd1, nadd2, nadd3, nadd4, nadd5, nadd6, nadd7, nadd8, nadd9, nadd10, nadd11, nadd12, hlt, hlt', v1, d1, d2, d1l, d2l, g1, g2, hY, bY, lY, hH1, e1, e1l, f1, f2, f1l, f2l, hnx', hnx, g3, hmin, hfe, fS, fSl, hlo]
          refine loop_next (n - i1) (by omega) ?_
          have := fin H1 (by rw [hge]; exact fS) kk1
          simp (maxDischargeDepth := 9) -implicitDefEqProofs only [push_cast, simprocAttr]
          exact this
      · have hnx' : ¬ (i1 : Int) < (n : Int) := by omega
        have hnone : P[i + 1]? = none := List.getElem?_eq_none (by omega)
        rw [hnone] at he
        have he : T = e := he
        subst he
        by_cases hfe : f < T
        · obtain ⟨H2, ep, hH2, b2', k2⟩ := hadd hfe
          have w1 : IntKind.i64.wrap (T - f) = T - f := wr_i64 _ (by omega) (by omega)
          have w2 : IntKind.u64.wrap (T - f) = T - f := wr_u64 _ (by omega) (by omega)
          simp (maxDischargeDepth := 9) -implicitDefEqProofs only [push_cast, simprocAttr, nadd1, nadd2, nadd3, nadd4, nadd5, nadd6, nadd7, nadd8, nadd9, nadd10, nadd11, nadd12, hlt, hlt', v1, d1, d2, d1l, d2l, g1, g2, hY, bY, lY, hH1, e1, e1l, f1, f2, f1l, f2l, hnx', hfe, fS, fSl, w1, w2, w3, w4, ep, hH2, hlo]
          refine loop_next (n - i1) (by omega) ?_
          have := fin H2 b2' k2
          simp (maxDischargeDepth := 9) -implicitDefEqProofs only [push_cast, simprocAttr]
          exact this
        · have hge : pacN P T i1 = S := by rw [hnext, if_neg hfe, Int.add_zero]
          simp (maxDischargeDepth := 9) -implicitDefEqProofs only [push_cast, simprocAttr, nadd1, nadd2, nadd3, nadd4, nadd5, nadd6, nadd7, nadd8, nadd9, nadd10, nadd11, nadd12, hlt, hlt', v1, d1, d2, d1l, d2l, g1, g2, hY, bY, lY, hH1, e1, e1l, f1, f2, f1l, f2l, hnx', hfe, fS, fSl, hlo]
          refine loop_next (n - i1) (by omega) ?_
          have := fin H1 (by rw [hge]; exact fS) kk1
          simp (maxDischargeDepth := 9) -implicitDefEqProofs only [push_cast, simprocAttr]
          exact this
    · have hi2 : i = n := by omega
      subst hi2
      have hnl : ¬ (i : Int) < (i : Int) := by omega
      rw [hS]
      have i64 : (i : Int) ≤ 64 := by omega
      have sB : S ≤ 64 * (4503599627370496 * 1000500000) := by omega
      obtain ⟨hi', hhi⟩ : ∃ x, S / 18446744073709551616 = x := ⟨_, rfl⟩
      obtain ⟨lo', hlo⟩ : ∃ x, S % 18446744073709551616 = x := ⟨_, rfl⟩
      have h5 : 0 ≤ hi' ∧ hi' ≤ 16777216 := by omega
      have h6 : 0 ≤ hi' * hz ∧ hi' * hz ≤ 16777216 * 1000000000 := ⟨Int.mul_nonneg h5.1 (by omega), Int.mul_le_mul h5.2 hz1 (by omega) (by omega)⟩
      have h7 : 0 ≤ lo' ∧ lo' < 18446744073709551616 := by omega
      have h8 : 0 ≤ lo' * hz ∧ lo' * hz ≤ 18446744073709551616 * 1000000000 := ⟨Int.mul_nonneg h7.1 (by omega), Int.mul_le_mul (by omega) hz1 (by omega) (by omega)⟩
      have w1 : IntKind.u64.wrap (hi' * hz) = hi' * hz := wr_u64 _ (by omega) (by omega)
      have hSS : S * hz = hi' * hz * 18446744073709551616 + lo' * hz := by
        rw [show S = hi' * 18446744073709551616 + lo' by omega, Int.add_mul]
        congr 1
        rw [Int.mul_right_comm]
      have ep := fun g => plus128 (S := hi' * hz * 18446744073709551616) (a := lo') (b := hz) (by omega) ⟨by omega, by omega⟩ ⟨by omega, by omega⟩ (by omega) g
      unfold n128 at ep
      rw [← hSS, show hi' * hz * 18446744073709551616 / 18446744073709551616 = hi' * hz by omega, show hi' * hz * 18446744073709551616 % 18446744073709551616 = 0 by omega] at ep
      obtain ⟨Q, hQ⟩ : ∃ Q, S * hz = Q := ⟨_, rfl⟩
      rw [hQ] at ep hSS ⊢
      have ed := fun g => bits_Div64 (hi := Q / 18446744073709551616) (lo := Q % 18446744073709551616) (y := 1000000000000000000) ⟨by omega, by omega⟩ ⟨by omega, by omega⟩ ⟨by omega, by omega⟩ (by omega) g
      rw [show Q / 18446744073709551616 * 18446744073709551616 + Q % 18446744073709551616 = Q by omega] at ed
      rw [hhi, hlo] at bS
      obtain ⟨u1, hu1⟩ : ∃ x, Q / 18446744073709551616 = x := ⟨_, rfl⟩
      obtain ⟨u0, hu0⟩ : ∃ x, Q % 18446744073709551616 = x := ⟨_, rfl⟩
      rw [hu1, hu0] at ep ed
      obtain ⟨Z, hZ⟩ : ∃ Z, Q / 1000000000000000000 = Z := ⟨_, rfl⟩
      obtain ⟨Z2, hZ2⟩ : ∃ Z, Q % 1000000000000000000 = Z := ⟨_, rfl⟩
      rw [hZ, hZ2] at ed
      rw [hZ]
      obtain ⟨js, hj⟩ := kh.behind
      subst hj
      simp (maxDischargeDepth := 9) -implicitDefEqProofs only [push_cast, simprocAttr, nadd1, nadd2, nadd3, nadd4, nadd5, nadd6, nadd7, nadd8, nadd9, nadd10, nadd11, nadd12, hnl, bS, bSl, d1, d1l, w1, ep, ed]
      exact quiet_i
end
end Go.Proofs.YthcjmmngenogmaaW.AI.E

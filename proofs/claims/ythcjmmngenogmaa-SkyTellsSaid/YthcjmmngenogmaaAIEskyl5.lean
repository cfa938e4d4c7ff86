import Derived.Test.YthcjmmngenogmaaAIEskyB
namespace Go.Proofs.YthcjmmngenogmaaW.AI.E
open Go Go.Proofs.YthcjmmngenogmaaW.AI
set_option maxRecDepth 100000
set_option linter.unusedSimpArgs false
set_option linter.unusedVariables false
set_option linter.unusedSectionVars false
/-- A row of pieces that came in. -/
def PC (h : AHeap) (v : AV) (E : List (Int × Int)) : Prop := (v = .nils ∧ E = []) ∨ ∃ b c, v = .sl b 0 E.length c ∧ E.length ≤ c ∧ h[b]? = some ⟨.ext, .ints .i64 (flatP E)⟩
theorem flatPE : ∀ {es : List (List AV)} {E : List (Int × Int)}, es = E.map (fun p => [AV.int .i64 p.1, AV.int .i64 p.2]) → es.flatten.map toI = flatP E
  | _, [], rfl => rfl
  | _, p :: E, rfl => by
    have := flatPE (es := E.map (fun p => [AV.int .i64 p.1, AV.int .i64 p.2])) (E := E) rfl
    simp only [List.map_cons, List.flatten_cons, List.map_append, this]
    rfl
theorem arg_pc {g : AHeap} {v : AV} (hv : Ty g (.sl [.i .i64, .i .i64]) v) : ∃ E, PC g v E ∧ (∀ p ∈ E, I64 p.1 ∧ I64 p.2) ∧ E.length ≤ 9223372036854775807 := by
  obtain ⟨es, hs, he⟩ := Ty_sl hv
  have hle := hs.le
  obtain ⟨E, hE, hr⟩ : ∃ E : List (Int × Int), es = E.map (fun p => [AV.int .i64 p.1, AV.int .i64 p.2]) ∧ ∀ p ∈ E, I64 p.1 ∧ I64 p.2 := by
    clear hs hle
    induction es with
    | nil => exact ⟨[], rfl, by simp⟩
    | cons e es ih =>
      obtain ⟨E, rfl, hr⟩ := ih fun e' h' => he e' (List.mem_cons_of_mem _ h')
      have := he e List.mem_cons_self
      simp only [TyL, Ty] at this
      obtain ⟨_, _, rfl, ⟨z, rfl, z0, z1⟩, _, _, rfl, ⟨x, rfl, x0, x1⟩, rfl⟩ := this
      refine ⟨(z, x) :: E, rfl, fun p hp => ?_⟩
      rcases List.mem_cons.1 hp with rfl | hp
      · have e1 : IntKind.i64.min = -9223372036854775808 := rfl
        have e2 : IntKind.i64.max = 9223372036854775807 := rfl
        exact ⟨⟨by simp only; omega, by simp only; omega⟩, ⟨by simp only; omega, by simp only; omega⟩⟩
      · exact hr p hp
  have hl : es.length = E.length := by rw [hE]; simp
  refine ⟨E, ?_, hr, by omega⟩
  rcases hs with ⟨rfl, h0⟩ | ⟨b, c, rfl, g1, g2, g3, g4⟩
  · exact Or.inl ⟨rfl, List.length_eq_zero_iff.1 (by rw [← hl, h0]; rfl)⟩
  · have e : mkC [.i .i64, .i .i64] es.flatten = .ints .i64 (flatP E) := by
      have : mkC [.i .i64, .i .i64] es.flatten = .ints .i64 (es.flatten.map toI) := rfl
      rw [this, flatPE hE]
    rw [e] at g4
    exact Or.inr ⟨b, c, by rw [hl], by omega, g4⟩
/-- What is cut: its pieces can be had, and appended. -/
def PX (h : AHeap) (v : AV) (P : List (Int × Int)) : Prop := slen v = some P.length ∧ newCells h (.ints .i64 [0, 0]) v = some (.ints .i64 (flatP P)) ∧ ∀ (i : Nat) (f o : Int), P[i]? = some (f, o) → ∃ b, b < h.length ∧ (∀ g, uia 2 g i (some v) = some (.ptr b (i * 2), g, [])) ∧ ∀ h', Keeps h h' none → uld (some 2) h' (some (.ptr b (i * 2))) = some (.agg [.int .i64 f, .int .i64 o], h', [])
theorem flatP_take (E : List (Int × Int)) (m : Nat) : (flatP E).take (m * 2) = flatP (E.take m) := by
  induction E generalizing m with
  | nil => simp [flatP]
  | cons p E ih =>
    cases m with
    | zero => simp [flatP]
    | succ m =>
      have := ih m
      unfold flatP at this ⊢
      simp only [List.map_cons, List.flatten_cons, List.take_succ_cons]
      rw [show (m + 1) * 2 = m * 2 + 1 + 1 by omega]
      simp [this]
theorem px_of {h : AHeap} {b c m : Nat} {E : List (Int × Int)} (hm : m ≤ E.length) (e : h[b]? = some ⟨.ext, .ints .i64 (flatP E)⟩) : PX h (.sl b 0 m c) (E.take m) := by
  have hl : (E.take m).length = m := by rw [List.length_take]; omega
  have hc : cellsAt h b = some (.ints .i64 (flatP E)) := by simp [cellsAt, e]
  refine ⟨by rw [hl]; rfl, ?_, fun i f o hi => ?_⟩
  · have := flatP_len E
    simp [newCells, sliceCells, hc, ACells.len, ACells.sub]
    exact ⟨by omega, flatP_take E m⟩
  · have him := (List.getElem?_eq_some_iff.1 hi).1
    rw [hl] at him
    rw [List.getElem?_take_of_lt him] at hi
    obtain ⟨g1, g2⟩ := flatP_get hi
    refine ⟨b, (List.getElem?_eq_some_iff.1 e).1, fun g => by simp [uia, him], fun h' k => ?_⟩
    have hc' : cellsAt h' b = some (.ints .i64 (flatP E)) := by simp [cellsAt, keepsN k _ _ e]
    simp [uld, hc', loadA, loadN, ACells.get?, g1, g2]
/-- The end of the first loop. -/
def Ex3 (g : AHeap) (hz bits fs : Int) (tv own : AV) (P : List (Int × Int)) (o : AOut) : Prop := ∃ s u h', o = (.exit 0, s, h', []) ∧ keepA [0, 1, 2, 4, 11, 12] s = [(0, .int .u64 hz), (1, .int .i64 bits), (2, .int .u64 fs), (4, tv), (11, own), (12, u)] ∧ TN h' u P g.length ∧ Keeps g h' none
def Ex4 (h : AHeap) (b m : Nat) (tv : AV) (p q : Nat) (o : AOut) : Prop := ∃ s L, o = (.exit 2, s, h.set b ⟨.tip false, .ints .i64 L⟩, []) ∧ keepA [4, 14, 16] s = [(4, tv), (14, .ptr p 0), (16, .ptr q 0)]
theorem list_set2 {l : List Int} {i : Nat} (h : i + 1 < l.length) (a b : Int) : ((l.set i a).set (i + 1) b).length = l.length := by simp
theorem rnew_no {h : AHeap} {v : AV} {P : List (Int × Int)} {hz fs : Int} {k : Nat} (hg : Good h) (u : PV h v P) (ha : askN hz k P.length) (hf : 0 ≤ fs ∧ fs < 18446744073709551616) (hb : ¬ fs < 2 ^ k ∨ ∃ b f o, P[b]? = some (f, o) ∧ ¬ okP (prevF P b) f o ∧ ∀ j, j < b → ∀ f o, P[j]? = some (f, o) → okP (prevF P j) f o) :
    W CP 20 [.int .u64 hz, .int .i64 (k : Int), .int .u64 fs, v] h = some (.tup [.nilp, .int .i64 1], h, []) := by
  have key : xbody (W CP) M20 [.int .u64 hz, .int .i64 (k : Int), .int .u64 fs, v] h = some (.tup [.nilp, .int .i64 1], h, []) := by
    rcases first_bad P P.length with hall | ⟨b, f, o, h1, h2, h3, h4⟩
    · rcases hb with hb | ⟨b, f, o, h2, h3, _⟩
      · rw [rnew_body hg u ha hf (Nat.le_refl _) hall (fun h => absurd h (Nat.lt_irrefl _))]
        unfold RnR
        rw [if_neg fun h => hb h.1]
      · exact absurd (hall b (List.getElem?_eq_some_iff.1 h2).1 f o h2) h3
    · rw [rnew_body hg u ha hf (by omega) h4 (fun _ => ⟨f, o, h2, h3⟩)]
      unfold RnR
      rw [if_neg fun h => by omega]
  exact W_quietP (m := M20) rfl rfl (by simp [AV.lts, u.lt0]) rfl rfl hg ⟨_, key, quietB⟩
theorem rnew_e {h : AHeap} {v : AV} {P : List (Int × Int)} {hz fs : Int} {k : Nat} (hg : Good h) (u : PV h v P) (ha : askN hz k P.length) (hf : 0 ≤ fs ∧ fs < 18446744073709551616) (h1 : fs < 2 ^ k) (hall : ∀ j, j < P.length → ∀ f o, P[j]? = some (f, o) → okP (prevF P j) f o) :
    W CP 20 [.int .u64 hz, .int .i64 (k : Int), .int .u64 fs, v] h = some (.tup [.ptr h.length 0, .int .i64 0], h ++ [⟨.tip false, .vals [.int .u64 hz, .int .u64 fs, .int .i64 (k : Int), .gsl (h.length + 1) 0 P.length 2 false]⟩, ⟨.tip false, .ints .i64 (flatP P)⟩], []) := by
  have key := rnew_body hg u ha hf (Nat.le_refl _) hall (fun h => absurd h (Nat.lt_irrefl _))
  unfold RnR at key
  rw [if_pos ⟨h1, rfl⟩] at key
  rw [W_body (m := M20) rfl rfl (by simp [AV.lts, u.lt0]) key, show (M20).trim = true from rfl, if_pos rfl, trim_addr (by simp [AV.lt, AV.lts])]
set_option maxHeartbeats 32000000 in
theorem tells_body {g : AHeap} (hg : Good g) {hz bits fs : Int} {lv tv : AV} (z0 : 0 ≤ hz) (z1 : hz < 18446744073709551616) (hbI : I64 bits) (f0 : 0 ≤ fs) (f1 : fs < 18446744073709551616) (hL : Ty g (.sl [.i .i64, .i .i64]) lv) (hT : Ty g (.sl [.i .i64]) tv) :
    Wp (xbody (W CP) M5 [.int .u64 hz, .int .i64 bits, .int .u64 fs, lv, tv] g) fun r => r.1 = .bool true := by
  obtain ⟨E, uE, rE, lE⟩ := arg_pc hL
  obtain ⟨Ts, uT, lT, rT⟩ := arg_iv hT
  have al := fun h => alive30 h
  have nT := uT.na
  have kT := uT.len
  obtain ⟨nt, hnt⟩ : ∃ n, Ts.length = n := ⟨_, rfl⟩
  rw [hnt] at kT lT
  by_cases hE0 : E = []
  · -- nothing at all
    subst hE0
    have q1 : ∀ h, Good h → W CP 19 [.int .u64 hz, .int .i64 bits, .int .u64 fs, .nils] h = some (.tup [.nilp, .int .i64 1], h, []) := fun h hg => new_q (n := 0) hg rfl (by unfold askN; omega)
    have q2 : ∀ h, Good h → W CP 20 [.int .u64 hz, .int .i64 bits, .int .u64 fs, .nils] h = some (.tup [.nilp, .int .i64 1], h, []) := fun h hg => rnew_q (n := 0) hg rfl (by unfold askN; omega)
    have q1 := q1 g hg
    have q2 := q2 g hg
    rcases uE with ⟨rfl, _⟩ | ⟨b, c, rfl, hc, eb⟩
    · have eX : newCells g (.ints .i64 [0, 0]) .nils = some (.ints .i64 []) := rfl
      have eA : aappend g (.ints .i64 [0, 0]) 16 .nils (.ints .i64 []) 0 = some (.nils, g, []) := rfl
      simp (maxDischargeDepth := 9) -implicitDefEqProofs only [push_cast, simprocAttr, M5, nadd1, nadd2, nadd3, nadd4, nadd5, nadd6, nadd7, nadd8, nadd9, nadd10, nadd11, nadd12, nT, eX, eA]
      refine wp_kRes (wp_kSeq (wp_kBlock ?_))
      refine wp_loop (fun kk x h' ws => x = [(0, .int .u64 hz), (1, .int .i64 bits), (2, .int .u64 fs), (3, .nils), (4, tv), (11, .nils), (12, .nils), (13, .int .i64 0)] ∧ h' = g ∧ ws = []) 0 ?_ ?_
      · refine ⟨?_, rfl, rfl⟩
        simp (maxDischargeDepth := 9) -implicitDefEqProofs only [push_cast, simprocAttr, nT]; try rfl
      · rintro kk xx h' ws ⟨rfl, hh, rfl⟩
        obtain rfl : g = h' := hh.symm
        simp (maxDischargeDepth := 9) -implicitDefEqProofs only [push_cast, simprocAttr, nadd1, nadd2, nadd3, nadd4, nadd5, nadd6, nadd7, nadd8, nadd9, nadd10, nadd11, nadd12, nT, q1, q2, al]
    · have eX : newCells g (.ints .i64 [0, 0]) (.sl b 0 0 c) = some (.ints .i64 []) := (px_of (m := 0) (c := c) (Nat.zero_le _) eb).2.1
      have eA : aappend g (.ints .i64 [0, 0]) 16 .nils (.ints .i64 []) 0 = some (.nils, g, []) := rfl
      simp only [List.length_nil] at hc
      simp (maxDischargeDepth := 9) -implicitDefEqProofs only [push_cast, simprocAttr, M5, nadd1, nadd2, nadd3, nadd4, nadd5, nadd6, nadd7, nadd8, nadd9, nadd10, nadd11, nadd12, nT, hc, eX, eA, List.length_nil]
      refine wp_kRes (wp_kSeq (wp_kBlock ?_))
      refine wp_loop (fun kk x h' ws => x = [(0, .int .u64 hz), (1, .int .i64 bits), (2, .int .u64 fs), (3, .sl b 0 0 c), (4, tv), (11, .nils), (12, .nils), (13, .int .i64 0)] ∧ h' = g ∧ ws = []) 0 ?_ ?_
      · refine ⟨?_, rfl, rfl⟩
        simp (maxDischargeDepth := 9) -implicitDefEqProofs only [push_cast, simprocAttr, nT]; try rfl
      · rintro kk xx h' ws ⟨rfl, hh, rfl⟩
        obtain rfl : g = h' := hh.symm
        simp (maxDischargeDepth := 9) -implicitDefEqProofs only [push_cast, simprocAttr, nadd1, nadd2, nadd3, nadd4, nadd5, nadd6, nadd7, nadd8, nadd9, nadd10, nadd11, nadd12, nT, q1, q2, al]
  -- the cut
  obtain ⟨b, c, rfl, hc, eb⟩ : ∃ b c, lv = .sl b 0 E.length c ∧ E.length ≤ c ∧ g[b]? = some ⟨.ext, .ints .i64 (flatP E)⟩ := by
    rcases uE with ⟨_, e⟩ | h
    · exact absurd e hE0
    · exact h
  have hEp : 0 < E.length := List.length_pos_iff.2 hE0
  obtain ⟨m, hm, hm1, hm2⟩ : ∃ m : Nat, (if 70 < E.length then 70 else E.length) = m ∧ 1 ≤ m ∧ m ≤ 70 := ⟨_, rfl, by split <;> omega, by split <;> omega⟩
  have hmE : m ≤ E.length := by rw [← hm]; split <;> omega
  have px : PX g (.sl b 0 m c) (E.take m) := px_of hmE eb
  have rP : ∀ p ∈ E.take m, I64 p.1 ∧ I64 p.2 := fun p hp => rE p (List.mem_of_mem_take hp)
  have lP : (E.take m).length = m := by rw [List.length_take]; omega
  have hmc : m ≤ c := by omega
  obtain ⟨nE, hnE⟩ : ∃ n, E.length = n := ⟨_, rfl⟩
  rw [hnE] at hm lE hmE
  obtain ⟨P, hP⟩ : ∃ P, E.take m = P := ⟨_, rfl⟩
  rw [hP] at px rP lP
  have eX := px.2.1
  have hm0 : ¬ m = 0 := by omega
  have hr : room m 16 = true := by simp only [room, decide_eq_true_eq]; omega
  have eA : aappend g (.ints .i64 [0, 0]) 16 .nils (.ints .i64 (flatP P)) m = some (.gsl g.length 0 m 2 false, g ++ [⟨.tip false, .ints .i64 (flatP P)⟩], []) := by
    simp [aappend, hm0, hr, ACells.len]
  have hG1 : Good (g ++ [⟨.tip false, .ints .i64 (flatP P)⟩]) := good_app hg rfl
  have k1 : Keeps g (g ++ [⟨.tip false, .ints .i64 (flatP P)⟩]) none := keepsG hG1
  have bo : (g ++ [(⟨.tip false, .ints .i64 (flatP P)⟩ : ABlk)])[g.length]? = some ⟨.tip false, .ints .i64 (flatP P)⟩ := by simp
  obtain ⟨H1, hH1⟩ : ∃ H, g ++ [(⟨.tip false, .ints .i64 (flatP P)⟩ : ABlk)] = H := ⟨_, rfl⟩
  rw [hH1] at eA hG1 k1 bo
  have hgl : g.length ≤ H1.length := k1.2.1
  clear hH1 hE0 hEp rE uE eb hP
  have start : Wp (xbody (W CP) M5 [.int .u64 hz, .int .i64 bits, .int .u64 fs, .sl b 0 E.length c, tv] g) fun r => r.1 = .bool true := by
    rw [hnE]
    have hcut : (if (70 : Int) < (nE : Int) then (70 : Int) else (nE : Int)) = (m : Int) := by
      rw [← hm]
      by_cases h : 70 < nE
      · rw [if_pos h, if_pos (by omega)]; rfl
      · rw [if_neg h, if_neg (by omega)]
    simp (maxDischargeDepth := 9) -implicitDefEqProofs only [push_cast, simprocAttr, M5, nadd1, nadd2, nadd3, nadd4, nadd5, nadd6, nadd7, nadd8, nadd9, nadd10, nadd11, nadd12, nT, hcut, hmc, eX, eA]
    refine wp_kRes (wp_kSeq (wp_kBlock (Wp.mono (Q := Ex3 H1 hz bits fs tv (.gsl g.length 0 m 2 false) P) ?_ ?_)))
    · refine wp_loop (fun kk x h' ws => ∃ (i : Nat) (u : AV), kk = m - i ∧ i ≤ m ∧ x = [(0, .int .u64 hz), (1, .int .i64 bits), (2, .int .u64 fs), (3, .sl b 0 m c), (4, tv), (11, .gsl g.length 0 m 2 false), (12, u), (13, .int .i64 (i : Int))] ∧ TN h' u (P.take i) H1.length ∧ Keeps H1 h' none ∧ ws = []) m ?_ ?_
      · refine ⟨0, .nils, by omega, by omega, ?_, Or.inl ⟨rfl, rfl⟩, Keeps.refl _ _, rfl⟩
        simp (maxDischargeDepth := 9) -implicitDefEqProofs only [push_cast, simprocAttr, nT]; try rfl
      · rintro kk xx h' ws ⟨i, u, rfl, hi, rfl, tu, kh, rfl⟩
        have nu := tu.na
        have v1 : IntKind.i64.wrap ((i : Int) + 1) = (i : Int) + 1 := wr_i64 _ (by omega) (by omega)
        by_cases hlt : i < m
        · have hlt' : (i : Int) < (m : Int) := by omega
          obtain ⟨⟨f, o⟩, hfo⟩ : ∃ x, P[i]? = some x := ⟨_, List.getElem?_eq_getElem (by omega)⟩
          obtain ⟨pb, pb0, x1, x2⟩ := px.2.2 i f o hfo
          have x2 := x2 h' (keepsT k1 kh)
          obtain ⟨u1, H2, ws1, a1, a2, a3, t1, k2, n1⟩ := push (g := g) (f := f) (o := o) hgl hG1 kh tu (by rw [List.length_take]; omega)
          have hnx : P.take (i + 1) = P.take i ++ [(f, o)] := by rw [List.take_add_one, hfo]; rfl
          simp (maxDischargeDepth := 9) -implicitDefEqProofs only [push_cast, simprocAttr, nadd1, nadd2, nadd3, nadd4, nadd5, nadd6, nadd7, nadd8, nadd9, nadd10, nadd11, nadd12, nT, nu, hlt', v1, ↓uia_eq, x1, ↓uld_eq 42, x2, a1, a2, a3, n1]
          refine loop_next (m - (i + 1)) (by omega) ⟨i + 1, u1, rfl, by omega, ?_, Or.inr (by rw [hnx]; exact t1), k2, rfl⟩
          simp (maxDischargeDepth := 9) -implicitDefEqProofs only [push_cast, simprocAttr, nT, n1]; try simp
        · have hi2 : i = m := by omega
          subst hi2
          have hnl : ¬ (i : Int) < (i : Int) := by omega
          rw [← lP, List.take_length] at tu
          have fin : ∀ s : Acts, keepA [0, 1, 2, 4, 11, 12] s = [(0, .int .u64 hz), (1, .int .i64 bits), (2, .int .u64 fs), (4, tv), (11, .gsl g.length 0 i 2 false), (12, u)] → Ex3 H1 hz bits fs tv (.gsl g.length 0 i 2 false) P (.exit 0, s, h', []) := fun s e => ⟨s, u, h', rfl, e, tu, kh⟩
          simp (maxDischargeDepth := 9) -implicitDefEqProofs only [push_cast, simprocAttr, nadd1, nadd2, nadd3, nadd4, nadd5, nadd6, nadd7, nadd8, nadd9, nadd10, nadd11, nadd12, nT, nu, hnl]
          refine fin _ ?_
          simp (maxDischargeDepth := 9) -implicitDefEqProofs only [push_cast, simprocAttr, nT, nu]; try rfl
    rintro _ ⟨s, u, H, rfl, hks, tu, kH⟩
    have hG := kH.2.2 hG1
    have nu := tu.na
    have bO := keepsN kH _ _ bo
    have lO := (List.getElem?_eq_some_iff.1 bO).1
    have pu : PV H u P := by
      rcases tu with ⟨_, e⟩ | t
      · rw [e] at lP; simp at lP; omega
      · exact t.pv
    have po : PV H (.gsl g.length 0 m 2 false) P := ⟨g.length, _, bO, Or.inr ⟨_, rfl⟩, Or.inr (by rw [lP])⟩
    by_cases ha : askN hz bits m
    case neg =>
      have q1 := new_q (fs := fs) hG (show slen (.gsl g.length 0 m 2 false) = some m from rfl) ha
      have q2 := rnew_q (fs := fs) hG (by rw [pu.len, lP]) ha
      simp (maxDischargeDepth := 9) -implicitDefEqProofs only [push_cast, simprocAttr, nadd1, nadd2, nadd3, nadd4, nadd5, nadd6, nadd7, nadd8, nadd9, nadd10, nadd11, nadd12, ↓hks, nT, nu, q1, q2, al]
    obtain ⟨k, rfl⟩ : ∃ k : Nat, bits = (k : Int) := ⟨bits.toNat, by unfold askN at ha; omega⟩
    have ha' : askN hz k P.length := by rw [lP]; exact ha
    obtain ⟨y0, y1, y2, y3, y4, y5⟩ := ha
    have y2' : 8 ≤ k := by omega
    have y3' : k ≤ 64 := by omega
    have hmk := mkOf_eq k y3'
    by_cases hok : fs < 2 ^ k ∧ ∀ j, j < P.length → ∀ f o, P[j]? = some (f, o) → okP (prevF P j) f o
    case neg =>
      have hb : mkOf k < fs ∨ ∃ b f o, P[b]? = some (f, o) ∧ ¬ okP (prevF P b) f o ∧ ∀ j, j < b → ∀ f o, P[j]? = some (f, o) → okP (prevF P j) f o := by
        by_cases h : fs < 2 ^ k
        · rcases first_bad P P.length with hall | ⟨b, f, o, h1, h2, h3, h4⟩
          · exact absurd ⟨h, hall⟩ hok
          · exact Or.inr ⟨b, f, o, h2, h3, h4⟩
        · exact Or.inl (by omega)
      have q1 := new_bad hG po ha' (fun p hp => (rP p hp).2) hb
      have q2 := rnew_no hG pu ha' ⟨f0, f1⟩ (hb.imp (fun h => by omega) id)
      simp (maxDischargeDepth := 9) -implicitDefEqProofs only [push_cast, simprocAttr, nadd1, nadd2, nadd3, nadd4, nadd5, nadd6, nadd7, nadd8, nadd9, nadd10, nadd11, nadd12, ↓hks, nT, nu, q1, q2, al]
    obtain ⟨h2k, hall⟩ := hok
    have hPc : Pcs P := pcs_of (by omega) (by omega) hall
    obtain ⟨Lx, q1⟩ := new_e (fs := fs) hG po hPc y0 y1 y2' y3' f0 (by omega)
    have hG2 : Good (H ++ [⟨.tip false, .ints .i64 [Lx]⟩, ⟨.tip false, .ints .i64 []⟩, ⟨.tip false, .ints .i64 (flatP P)⟩, ⟨.tip false, .vals [.int .u64 hz, .int .u64 (mkOf k), .int .u64 fs, .gsl (H.length + 2) 0 P.length 2 false]⟩]) := good_app hG rfl
    have k2 := keepsG hG2
    have s1 : (H ++ [(⟨.tip false, .ints .i64 [Lx]⟩ : ABlk), ⟨.tip false, .ints .i64 []⟩, ⟨.tip false, .ints .i64 (flatP P)⟩, ⟨.tip false, .vals [.int .u64 hz, .int .u64 (mkOf k), .int .u64 fs, .gsl (H.length + 2) 0 P.length 2 false]⟩])[H.length + 3]? = some ⟨.tip false, .vals [.int .u64 hz, .int .u64 (mkOf k), .int .u64 fs, .gsl (H.length + 2) 0 P.length 2 false]⟩ := by
      rw [List.getElem?_append_right (by omega), show H.length + 3 - H.length = 3 by omega]; rfl
    have s2 : (H ++ [(⟨.tip false, .ints .i64 [Lx]⟩ : ABlk), ⟨.tip false, .ints .i64 []⟩, ⟨.tip false, .ints .i64 (flatP P)⟩, ⟨.tip false, .vals [.int .u64 hz, .int .u64 (mkOf k), .int .u64 fs, .gsl (H.length + 2) 0 P.length 2 false]⟩])[H.length + 2]? = some ⟨.tip false, .ints .i64 (flatP P)⟩ := by
      rw [List.getElem?_append_right (by omega), show H.length + 2 - H.length = 2 by omega]; rfl
    obtain ⟨H2, hH2⟩ : ∃ H2, H ++ [(⟨.tip false, .ints .i64 [Lx]⟩ : ABlk), ⟨.tip false, .ints .i64 []⟩, ⟨.tip false, .ints .i64 (flatP P)⟩, ⟨.tip false, .vals [.int .u64 hz, .int .u64 (mkOf k), .int .u64 fs, .gsl (H.length + 2) 0 P.length 2 false]⟩] = H2 := ⟨_, rfl⟩
    rw [hH2] at q1 hG2 k2 s1 s2
    clear hH2
    have pu2 : PV H2 u P := pu.keep fun q z e _ => keepsN k2 q z e
    have q2 := rnew_e hG2 pu2 ha' ⟨f0, f1⟩ h2k hall
    have hG3 : Good (H2 ++ [⟨.tip false, .vals [.int .u64 hz, .int .u64 fs, .int .i64 (k : Int), .gsl (H2.length + 1) 0 P.length 2 false]⟩, ⟨.tip false, .ints .i64 (flatP P)⟩]) := good_app hG2 rfl
    have k3 := keepsG hG3
    have t1 : (H2 ++ [(⟨.tip false, .vals [.int .u64 hz, .int .u64 fs, .int .i64 (k : Int), .gsl (H2.length + 1) 0 P.length 2 false]⟩ : ABlk), ⟨.tip false, .ints .i64 (flatP P)⟩])[H2.length]? = some ⟨.tip false, .vals [.int .u64 hz, .int .u64 fs, .int .i64 (k : Int), .gsl (H2.length + 1) 0 P.length 2 false]⟩ := by simp
    have t2 : (H2 ++ [(⟨.tip false, .vals [.int .u64 hz, .int .u64 fs, .int .i64 (k : Int), .gsl (H2.length + 1) 0 P.length 2 false]⟩ : ABlk), ⟨.tip false, .ints .i64 (flatP P)⟩])[H2.length + 1]? = some ⟨.tip false, .ints .i64 (flatP P)⟩ := by
      rw [List.getElem?_append_right (by omega)]; simp
    obtain ⟨H3, hH3⟩ : ∃ H3, H2 ++ [(⟨.tip false, .vals [.int .u64 hz, .int .u64 fs, .int .i64 (k : Int), .gsl (H2.length + 1) 0 P.length 2 false]⟩ : ABlk), ⟨.tip false, .ints .i64 (flatP P)⟩] = H3 := ⟨_, rfl⟩
    rw [hH3] at q2 hG3 k3 t1 t2
    clear hH3
    have s1 := keepsN k3 _ _ s1
    have s2 := keepsN k3 _ _ s2
    have b3 := keepsN (keepsT k2 k3) _ _ bO
    have l3 := (List.getElem?_eq_some_iff.1 b3).1
    have hl2 := k2.2.1
    obtain ⟨p, hp, hp0, hp1⟩ : ∃ p, H.length + 3 = p ∧ g.length < p ∧ g.length ≠ H.length + 2 := ⟨_, rfl, by omega, by omega⟩
    have hp2 : H.length + 2 < p := by omega
    rw [hp] at q1 s1
    obtain ⟨pr, hpr, hpr0, hpr1⟩ : ∃ p, H2.length = p ∧ g.length ≠ p ∧ g.length ≠ H2.length + 1 := ⟨_, rfl, by omega, by omega⟩
    rw [hpr] at q2 t1 hpr1 t2
    simp (maxDischargeDepth := 9) -implicitDefEqProofs only [push_cast, simprocAttr, nadd1, nadd2, nadd3, nadd4, nadd5, nadd6, nadd7, nadd8, nadd9, nadd10, nadd11, nadd12, ↓hks, nT, nu, q1, q2]
    refine wp_kSeq (wp_kBlock (Wp.mono (Q := Ex4 H3 g.length m tv p pr) ?_ ?_))
    · refine wp_loop (fun kk x h' ws => ∃ (i : Nat) (L : List Int), kk = m - i ∧ i ≤ m ∧ L.length = m * 2 ∧ x = [(4, tv), (11, .gsl g.length 0 m 2 false), (14, .ptr p 0), (16, .ptr pr 0), (18, .int .i64 (i : Int))] ∧ h' = H3.set g.length ⟨.tip false, .ints .i64 L⟩ ∧ ws = []) m ?_ ?_
      · refine ⟨0, flatP P, by omega, by omega, by rw [flatP_len, lP], ?_, (set_sameS b3).symm, rfl⟩
        simp (maxDischargeDepth := 9) -implicitDefEqProofs only [push_cast, simprocAttr, nT]; try rfl
      · rintro kk xx h' ws ⟨i, L, rfl, hi, hL, rfl, hh, rfl⟩
        have v1 : IntKind.i64.wrap ((i : Int) + 1) = (i : Int) + 1 := wr_i64 _ (by omega) (by omega)
        have b4 : h'[g.length]? = some ⟨.tip false, .ints .i64 L⟩ := by rw [hh]; exact List.getElem?_set_self l3
        have l4 := (List.getElem?_eq_some_iff.1 b4).1
        by_cases hlt : i < m
        · have hlt' : (i : Int) < (m : Int) := by omega
          have j1 : i * 2 < L.length := by omega
          have j2 : i * 2 + 1 < L.length := by omega
          have hself : ¬ g.length < g.length := Nat.lt_irrefl _
          simp (maxDischargeDepth := 9) -implicitDefEqProofs only [push_cast, simprocAttr, nadd1, nadd2, nadd3, nadd4, nadd5, nadd6, nadd7, nadd8, nadd9, nadd10, nadd11, nadd12, nT, hlt, hlt', v1, b4, l4, j1, j2, hself, Nat.zero_add, List.length_set]
          refine loop_next (m - (i + 1)) (by omega) ⟨i + 1, (L.set (i * 2) 5).set (i * 2 + 1) 5, rfl, by omega, by simp [hL], ?_, by rw [hh, List.set_set], rfl⟩
          simp (maxDischargeDepth := 9) -implicitDefEqProofs only [push_cast, simprocAttr, nT]; try simp
        · have hnl : ¬ (i : Int) < (m : Int) := by omega
          have fin : ∀ s : Acts, keepA [4, 14, 16] s = [(4, tv), (14, .ptr p 0), (16, .ptr pr 0)] → Ex4 H3 g.length m tv p pr (.exit 2, s, h', []) := fun s e => ⟨s, L, by rw [hh], e⟩
          simp (maxDischargeDepth := 9) -implicitDefEqProofs only [push_cast, simprocAttr, nadd1, nadd2, nadd3, nadd4, nadd5, nadd6, nadd7, nadd8, nadd9, nadd10, nadd11, nadd12, nT, hnl]
          refine fin _ ?_
          simp (maxDischargeDepth := 9) -implicitDefEqProofs only [push_cast, simprocAttr, nT]; try rfl
    rintro _ ⟨s4, L4, rfl, hk4⟩
    have hG4 : Good (H3.set g.length ⟨.tip false, .ints .i64 L4⟩) := good_set hG3 rfl
    have uT4 : IV .i64 (H3.set g.length ⟨.tip false, .ints .i64 L4⟩) tv Ts := uT.keep fun q z e _ => by
      have := (List.getElem?_eq_some_iff.1 e).1
      rw [List.getElem?_set_ne (by omega)]
      exact keepsN (keepsT k1 (keepsT kH (keepsT k2 k3))) q z e
    have sk : SkAt (H3.set g.length ⟨.tip false, .ints .i64 L4⟩) p hz (mkOf k) fs P :=
      ⟨⟨H.length + 2, hp2, by rw [List.getElem?_set_ne (by omega)]; exact s1, by rw [List.getElem?_set_ne hp1]; exact s2⟩, y0, y1, (mkOf_in k).1, (mkOf_in k).2, f0, by omega, hPc⟩
    have rk : RfAt (H3.set g.length ⟨.tip false, .ints .i64 L4⟩) pr hz fs k P :=
      ⟨⟨pr + 1, by rw [List.getElem?_set_ne hpr0]; exact t1, by rw [List.getElem?_set_ne hpr1]; exact t2⟩, y0, y1, f0, h2k, y2', y3', hPc⟩
    obtain ⟨H4, hH4⟩ : ∃ H4, H3.set g.length ⟨.tip false, .ints .i64 L4⟩ = H4 := ⟨_, rfl⟩
    rw [hH4] at hG4 uT4 sk rk ⊢
    clear hH4
    have e1 := fun t => ticks_c (t := t) hG4 sk
    have e2 := fun t => rticks_c (t := t) hG4 rk
    have e3 := fun t => read_c (t := t) hG4 sk
    have e4 := fun t => rread_c (t := t) hG4 rk
    have e5 := fun t => raw_c (t := t) hG4 sk
    have e6 := fun t => rraw_c (t := t) hG4 rk
    have e7 := fun t => off_c (t := t) hG4 sk
    have e8 := fun t => roff_c (t := t) hG4 rk
    have e9 := worst_c hG4 sk
    have eA := rworst_c hG4 rk
    have rnd : ∀ n : Int, ∃ (a : Int) (bb : Bool), W CP 18 [.ptr p 0, .int .u64 n] H4 = some (.tup [.int .i64 a, .bool bb], H4, []) ∧ W CP 22 [.ptr pr 0, .int .u64 n] H4 = some (.tup [.int .i64 a, .bool bb], H4, []) := by
      intro n
      by_cases hn : tks hz P 4503599627370496 < n
      · exact ⟨0, false, when_no hG4 sk hn, rwhen_no hG4 rk hn⟩
      · obtain ⟨r, r1, r2, r3, e⟩ := when_is hG4 sk hn
        exact ⟨(r : Int), true, e, rwhen_is hG4 rk hn r1 r2 r3⟩
    simp (maxDischargeDepth := 9) -implicitDefEqProofs only [push_cast, simprocAttr, nadd1, nadd2, nadd3, nadd4, nadd5, nadd6, nadd7, nadd8, nadd9, nadd10, nadd11, nadd12, ↓hk4, nT]
    refine wp_kSeq (wp_kBlock ?_)
    refine wp_loop (fun kk x h' ws => ∃ i : Nat, kk = 8 - i ∧ i ≤ 8 ∧ i ≤ nt ∧ x = [(4, tv), (14, .ptr p 0), (16, .ptr pr 0), (19, .int .i64 (i : Int))] ∧ h' = H4 ∧ ws = []) 8 ?_ ?_
    · refine ⟨0, by omega, by omega, by omega, ?_, rfl, rfl⟩
      simp (maxDischargeDepth := 9) -implicitDefEqProofs only [push_cast, simprocAttr, nT]; try rfl
    · rintro kk xx h' ws ⟨i, rfl, hi, hi2, rfl, hh, rfl⟩
      obtain rfl : H4 = h' := hh.symm
      have v1 : IntKind.i64.wrap ((i : Int) + 1) = (i : Int) + 1 := wr_i64 _ (by omega) (by omega)
      by_cases c1 : i < nt
      · have c1' : (i : Int) < (nt : Int) := by omega
        by_cases c2 : i < 8
        · have c2' : (i : Int) < 8 := by omega
          obtain ⟨t, ht⟩ : ∃ t, Ts[i]? = some t := ⟨_, List.getElem?_eq_getElem (by omega)⟩
          obtain ⟨pt, w1, w2, _⟩ := uT4.at ht
          obtain ⟨d, hd, d2⟩ : ∃ d : Nat, i % 2 = d ∧ d < 2 := ⟨_, rfl, Nat.mod_lt _ (by decide)⟩
          have hdm : (i : Int).tmod 2 = (d : Int) := by rw [Int.tmod_eq_emod_of_nonneg (by omega), ← hd]; rfl
          have wd : IntKind.u64.wrap (d : Int) = (d : Int) := wr_u64 _ (by omega) (by omega)
          obtain ⟨M, hM⟩ : ∃ M, IntKind.u64.wrap (tks hz P t + (d : Int)) = M := ⟨_, rfl⟩
          obtain ⟨a, bb, r1, r2⟩ := rnd M
          cases bb
          · simp (maxDischargeDepth := 9) -implicitDefEqProofs only [push_cast, simprocAttr, nadd1, nadd2, nadd3, nadd4, nadd5, nadd6, nadd7, nadd8, nadd9, nadd10, nadd11, nadd12, nT, kT, c1', c2', v1, ↓uia_eq, w1, ↓uld_eq 97, w2, e2, hdm, wd, hM, r1, r2, e1, e3, e4, e5, e6, e7, e8]
            refine loop_next (8 - (i + 1)) (by omega) ⟨i + 1, rfl, by omega, by omega, ?_, rfl, rfl⟩
            simp (maxDischargeDepth := 9) -implicitDefEqProofs only [push_cast, simprocAttr, nT]; try simp
          · simp (maxDischargeDepth := 9) -implicitDefEqProofs only [push_cast, simprocAttr, nadd1, nadd2, nadd3, nadd4, nadd5, nadd6, nadd7, nadd8, nadd9, nadd10, nadd11, nadd12, nT, kT, c1', c2', v1, ↓uia_eq, w1, ↓uld_eq 97, w2, e2, hdm, wd, hM, r1, r2, e1, e3, e4, e5, e6, e7, e8]
            refine loop_next (8 - (i + 1)) (by omega) ⟨i + 1, rfl, by omega, by omega, ?_, rfl, rfl⟩
            simp (maxDischargeDepth := 9) -implicitDefEqProofs only [push_cast, simprocAttr, nT]; try simp
        · have c2' : ¬ (i : Int) < 8 := by omega
          simp (maxDischargeDepth := 9) -implicitDefEqProofs only [push_cast, simprocAttr, nadd1, nadd2, nadd3, nadd4, nadd5, nadd6, nadd7, nadd8, nadd9, nadd10, nadd11, nadd12, nT, kT, c1', c2', e9, eA, al]
      · have c1' : ¬ (i : Int) < (nt : Int) := by omega
        simp (maxDischargeDepth := 9) -implicitDefEqProofs only [push_cast, simprocAttr, nadd1, nadd2, nadd3, nadd4, nadd5, nadd6, nadd7, nadd8, nadd9, nadd10, nadd11, nadd12, nT, kT, c1', e9, eA, al]
  rw [hnE] at start ⊢
  exact start
theorem tells_law (js : AHeap) (avs : List AV) (hx : Ext js) (ht : TyA (CP.gl ++ js) [.one (.i .u64), .one (.i .i64), .one (.i .u64), .one (.sl [.i .i64, .i .i64]), .one (.sl [.i .i64])] avs) : ∃ h' ws, W CP 5 avs (CP.gl ++ js) = some (.bool true, h', ws) := by
  simp only [TyA] at ht
  obtain ⟨a, _, rfl, ha, b, _, rfl, hb, c, _, rfl, hc, v, _, rfl, hv, u, _, rfl, hu, rfl⟩ := ht
  simp only [Ty] at ha hb hc
  obtain ⟨a, rfl, a0, a1⟩ := ha
  obtain ⟨b, rfl, b0, b1⟩ := hb
  obtain ⟨c, rfl, c0, c1⟩ := hc
  have e1 : IntKind.u64.min = 0 := rfl
  have e2 : IntKind.u64.max = 18446744073709551615 := rfl
  have e3 : IntKind.i64.min = -9223372036854775808 := rfl
  have e4 : IntKind.i64.max = 9223372036854775807 := rfl
  refine W_law (m := M5) (fun _ => rfl) rfl (tells_body (good_ext hx) (by omega) (by omega) ⟨by omega, by omega⟩ (by omega) (by omega) hv hu) fun h0 => ?_
  simp only [AV.lts, Bool.and_eq_true] at h0
  exact tells_body glG (by omega) (by omega) ⟨by omega, by omega⟩ (by omega) (by omega) (ty_nil hv h0.2.2.2.1) (ty_nil hu h0.2.2.2.2.1)
theorem tells_kinds : aksOf X.P 20 [27, 3, 27, 36, 37] = some [.one (.i .u64), .one (.i .i64), .one (.i .u64), .one (.sl [.i .i64, .i .i64]), .one (.sl [.i .i64])] := by kernel_rfl
end Go.Proofs.YthcjmmngenogmaaW.AI.E

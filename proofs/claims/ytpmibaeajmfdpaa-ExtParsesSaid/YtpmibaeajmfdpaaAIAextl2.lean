import Derived.Test.YtpmibaeajmfdpaaAIAextl1
namespace Go.Proofs.YtpmibaeajmfdpaaW.AI.A
open Go Go.Proofs.YtpmibaeajmfdpaaW.AI Go.Proofs.YtpmibaeajmfdpaaW.AI.Oct Go.RowKit
set_option maxRecDepth 100000
set_option linter.unusedSimpArgs false
set_option linter.unusedVariables false
set_option linter.unusedSectionVars false
theorem ents_byt {h : AHeap} {v : AV} {l : List AV} {F : List (Int × List Int)} (e : Ents h v l F) : (∀ z ∈ F, Byt z.2) ∧ ∀ z ∈ F, 0 ≤ z.1 ∧ z.1 < 65536 := by
  constructor <;>
  · intro z hz
    obtain ⟨i, hi⟩ := List.getElem?_of_mem hz
    obtain ⟨h1, _, d, _, h4, _⟩ := e i z.1 z.2 hi
    first | exact h4.1 | exact h1
/-- A row of fields, cut. -/
def cutR (v : AV) (k : Nat) : AV := match v with
  | .gsl b o n e m => .gsl b o k e m
  | v => v
theorem GxAt.cut {h : AHeap} {v : AV} {F : List (Int × List Int)} {l : List AV} (g : GxAt h v F.length l) (e : Ents h v l F) {k : Nat} (hk : k ≤ F.length) : ExtAt h (cutR v k) (F.take k) := by
  have hl : (F.take k).length = k := by rw [List.length_take]; omega
  rcases g.2 with ⟨rfl, hn⟩ | ⟨p, mn, o, rfl, hp⟩
  · obtain rfl : F = [] := List.length_eq_zero_iff.1 hn
    rw [List.take_nil]
    exact ExtAt.nil h
  · refine ⟨p, 0, l, by rw [hl]; rfl, fun g i hi => ?_, fun _ => ⟨cellsAt_of hp (by simp), ?_, (List.getElem?_eq_some_iff.1 hp).1⟩, fun i t D hi => ?_⟩
    · rw [hl] at hi
      simp only [cutR, iaV]; rw [if_pos ⟨trivial, hi⟩]
    · unfold faceOk; rw [hp]
    · have hi' : F[i]? = some (t, D) := by
        rw [List.getElem?_take] at hi
        split at hi
        · exact hi
        · cases hi
      obtain ⟨h1, h2, d, h3, h4, h5, _⟩ := e i t D hi'
      exact ⟨h1, by rw [Nat.zero_add]; exact h2, d, by rw [Nat.zero_add]; exact h3, h4, h5⟩
theorem putX_nil {F : List (Int × List Int)} (h : (putX F).length = 0) : F = [] := by
  cases F with
  | nil => rfl
  | cons z F =>
    have := putF_len z
    simp only [putX, List.map_cons, List.flatten_cons, List.length_append] at h
    omega
theorem take_may {F : List (Int × List Int)} (h : mayX F = true) (j : Nat) : mayX (F.take j) = true := by
  have h1 := mayN_of h
  have h2 := (mayX_all h).1
  unfold mayX
  rw [decide_eq_true (by rw [List.length_take]; omega), Bool.true_and, Bool.not_eq_true', List.any_eq_false]
  intro z hz
  simp [badX, h1 z (List.mem_of_mem_take hz)]
set_option maxHeartbeats 16000000 in
theorem cuts_body {g : AHeap} (hg : Good g) {x : AV} (hx : Ty g (.sl [.i .u16, .sl [.i .u8]]) x) {u : Int} (u0 : 0 ≤ u) (u1 : u ≤ 65535) : Wp (xbody (W CP) M7 [x, .int .u16 u] g) fun r => r.1 = .bool true := by
  obtain ⟨F, A, ax⟩ := arg_ext hx
  have hnx := na_slen ax.xr.len
  obtain ⟨v, l, js, eP, gx, en, hG1, gp⟩ := proper_c hg ax.xr (fun z hz => by
    obtain ⟨i, hi⟩ := List.getElem?_of_mem hz
    obtain ⟨_, _, _, _, _, _, h⟩ := ax.el i z.1 z.2 hi
    exact h) ax.fl
  have hmay := properX_may F
  have hP8 := properX_len F
  have hPl := properX_lens F
  obtain ⟨P, hP⟩ : ∃ P, properX F = P := ⟨_, rfl⟩
  rw [hP] at gx en hP8 hPl hmay
  have ex := gx.ext en
  obtain ⟨hByt, hTyp⟩ := ents_byt en
  have hBp := putX_byt hByt
  have hPlen := putX_len (F := P) fun z hz => ((mayX_all hmay).2 z hz).2.1
  obtain ⟨H1, hH1⟩ : ∃ H1, g ++ js = H1 := ⟨_, rfl⟩
  rw [hH1] at eP hG1 ex gx en
  obtain ⟨y, js2, eU, gy, hG2, gpy, gmy⟩ := xput_ok hG1 ex hmay
  have gx2 := gx.app js2
  have en2 := en.app js2
  obtain ⟨H2, hH2⟩ : ∃ H2, H1 ++ js2 = H2 := ⟨_, rfl⟩
  have l12 : H1.length ≤ H2.length := by rw [← hH2]; simp
  have l01 : g.length ≤ H1.length := by rw [← hH1]; simp
  rw [hH2] at eU gy hG2 gx2 en2
  have hnv := na_slen gx.slen
  have hlv := gx.slen
  have hny := na_slen gy.slen
  have hly := gy.slen
  obtain ⟨n, hn⟩ : ∃ n, (putX P).length = n := ⟨_, rfl⟩
  rw [hn] at hly
  have w1 : IntKind.i64.wrap u = u := wr_i64 _ (by omega) (by omega)
  have w2 : IntKind.i64.wrap ((n : Int) + 1) = (n : Int) + 1 := wr_i64 _ (by omega) (by omega)
  have w0 : ((n : Int) + 1 = 0) = False := eq_false (by omega)
  obtain ⟨k, hk, hkn⟩ : ∃ k : Nat, Int.tmod u ((n : Int) + 1) = (k : Int) ∧ k ≤ n := by
    refine ⟨(u % ((n : Int) + 1)).toNat, ?_, ?_⟩
    · rw [Int.tmod_eq_emod_of_nonneg u0, Int.toNat_of_nonneg (Int.emod_nonneg _ (by omega))]
    · have := Int.emod_lt_of_pos u (show (0 : Int) < (n : Int) + 1 by omega)
      have := Int.emod_nonneg u (show (n : Int) + 1 ≠ 0 by omega)
      omega
  have by2 := gsAt_bv gy hBp
  have svk := gsAt_sv gy gmy hBp (show k ≤ (putX P).length by omega)
  have e1 := fun h => slcV_hi (h := h) by2 (show k ≤ (putX P).length by omega)
  have bcut := by2.take (show k ≤ (putX P).length by omega)
  have acut := bcut.na
  have hkl : ((putX P).take k).length = k := by rw [List.length_take]; omega
  have aw := fun h => awake_c h
  have hP0 : ((n : Int) = 0 → ¬ (0 : Int) < (P.length : Int)) := fun h => by
    rw [putX_nil (F := P) (by omega)]; simp
  have hcase := parse_cut P [] 9 [] (by simpa using hP8) (fun z hz => ⟨hTyp z hz, mayN_of hmay z hz⟩) (Or.inl rfl) k (by rw [List.append_nil]; omega) (Or.inr rfl) rfl
  rw [List.append_nil] at hcase
  rcases hcase with ⟨e, _⟩ | ⟨j, T, hj, e, _⟩
  · have eR := xparse_err hG2 svk (by omega) e
    by_cases cn : n = 0
    · subst cn
      obtain rfl : k = 0 := by omega
      have c1 := hP0 rfl
      have hk' : Int.tmod u 1 = 0 := by simp
      simp (maxDischargeDepth := 9) -implicitDefEqProofs only [push_cast, reduceIte, Nat.reduceEqDiff, Nat.reduceAdd, Nat.reduceSub, Nat.reduceMul, Nat.reduceDiv, Nat.reduceMod, Nat.reduceLT, Nat.reduceLeDiff, Nat.reduceBEq, Nat.reduceBNe, reduceCtorEq, Int.reduceEq, Int.reduceNe, Int.reduceLT, Int.reduceLE, Int.reduceToNat, Int.reduceNeg, Int.reduceAdd, Int.reduceSub, Int.reduceMul, Int.reducePow, Nat.reducePow, Int.reduceBEq, M7, nadd1, nadd2, nadd3, nadd4, nadd5, nadd6, nadd7, nadd8, nadd9, nadd10, nadd11, nadd12, hnx, eP, eU, hnv, hlv, hny, hly, c1, w1, hk', ↓slc_eqH, e1, acut, eR, aw]
    · have c0 : ¬ (n : Int) = 0 := by omega
      simp (maxDischargeDepth := 9) -implicitDefEqProofs only [push_cast, reduceIte, Nat.reduceEqDiff, Nat.reduceAdd, Nat.reduceSub, Nat.reduceMul, Nat.reduceDiv, Nat.reduceMod, Nat.reduceLT, Nat.reduceLeDiff, Nat.reduceBEq, Nat.reduceBNe, reduceCtorEq, Int.reduceEq, Int.reduceNe, Int.reduceLT, Int.reduceLE, Int.reduceToNat, Int.reduceNeg, Int.reduceAdd, Int.reduceSub, Int.reduceMul, Int.reducePow, Nat.reducePow, Int.reduceBEq, M7, nadd1, nadd2, nadd3, nadd4, nadd5, nadd6, nadd7, nadd8, nadd9, nadd10, nadd11, nadd12, hnx, eP, eU, hnv, hlv, hny, hly, c0, w0, w1, w2, hk, ↓slc_eqH, e1, acut, eR, aw]
  · rw [List.nil_append] at e
    obtain ⟨F2, q1, q2, q3, q4, q5⟩ := put_parse 9 [] (P.take j) _ T (fun z hz => hBp z (List.mem_of_mem_take hz)) (by simp) e
    rw [List.nil_append] at q1
    subst q1
    obtain ⟨m, rv, js3, eR, rok, _⟩ := xparse_ok hG2 svk (by omega) e
    have exm := rok.ext
    obtain ⟨lm, gm, enm, _, gpm, brv, _, hG3⟩ := rok
    have gx3 := gx2.app js3
    have en3 := en2.app js3
    have gy3 := gsAt_app gy js3
    obtain ⟨H3, hH3⟩ : ∃ H3, H2 ++ js3 = H3 := ⟨_, rfl⟩
    have l23 : H2.length ≤ H3.length := by rw [← hH3]; simp
    rw [hH3] at eR exm gm enm brv hG3 gx3 en3 gy3
    have hmay2 := take_may hmay j
    obtain ⟨y2, js4, eU2, gy2, hG4, gpy2, gmy2⟩ := xput_ok hG3 exm hmay2
    have gx4 := gx3.app js4
    have en4 := en3.app js4
    have gy4 := gsAt_app gy3 js4
    have exm4 := exm.app js4
    have brv4 := brv.app js4
    obtain ⟨H4, hH4⟩ : ∃ H4, H3 ++ js4 = H4 := ⟨_, rfl⟩
    rw [hH4] at eU2 gy2 hG4 gx4 en4 gy4 exm4 brv4
    have hjl : (P.take j).length = j := by rw [List.length_take]; omega
    have hlm := gm.slen
    rw [hjl] at hlm
    have hnm := na_slen gm.slen
    have hnr := brv.na
    have hlr := brv.len
    have hny2 := na_slen gy2.slen
    have hly2 := gy2.slen
    obtain ⟨n2, hn2⟩ : ∃ n2, (putX (P.take j)).length = n2 := ⟨_, rfl⟩
    obtain ⟨nt, hnt⟩ : ∃ nt, T.length = nt := ⟨_, rfl⟩
    rw [hn2] at hly2
    rw [hnt] at hlr
    have hsum : n2 + nt = k := by
      have := congrArg List.length q2
      rw [hkl, List.length_append, hn2, hnt] at this
      omega
    have hBp2 : Byt (putX (P.take j)) := putX_byt fun z hz => hByt z (List.mem_of_mem_take hz)
    obtain ⟨va, H5, wa, ea, ba, ka, wsa⟩ := app_any (xs := T) (k := nt) gy2 hBp2 brv4.1 hnt (by omega)
    have hnew := brv4.new
    have hG5 : Good H5 := ka.2.2 hG4
    have bcut5 : BV H5 (cutX y k) ((putX P).take k) := by
      refine ((gsAt_bv gy4 hBp).take (show k ≤ (putX P).length by omega)).keeps ka fun q hq e2 => ?_
      have h6 := gpy2 q e2
      rcases gy with ⟨rfl, _⟩ | ⟨p', mn, o, rfl, hp'⟩
      · cases hq
      · simp only [cutX, blkS, Option.some.injEq] at hq
        subst hq
        have := (List.getElem?_eq_some_iff.1 hp').1
        omega
    have eE := equal_c hG5 ba bcut5
    rw [← q2, decide_eq_true rfl] at eE
    have hwa : wadd g.length [] wa = [] := wadd_ge fun b hb => by have := gpy2 b (wsa b hb); omega
    have hnva := ba.na
    have exc := gx4.cut en4 (show j ≤ P.length by omega)
    have eS := sameX_c hG4 exm4 exc (by omega)
    rw [decide_eq_true rfl] at eS
    have hjP : ((j : Int) ≤ (P.length : Int)) = True := eq_true (by omega)
    have hs1 : IntKind.i64.wrap ((n2 : Int) + (nt : Int)) = (k : Int) := by rw [wr_i64 _ (by omega) (by omega)]; omega
    have hcutv : cutR v j = v ∧ v = .nils ∨ ∃ p mn, v = .gsl p 0 P.length 2 mn ∧ cutR v j = .gsl p 0 j 2 mn := by
      rcases gx.2 with ⟨rfl, _⟩ | ⟨p, mn, o, rfl, hp⟩
      · exact Or.inl ⟨rfl, rfl⟩
      · exact Or.inr ⟨p, mn, rfl, rfl⟩
    by_cases cn : n = 0
    · subst cn
      obtain rfl : k = 0 := by omega
      obtain rfl : n2 = 0 := by omega
      obtain rfl : nt = 0 := by omega
      have c1 := hP0 rfl
      have hk' : Int.tmod u 1 = 0 := by simp
      have hPn : P = [] := putX_nil hn
      have hj0 : j = 0 := by rw [hPn] at hj; simpa using hj
      subst hj0
      rcases hcutv with ⟨hc, rfl⟩ | ⟨p, mn, rfl, hc⟩
      all_goals
        rw [hc] at eS
        simp (maxDischargeDepth := 9) -implicitDefEqProofs only [push_cast, reduceIte, Nat.reduceEqDiff, Nat.reduceAdd, Nat.reduceSub, Nat.reduceMul, Nat.reduceDiv, Nat.reduceMod, Nat.reduceLT, Nat.reduceLeDiff, Nat.reduceBEq, Nat.reduceBNe, reduceCtorEq, Int.reduceEq, Int.reduceNe, Int.reduceLT, Int.reduceLE, Int.reduceToNat, Int.reduceNeg, Int.reduceAdd, Int.reduceSub, Int.reduceMul, Int.reducePow, Nat.reducePow, Int.reduceBEq, M7, nadd1, nadd2, nadd3, nadd4, nadd5, nadd6, nadd7, nadd8, nadd9, nadd10, nadd11, nadd12, hnx, eP, eU, hnv, hlv, hny, hly, c1, w1, hk', ↓slc_eqH, e1, acut, eR, hnm, hnr, hny2, hlm, hlr, hly2, eU2, aw, eS, hjP, hnew, ea, hwa, hnva, eE]
    · have c0 : ¬ (n : Int) = 0 := by omega
      rcases hcutv with ⟨hc, rfl⟩ | ⟨p, mn, rfl, hc⟩
      · rw [hc] at eS
        have hj0 : j = 0 := by
          rcases gx.2 with ⟨_, h⟩ | ⟨_, _, _, h, _⟩
          · omega
          · cases h
        subst hj0
        simp (maxDischargeDepth := 9) -implicitDefEqProofs only [push_cast, reduceIte, Nat.reduceEqDiff, Nat.reduceAdd, Nat.reduceSub, Nat.reduceMul, Nat.reduceDiv, Nat.reduceMod, Nat.reduceLT, Nat.reduceLeDiff, Nat.reduceBEq, Nat.reduceBNe, reduceCtorEq, Int.reduceEq, Int.reduceNe, Int.reduceLT, Int.reduceLE, Int.reduceToNat, Int.reduceNeg, Int.reduceAdd, Int.reduceSub, Int.reduceMul, Int.reducePow, Nat.reducePow, Int.reduceBEq, M7, nadd1, nadd2, nadd3, nadd4, nadd5, nadd6, nadd7, nadd8, nadd9, nadd10, nadd11, nadd12, hnx, eP, eU, hnv, hlv, hny, hly, c0, w0, w1, w2, hk, ↓slc_eqH, e1, acut, eR, hnm, hnr, hny2, hlm, hlr, hly2, eU2, aw, eS, hjP, hs1, hnew, ea, hwa, hnva, eE]
      · rw [hc] at eS
        simp (maxDischargeDepth := 9) -implicitDefEqProofs only [push_cast, reduceIte, Nat.reduceEqDiff, Nat.reduceAdd, Nat.reduceSub, Nat.reduceMul, Nat.reduceDiv, Nat.reduceMod, Nat.reduceLT, Nat.reduceLeDiff, Nat.reduceBEq, Nat.reduceBNe, reduceCtorEq, Int.reduceEq, Int.reduceNe, Int.reduceLT, Int.reduceLE, Int.reduceToNat, Int.reduceNeg, Int.reduceAdd, Int.reduceSub, Int.reduceMul, Int.reducePow, Nat.reducePow, Int.reduceBEq, M7, nadd1, nadd2, nadd3, nadd4, nadd5, nadd6, nadd7, nadd8, nadd9, nadd10, nadd11, nadd12, hnx, eP, eU, hnv, hlv, hny, hly, c0, w0, w1, w2, hk, ↓slc_eqH, e1, acut, eR, hnm, hnr, hny2, hlm, hlr, hly2, eU2, aw, eS, hj, hjP, hs1, hnew, ea, hwa, hnva, eE]
theorem cuts_law (js : AHeap) (avs : List AV) (hx : Ext js) (ht : TyA (CP.gl ++ js) [.one (.sl [.i .u16, .sl [.i .u8]]), .one (.i .u16)] avs) : ∃ h' ws, W CP 7 avs (CP.gl ++ js) = some (.bool true, h', ws) := by
  simp only [TyA] at ht
  obtain ⟨v, _, rfl, hv, _, _, rfl, hu, rfl⟩ := ht
  simp only [Ty] at hu
  obtain ⟨u, rfl, u0, u1⟩ := hu
  have u0' : 0 ≤ u := u0
  have u1' : u ≤ 65535 := u1
  refine W_law (m := M7) (fun _ => rfl) rfl (cuts_body (good_ext hx) hv u0' u1') fun h0 => cuts_body good_gl (ty_nil hv ?_) u0' u1'
  simp only [AV.lts, Bool.and_eq_true] at h0
  exact h0.1
theorem cuts_kinds : aksOf X.P 20 [22, 23] = some [.one (.sl [.i .u16, .sl [.i .u8]]), .one (.i .u16)] := by kernel_rfl
end Go.Proofs.YtpmibaeajmfdpaaW.AI.A

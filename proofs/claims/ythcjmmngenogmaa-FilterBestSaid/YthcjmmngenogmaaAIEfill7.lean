import Derived.Test.YthcjmmngenogmaaAIEfill6
namespace Go.Proofs.YthcjmmngenogmaaW.AI.E
open Go Go.Proofs.YthcjmmngenogmaaW.AI
set_option maxRecDepth 100000
set_option linter.unusedSimpArgs false
set_option linter.unusedVariables false
set_option linter.unusedSectionVars false
/-- What the law holds in its heap. -/
structure FB (g h : AHeap) (p r rr : Nat) (F : FS) (C : List Int) (v : AV) (T : List Sp) (t f : Int) : Prop where
  fil : FilAt h p F r C
  rul : Rul h rr t f
  row : RW h v T g.length
  k : Keeps g h none
section
variable {g h : AHeap} {p r rr : Nat} {F : FS} {C : List Int} {v : AV} {T : List Sp} {t f : Int}
theorem Rul.kept {h h' : AHeap} {p : Nat} {t f : Int} (a : Rul h p t f) (k : Keeps h h' none) : Rul h' p t f := by
  obtain ⟨h1, h2, h3⟩ := a
  exact ⟨keepsN k _ _ h1, by have := k.2.1; omega, h3⟩
theorem FB.kept {h' : AHeap} (a : FB g h p r rr F C v T t f) (k : Keeps h h' none) : FB g h' p r rr F C v T t f :=
  ⟨a.fil.kept k, a.rul.kept k, a.row.kept k, keepsT a.k k⟩
theorem FB.set {X : ABlk} {F' : FS} {C' : List Int} (a : FB g h p r rr F C v T t f) (hp : g.length ≤ p) (hr : rr ≠ p) (nX : notOld X = true) (b : FilAt (h.set p X) p F' r C') : FB g (h.set p X) p r rr F' C' v T t f := by
  obtain ⟨h1, h2, h3⟩ := a.rul
  refine ⟨b, ⟨by rw [List.getElem?_set_ne (Ne.symm hr)]; exact h1, by rw [List.length_set]; exact h2, h3⟩, ?_, keepsS a.k hp nX⟩
  obtain c | ⟨b', o, hb, eb, c⟩ := a.row
  · exact Or.inl c
  · refine Or.inr ⟨b', o, hb, ?_, c⟩
    have : p ≠ b' := by
      rintro rfl
      rw [a.fil.blk] at eb
      cases eb
    rw [List.getElem?_set_ne this]; exact eb
theorem keepsV {H H' : AHeap} {v : AV} {T : List Sp} {n z : Nat} {A : List AV} {o : Bool} (k : Keeps H H' (blkU v)) (u : RW H v T n) (e : H[z]? = some ⟨.tip o, .vals A⟩) : H'[z]? = some ⟨.tip o, .vals A⟩ := by
  refine k.1 z _ e (fun j _ hs => by cases hs) fun hj => ?_
  obtain ⟨rfl, _⟩ | ⟨b, o', hb, eb, rfl⟩ := u
  · cases hj
  · cases hj
    rw [e] at eb
    cases eb
/-- A span is appended to the row. -/
theorem FB.app (a : FB g h p r rr F C v T t f) (hg : Good g) (hT : T.length < 1000) (s : Sp) : ∃ v' H' ws, aappend h (.ints .i64 [0, 0, 0]) 24 v (.ints .i64 [s.1, s.2.1, s.2.2]) 1 = some (v', H', ws) ∧ (∀ l, wadd g.length l ws = l) ∧ FB g H' p r rr F C v' (T ++ [s]) t f := by
  obtain ⟨v', H', ws, e, u', hw, k, c⟩ := appW (s := s) a.row hT a.k.2.1
  have hkg : Keeps g H' none := keepsO hg a.k k fun q hq => by
    obtain ⟨rfl, _⟩ | ⟨b, o', hb, eb, rfl⟩ := a.row
    · cases hq
    · cases hq; exact hb
  obtain ⟨h1, h2, h3⟩ := a.rul
  have hl := k.2.1
  refine ⟨v', H', ws, e, fun l => wadd_ge hw, ⟨⟨keepsV k a.row a.fil.blk, a.fil.len, a.fil.tk, a.fil.le, ?_⟩, ⟨keepsV k a.row h1, by omega, h3⟩, u', hkg⟩⟩
  obtain ⟨q1, q2, q3⟩ := a.fil.rul
  exact ⟨keepsV k a.row q1, by omega, q3⟩
end
/-- An element, and its At. -/
theorem RW.at2 {h : AHeap} {v : AV} {L : List Sp} {n i : Nat} {s : Sp} (u : RW h v L n) (hs : L[i]? = some s) : ∃ b, (∀ g, uia 3 g i (some v) = some (.ptr b (i * 3), g, [])) ∧ uld (some 3) h (some (.ptr b (i * 3))) = some (spV s, h, []) ∧ uld none h (some (.ptr b (i * 3))) = some (.int .i64 s.1, h, []) ∧ b < h.length := by
  obtain ⟨b, x1, x2, x3, x4, _⟩ := u.at hs
  obtain ⟨b', y1, y2, _⟩ := u.at0 hs
  have := (x1 []).symm.trans (y1 [])
  simp only [Option.some.injEq, Prod.mk.injEq, AV.ptr.injEq, and_true] at this
  subst this
  exact ⟨b, x1, x2, y2, x4⟩
theorem sc3q (k : IntKind) (a b c a' b' c' : Int) : ∃ q : Bool, scEqs [0, 0, 0] [.int k a, .int k b, .int k c] [.int k a', .int k b', .int k c'] = some q ∧ (q = true ↔ (a, b, c) = (a', b', c')) := by
  refine ⟨decide (a = a' ∧ b = b' ∧ c = c'), ?_, by simp⟩
  simp [scEqs, scEq, beq_int, Bool.decide_and]
/-- Behind a span that was put. -/
def Mid1 (g : AHeap) (p r rr i : Nat) (lv bv wv : AV) (e t f now : Int) (o : AOut) : Prop :=
  ∃ F C v T h3, o = (.normal, [(2, lv), (3, bv), (4, wv), (5, .int .u32 e), (15, .ptr p 0), (17, .ptr rr 0), (19, .int .i64 now), (20, .int .i64 F.used), (21, v), (22, .int .i64 (i : Int))], h3, []) ∧ FB g h3 p r rr F C v T t f ∧ BT t f now F T ∧ T ≠ [] ∧ T.length ≤ i + 1
set_option maxHeartbeats 16000000 in
theorem fbest_body {g : AHeap} (hg : Good g) {a b e : Int} {lv bv wv : AV} (a0 : 0 ≤ a) (a1 : a < 4294967296) (b0 : 0 ≤ b) (b1 : b < 4294967296) (e0 : 0 ≤ e) (e1 : e < 4294967296) (hL : Ty g (.sl [.i .u32]) lv) (hB : Ty g (.sl [.i .u32]) bv) (hW : Ty g (.sl [.i .u32]) wv) :
    Wp (xbody (W CP) M8 [.int .u32 a, .int .u32 b, lv, bv, wv, .int .u32 e] g) fun r => r.1 = .bool true := by
  obtain ⟨A, uA, lA, rA⟩ := arg_iv hL
  obtain ⟨B, uB, lB, rB⟩ := arg_iv hB
  obtain ⟨D, uD, lD, rD⟩ := arg_iv hW
  have h1 : IntKind.u32.min = 0 := rfl
  have h2 : IntKind.u32.max = 4294967295 := rfl
  have rA : ∀ x ∈ A, 0 ≤ x ∧ x < 4294967296 := fun x hx => by have := rA x hx; omega
  have rB : ∀ x ∈ B, 0 ≤ x ∧ x < 4294967296 := fun x hx => by have := rB x hx; omega
  have rD : ∀ x ∈ D, 0 ≤ x ∧ x < 4294967296 := fun x hx => by have := rD x hx; omega
  have nA := uA.na
  have nB := uB.na
  have nD := uD.na
  have kA := uA.len
  have kB := uB.len
  have kD := uD.len
  obtain ⟨N1, hN1⟩ : ∃ N, A.length = N := ⟨_, rfl⟩
  obtain ⟨N2, hN2⟩ : ∃ N, B.length = N := ⟨_, rfl⟩
  obtain ⟨N3, hN3⟩ : ∃ N, D.length = N := ⟨_, rfl⟩
  rw [hN1] at kA lA
  rw [hN2] at kB lB
  rw [hN3] at kD lD
  have al := fun h => alive20 h
  -- tick, phi
  have ht1 : a.tmod 1048576 = a % 1048576 := Int.tmod_eq_emod_of_nonneg a0
  have hf1 : b.tmod 500001 = b % 500001 := Int.tmod_eq_emod_of_nonneg b0
  have he1 : e.tmod 1000 = e % 1000 := Int.tmod_eq_emod_of_nonneg e0
  obtain ⟨a', ha'⟩ : ∃ x, a % 1048576 = x := ⟨_, rfl⟩
  obtain ⟨f, hf⟩ : ∃ x, b % 500001 = x := ⟨_, rfl⟩
  obtain ⟨E, hE⟩ : ∃ x, e % 1000 = x := ⟨_, rfl⟩
  rw [ha'] at ht1
  rw [hf] at hf1
  rw [hE] at he1
  have ba : 0 ≤ a' ∧ a' < 1048576 := by omega
  have bf : 0 ≤ f ∧ f < 500001 := by omega
  have bE : 0 ≤ E ∧ E < 1000 := by omega
  have wa : IntKind.i64.wrap a' = a' := wr_i64 _ (by omega) (by omega)
  have wf : IntKind.i64.wrap f = f := wr_i64 _ (by omega) (by omega)
  have wE : IntKind.i64.wrap E = E := wr_i64 _ (by omega) (by omega)
  obtain ⟨t, ht⟩ : ∃ x, 1 + a' = x := ⟨_, rfl⟩
  have wt : IntKind.i64.wrap (1 + a') = t := by rw [← ht]; exact wr_i64 _ (by omega) (by omega)
  have t1 : 1 ≤ t := by omega
  have t2 : t ≤ 1000000000 := by omega
  obtain ⟨p, H1, eN, hp, l1, hG1, k1, fil1⟩ := fnew_at t1 t2 bf.1 (show f ≤ 500000 by omega) hg
  have eS := span_New t1 t2 bf.1 (show f ≤ 500000 by omega) H1
  obtain ⟨H2, hH2⟩ : ∃ H, H1 ++ [(⟨.tip false, .vals [.int .i64 t, .int .i64 f, .bool true]⟩ : ABlk)] = H := ⟨_, rfl⟩
  have k2 : Keeps H1 H2 none := by rw [← hH2]; exact Keeps.app H1 [⟨.tip false, .vals [.int .i64 t, .int .i64 f, .bool true]⟩] none rfl
  rw [hH2] at eS
  have rl : Rul H2 H1.length t f := ⟨by rw [← hH2]; exact fend _ _ _, by rw [← hH2]; simp, t1, t2, bf.1, by omega⟩
  obtain ⟨r, hr⟩ : ∃ r, g.length = r := ⟨_, rfl⟩
  obtain ⟨rr, hrr⟩ : ∃ r, H1.length = r := ⟨_, rfl⟩
  rw [hr] at fil1
  rw [hrr] at eS rl
  have hp0 : g.length ≤ p := by omega
  have hrp : r ≠ p := by omega
  have hrrp : rr ≠ p := by omega
  have fb0 : FB g H2 p r rr ⟨t, f, [], -1, false⟩ C0 .nils [] t f := ⟨fil1.kept k2, rl, RW.nil _ _, keepsT k1 k2⟩
  have bt0 : BT t f 0 ⟨t, f, [], -1, false⟩ [] := ⟨rfl, by simp, by show (-1 : Int) ≤ -1; omega, rfl, rfl, t1, t2, bf.1, by omega⟩
  simp (maxDischargeDepth := 9) -implicitDefEqProofs only [push_cast, simprocAttr, M8, nadd1, nadd2, nadd3, nadd4, nadd5, nadd6, nadd7, nadd8, nadd9, nadd10, nadd11, nadd12, ht1, hf1, wa, wf, wt, eN, eS]
  refine wp_kRes (wp_kSeq (wp_kBlock ?_))
  refine wp_loop (fun kk x h' ws => ∃ (i : Nat) (now : Int) (F : FS) (C : List Int) (v : AV) (T : List Sp), kk = 30 - i ∧ i ≤ 30 ∧ x = [(2, lv), (3, bv), (4, wv), (5, .int .u32 e), (15, .ptr p 0), (17, .ptr rr 0), (19, .int .i64 now), (20, .int .i64 F.used), (21, v), (22, .int .i64 (i : Int))] ∧
    FB g h' p r rr F C v T t f ∧ BT t f now F T ∧ T.length ≤ i ∧ 0 ≤ now ∧ now ≤ i * 4294967296 ∧ ws = []) 30 ?_ ?_
  · refine ⟨0, 0, _, _, _, _, by omega, by omega, ?_, fb0, bt0, by simp, by omega, by omega, rfl⟩
    simp (maxDischargeDepth := 9) -implicitDefEqProofs only [push_cast, simprocAttr, nA, nB, nD]; try rfl
  clear fb0 bt0 eN eS fil1 rl
  rintro kk xx h' ws ⟨i, now, F, C, v, T, rfl, hi, rfl, fb, bt, hTl, n0, n1, rfl⟩
  have hgh := fb.k.2.2 hg
  have v1 : IntKind.i64.wrap ((i : Int) + 1) = (i : Int) + 1 := wr_i64 _ (by omega) (by omega)
  have nv := fb.row.na
  by_cases c1 : (i : Int) < (N1 : Int)
  case neg =>
    simp (maxDischargeDepth := 9) -implicitDefEqProofs only [push_cast, simprocAttr, nadd1, nadd2, nadd3, nadd4, nadd5, nadd6, nadd7, nadd8, nadd9, nadd10, nadd11, nadd12, nA, nB, nD, nv, kA, kB, kD, c1, al]
  by_cases c2 : (i : Int) < (N2 : Int)
  case neg =>
    simp (maxDischargeDepth := 9) -implicitDefEqProofs only [push_cast, simprocAttr, nadd1, nadd2, nadd3, nadd4, nadd5, nadd6, nadd7, nadd8, nadd9, nadd10, nadd11, nadd12, nA, nB, nD, nv, kA, kB, kD, c1, c2, al]
  by_cases c3 : (i : Int) < (N3 : Int)
  case neg =>
    simp (maxDischargeDepth := 9) -implicitDefEqProofs only [push_cast, simprocAttr, nadd1, nadd2, nadd3, nadd4, nadd5, nadd6, nadd7, nadd8, nadd9, nadd10, nadd11, nadd12, nA, nB, nD, nv, kA, kB, kD, c1, c2, c3, al]
  by_cases c4 : (i : Int) < 30
  case neg =>
    simp (maxDischargeDepth := 9) -implicitDefEqProofs only [push_cast, simprocAttr, nadd1, nadd2, nadd3, nadd4, nadd5, nadd6, nadd7, nadd8, nadd9, nadd10, nadd11, nadd12, nA, nB, nD, nv, kA, kB, kD, c1, c2, c3, c4, al]
  obtain ⟨x, hx⟩ : ∃ x, A[i]? = some x := ⟨_, List.getElem?_eq_getElem (by omega)⟩
  obtain ⟨y, hy⟩ : ∃ x, B[i]? = some x := ⟨_, List.getElem?_eq_getElem (by omega)⟩
  obtain ⟨w, hw⟩ : ∃ x, D[i]? = some x := ⟨_, List.getElem?_eq_getElem (by omega)⟩
  obtain ⟨x0, x1⟩ := rA x (List.mem_of_getElem? hx)
  obtain ⟨y0, y1⟩ := rB y (List.mem_of_getElem? hy)
  obtain ⟨w0, w1⟩ := rD w (List.mem_of_getElem? hw)
  have wx : IntKind.i64.wrap x = x := wr_i64 _ (by omega) (by omega)
  have ym : y.tmod 1048576 = y % 1048576 := Int.tmod_eq_emod_of_nonneg y0
  have wm : w.tmod 1048576 = w % 1048576 := Int.tmod_eq_emod_of_nonneg w0
  obtain ⟨y', hy'⟩ : ∃ v, y % 1048576 = v := ⟨_, rfl⟩
  obtain ⟨w', hw'⟩ : ∃ v, w % 1048576 = v := ⟨_, rfl⟩
  have by0 : 0 ≤ y' ∧ y' < 1048576 := by omega
  have bw0 : 0 ≤ w' ∧ w' < 1048576 := by omega
  rw [hy'] at ym
  rw [hw'] at wm
  have wy2 : IntKind.i64.wrap y' = y' := wr_i64 _ (by omega) (by omega)
  have ww2 : IntKind.i64.wrap w' = w' := wr_i64 _ (by omega) (by omega)
  obtain ⟨n', hn'⟩ : ∃ n', now + x = n' := ⟨_, rfl⟩
  have hnb : 0 ≤ n' ∧ n' ≤ (i + 1 : Nat) * 4294967296 ∧ now ≤ n' := by
    rw [← hn']; omega
  have hnb2 : n' ≤ 130000000000 := by omega
  have s1 : IntKind.i64.wrap (now + x) = n' := by rw [hn']; exact wr_i64 _ (by omega) (by omega)
  obtain ⟨m', hm'⟩ : ∃ m', 1099511627776 + n' = m' := ⟨_, rfl⟩
  have s2 : IntKind.i64.wrap (1099511627776 + n') = m' := by rw [hm']; exact wr_i64 _ (by omega) (by omega)
  obtain ⟨l', hl'⟩ : ∃ l', m' - y' = l' := ⟨_, rfl⟩
  have s3 : IntKind.i64.wrap (m' - y') = l' := by rw [hl']; exact wr_i64 _ (by omega) (by omega)
  obtain ⟨u', hu'⟩ : ∃ u', m' + w' = u' := ⟨_, rfl⟩
  have s4 : IntKind.i64.wrap (m' + w') = u' := by rw [hu']; exact wr_i64 _ (by omega) (by omega)
  have hob : Ob n' (n', l', u') := by unfold Ob frB; simp only; omega
  obtain ⟨pA, a1', a2', _⟩ := (uA.kept fb.k).at hx
  obtain ⟨pB, b1', b2', _⟩ := (uB.kept fb.k).at hy
  obtain ⟨pD, d1', d2', _⟩ := (uD.kept fb.k).at hw
  obtain ⟨Y1, hY1⟩ : ∃ Y, h' ++ [(⟨.tip false, .ints .i64 [n', l', u']⟩ : ABlk)] = Y := ⟨_, rfl⟩
  have kY1 : Keeps h' Y1 none := by rw [← hY1]; exact Keeps.app h' [⟨.tip false, .ints .i64 [n', l', u']⟩] none rfl
  have bY1 : Y1[h'.length]? = some ⟨.tip false, .ints .i64 [n', l', u']⟩ := by rw [← hY1]; exact fend _ _ _
  have lY1 := (List.getElem?_eq_some_iff.1 bY1).1
  have fb1 := fb.kept kY1
  have g1 : ¬ h'.length < g.length := by have := fb.k.2.1; omega
  have hpl := (List.getElem?_eq_some_iff.1 fb.fil.blk).1
  obtain ⟨C4, X4, ws4, hw4, eP, nX4, fa4⟩ := put_c (s := (n', l', u')) (kY1.2.2 hgh) fb1.fil hrp
  have fb4 := fb1.set hp0 hrrp nX4 fa4
  have hw4' := wadd_p hp0 hw4
  have bt1 := (bt.later hnb.2.2).put hob rfl (by omega)
  obtain ⟨Z, hZ⟩ : ∃ Z, Y1.set p X4 = Z := ⟨_, rfl⟩
  have bZ : Z[h'.length]? = some ⟨.tip false, .ints .i64 [n', l', u']⟩ := by rw [← hZ, List.getElem?_set_ne (by omega)]; exact bY1
  have bZl := (List.getElem?_eq_some_iff.1 bZ).1
  rw [hZ] at eP fb4
  obtain ⟨cd, hcd⟩ : ∃ c, (putF F (n', l', u')).1 = c := ⟨_, rfl⟩
  rw [hcd] at eP
  simp (maxDischargeDepth := 9) -implicitDefEqProofs only [push_cast, simprocAttr, nadd1, nadd2, nadd3, nadd4, nadd5, nadd6, nadd7, nadd8, nadd9, nadd10, nadd11, nadd12, ABlk.new, nA, nB, nD, nv, kA, kB, kD, c1, c2, c3, c4, ↓uia_eq, a1', ↓uld_eq 88, a2', wx, s1, s2, b1', ↓uld_eq 97, b2', ym, wy2, s3, d1', ↓uld_eq 106, d2', wm, ww2, s4, hY1, bY1, lY1, eP, hw4', g1]
  refine wp_kSeq (wp_kBlock (wp_kSeq (Wp.mono (Q := Mid1 g p r rr i lv bv wv e t f n') ?_ ?_)))
  · rcases bt1 with ⟨hput, hT, bt2⟩ | ⟨hput, bt2⟩
    · rw [hput] at hcd fb4
      obtain rfl : (35 : Int) = cd := hcd
      simp (maxDischargeDepth := 9) -implicitDefEqProofs only [push_cast, simprocAttr, nadd1, nadd2, nadd3, nadd4, nadd5, nadd6, nadd7, nadd8, nadd9, nadd10, nadd11, nadd12, nv]
      exact ⟨heldF F, C4, v, T, Z, rfl, fb4, bt2, hT, by omega⟩
    · rw [hput] at hcd fb4
      obtain rfl : (0 : Int) = cd := hcd
      obtain ⟨Z1, hZ1⟩ : ∃ Y, Z ++ [(⟨.tip false, .ints .i64 [n', l', u']⟩ : ABlk)] = Y := ⟨_, rfl⟩
      have kZ1 : Keeps Z Z1 none := by rw [← hZ1]; exact Keeps.app Z [⟨.tip false, .ints .i64 [n', l', u']⟩] none rfl
      have bZ1 : Z1[Z.length]? = some ⟨.tip false, .ints .i64 [n', l', u']⟩ := by rw [← hZ1]; exact fend _ _ _
      have eS := newS (s := (n', l', u')) bZ1
      obtain ⟨v', H', ws', eA, hws', fb5⟩ := (fb4.kept kZ1).app hg (by omega) (n', l', u')
      have nv' := fb5.row.na
      simp only at eS eA
      simp (maxDischargeDepth := 9) -implicitDefEqProofs only [push_cast, simprocAttr, nadd1, nadd2, nadd3, nadd4, nadd5, nadd6, nadd7, nadd8, nadd9, nadd10, nadd11, nadd12, ABlk.new, nv, bZ, bZl, hZ1, eS, eA, nv', hws']
      exact ⟨addF F (n', l', u'), C4, v', T ++ [(n', l', u')], H', rfl, fb5, bt2, by simp, by simp; omega⟩
  · rintro o ⟨F', C', v', T', h3, rfl, fb3, bt3, hT3, hT3l⟩
    obtain ⟨m, hm⟩ : ∃ m, T'.length = m := ⟨_, rfl⟩
    rw [hm] at hT3l
    have hm0 : 0 < m := by rw [← hm]; exact List.length_pos_iff.2 hT3
    have hm1 : ¬ (m : Int) = 0 := by omega
    have lv3 := fb3.row.len
    have nv3 := fb3.row.na
    rw [hm] at lv3
    -- the reading
    have hi3 : ((i : Nat) : Int).tmod 3 = (i : Int) % 3 := Int.tmod_eq_emod_of_nonneg (by omega)
    obtain ⟨r3, hr3⟩ : ∃ x, (i : Int) % 3 = x := ⟨_, rfl⟩
    rw [hr3] at hi3
    have br3 : r3 = 0 ∨ r3 = 1 ∨ r3 = 2 := by omega
    obtain ⟨P3, hP3⟩ : ∃ x, E * r3 = x := ⟨_, rfl⟩
    have bP3 : 0 ≤ P3 ∧ P3 ≤ 1998 := by
      rw [← hP3]
      rcases br3 with rfl | rfl | rfl <;> omega
    have s5 : IntKind.i64.wrap (E * r3) = P3 := by rw [hP3]; exact wr_i64 _ (by omega) (by omega)
    obtain ⟨raw, hraw⟩ : ∃ x, n' + P3 = x := ⟨_, rfl⟩
    have s6 : IntKind.i64.wrap (n' + P3) = raw := by rw [hraw]; exact wr_i64 _ (by omega) (by omega)
    have hnr : n' ≤ raw := by omega
    have hrb : raw ≤ 200000000000 := by omega
    -- the best one
    have hg3 := fb3.k.2.2 hg
    have eB := bestO_c (raw := raw) hg3 fb3.fil
    have hcan := bt3.can hT3 hnr hrb
    have hbo : bestO F' raw = (bestS (ageL F' raw), true) := if_pos hcan
    rw [hbo] at eB
    obtain ⟨hB1, hB2⟩ := bt3.best hT3 hnr hrb
    have hnar := fun k s => bt3.narrow (k := k) (s := s) hnr hrb
    have hat := bt3.at hT3 hnr hrb
    obtain ⟨hu1, hu2⟩ := bt3.use hT3 hnr hrb
    have hsum : 1099511627776 + raw = frB + raw := rfl
    obtain ⟨R9, hR9⟩ : ∃ x, frB + raw = x := ⟨_, rfl⟩
    have s7 : IntKind.i64.wrap (1099511627776 + raw) = R9 := by rw [← hR9]; unfold frB; exact wr_i64 _ (by omega) (by omega)
    rw [hR9] at hB2
    obtain ⟨Bs, hBs⟩ : ∃ x, bestS (ageL F' raw) = x := ⟨_, rfl⟩
    rw [hBs] at eB hB1 hB2 hnar hat hu2
    obtain ⟨z1, z2, z3⟩ := Bs
    simp only at hB1 hB2
    obtain rfl : raw = z1 := hB1.symm
    have eH := fun g => span_Has (a := raw) (l := z2) (u := z3) (t := R9) g
    rw [hB2] at eH
    have eWB := fun g => span_Width (a := raw) (l := z2) (u := z3) g
    have hwB : wS (raw, z2, z3) = widS raw z2 z3 := rfl
    obtain ⟨WB, hWB⟩ : ∃ x, widS raw z2 z3 = x := ⟨_, rfl⟩
    rw [hWB] at eWB hwB
    obtain ⟨K, hK⟩ : ∃ Y, h3 ++ [(⟨.tip false, .ints .i64 [raw, z2, z3]⟩ : ABlk)] = Y := ⟨_, rfl⟩
    have kK : Keeps h3 K none := by rw [← hK]; exact Keeps.app h3 [⟨.tip false, .ints .i64 [raw, z2, z3]⟩] none rfl
    have bK : K[h3.length]? = some ⟨.tip false, .ints .i64 [raw, z2, z3]⟩ := by rw [← hK]; exact fend _ _ _
    have bKl := (List.getElem?_eq_some_iff.1 bK).1
    have fbK := fb3.kept kK
    have g3 : ¬ h3.length < g.length := by have := fb3.k.2.1; omega
    have s8 : IntKind.i64.wrap ((m : Int) - 1) = (m : Int) - 1 := wr_i64 _ (by omega) (by omega)
    have s9 : IntKind.i64.wrap ((m : Int) - 8) = (m : Int) - 8 := wr_i64 _ (by omega) (by omega)
    obtain ⟨m1, hm1'⟩ : ∃ x, (m : Int) - 1 = x := ⟨_, rfl⟩
    obtain ⟨m8, hm8'⟩ : ∃ x, (m : Int) - 8 = x := ⟨_, rfl⟩
    have s8' : IntKind.i64.wrap ((m : Int) - 1) = m1 := by rw [s8, hm1']
    have s9' : IntKind.i64.wrap ((m : Int) - 8) = m8 := by rw [s9, hm8']
    simp (maxDischargeDepth := 9) -implicitDefEqProofs only [push_cast, simprocAttr, nadd1, nadd2, nadd3, nadd4, nadd5, nadd6, nadd7, nadd8, nadd9, nadd10, nadd11, nadd12, ABlk.new, nv3, lv3, hm1, he1, wE, hi3, s5, s6, eB, hK, bK, bKl, s7, eH, s8', g3]
    refine wp_kSeq (wp_kBlock ?_)
    refine wp_loop (fun kk x hh ws => ∃ (k : Nat) (z : Int), kk = k ∧ k ≤ m ∧ z = (k : Int) - 1 ∧ x = [(2, lv), (3, bv), (4, wv), (5, .int .u32 e), (15, .ptr p 0), (17, .ptr rr 0), (19, .int .i64 n'), (20, .int .i64 F'.used), (21, v'), (22, .int .i64 (i : Int)), (24, .int .i64 raw), (25, .ptr h3.length 0), (27, .int .i64 z)] ∧ Keeps K hh none ∧ ws = []) m ?_ ?_
    · refine ⟨m, m1, rfl, by omega, by omega, ?_, Keeps.refl _ _, rfl⟩
      simp (maxDischargeDepth := 9) -implicitDefEqProofs only [push_cast, simprocAttr, nv3, nA, nB, nD]; try rfl
    rintro kk xx hh ws ⟨k, z, rfl, hk, hz, rfl, kh, rfl⟩
    have fbh := fbK.kept kh
    have hgh2 := fbh.k.2.2 hg
    have bh := keepsN kh _ _ bK
    have bhl := (List.getElem?_eq_some_iff.1 bh).1
    by_cases more : 0 ≤ z ∧ m8 ≤ z
    · obtain ⟨mz, mz8⟩ := more
      obtain ⟨k', hk'⟩ : ∃ k', kk = k' + 1 := ⟨kk - 1, by omega⟩
      obtain rfl : (k' : Int) = z := by omega
      obtain ⟨s, hs⟩ : ∃ s, T'[k']? = some s := ⟨_, List.getElem?_eq_getElem (by omega)⟩
      obtain ⟨ba', x1', x2', x3', x4', _⟩ := fbh.row.at hs
      have hcs := ob_can (bt3.ob s (List.mem_of_getElem? hs)) hnr hrb
      have hn := hnar k' s hs (by omega)
      have eA := Ruler_Age (a := s.1) (l := s.2.1) (u := s.2.2) (raw := raw) hgh2 fbh.rul
      have hc' : mayS s.1 s.2.1 s.2.2 = true ∧ s.1 ≤ raw ∧ raw ≤ 4611686018427387904 := hcs
      rw [if_pos hc'] at eA
      have hage : age1 t f raw s = (raw, bro (s.2.1 + downV t f (raw - s.1)), bro (s.2.2 + upV t f (raw - s.1))) := rfl
      rw [hage] at hn
      obtain ⟨A1, hA1⟩ : ∃ w, bro (s.2.1 + downV t f (raw - s.1)) = w := ⟨_, rfl⟩
      obtain ⟨A2, hA2⟩ : ∃ w, bro (s.2.2 + upV t f (raw - s.1)) = w := ⟨_, rfl⟩
      rw [hA1, hA2] at eA hn
      have eWA := fun g => span_Width (a := raw) (l := A1) (u := A2) g
      have hwA : wS (raw, A1, A2) = widS raw A1 A2 := rfl
      obtain ⟨WA, hWA⟩ : ∃ x, widS raw A1 A2 = x := ⟨_, rfl⟩
      rw [hWA] at eWA hwA
      rw [hwA, hwB] at hn
      clear hage hnar hat hu1 hu2
      obtain ⟨sx, sy, sz⟩ := s
      simp only at eA
      have s10 : IntKind.i64.wrap ((k' : Int) - 1) = (k' : Int) - 1 := wr_i64 _ (by omega) (by omega)
      obtain ⟨zz, hzz⟩ : ∃ x, (k' : Int) - 1 = x := ⟨_, rfl⟩
      have s10' : IntKind.i64.wrap ((k' : Int) - 1) = zz := by rw [s10, hzz]
      obtain ⟨J1, hJ1⟩ : ∃ Y, hh ++ [(⟨.tip false, .ints .i64 [raw, A1, A2]⟩ : ABlk)] = Y := ⟨_, rfl⟩
      have kJ1 : Keeps hh J1 none := by rw [← hJ1]; exact Keeps.app hh [⟨.tip false, .ints .i64 [raw, A1, A2]⟩] none rfl
      have bJ1 : J1[hh.length]? = some ⟨.tip false, .ints .i64 [raw, A1, A2]⟩ := by rw [← hJ1]; exact fend _ _ _
      have bJ1l := (List.getElem?_eq_some_iff.1 bJ1).1
      have bJK := keepsN kJ1 _ _ bh
      have bJKl := (List.getElem?_eq_some_iff.1 bJK).1
      have g4 : ¬ hh.length < g.length := by have := fbh.k.2.1; omega
      have g5 : ¬ J1.length ≤ h3.length := by omega
      simp (maxDischargeDepth := 9) -implicitDefEqProofs only [push_cast, simprocAttr, nadd1, nadd2, nadd3, nadd4, nadd5, nadd6, nadd7, nadd8, nadd9, nadd10, nadd11, nadd12, ABlk.new, nv3, lv3, mz, mz8, s9', ↓uia_eq, x1', ↓uld_eq 173, x2', eA, hJ1, bJ1, bJ1l, eWA, bJK, bJKl, eWB, hn, s10', g4, g5, decide_false, Bool.not_false, Bool.and_true]
      refine loop_next k' (by omega) ⟨k', zz, rfl, by omega, by omega, ?_, keepsT kh kJ1, rfl⟩
      simp (maxDischargeDepth := 9) -implicitDefEqProofs only [push_cast, simprocAttr, nv3, nA, nB, nD]; try simp
    -- behind the loop
    have g6 : g.length ≤ hh.length := fbh.k.2.1
    obtain ⟨X5, ws5, hw5, eU, nX5, fa5⟩ := use_c (raw := raw) hgh2 fbh.fil hrp
    have hw5' := wadd_p hp0 hw5
    have more' : (¬ 0 ≤ z ∧ True) ∨ (0 ≤ z ∧ ¬ m8 ≤ z) := by
      by_cases c : 0 ≤ z
      · exact Or.inr ⟨c, fun e => more ⟨c, e⟩⟩
      · exact Or.inl ⟨c, trivial⟩
    have fb5 := fbh.set hp0 hrrp nX5 fa5
    obtain ⟨U1, hU1⟩ : ∃ U, hh.set p X5 = U := ⟨_, rfl⟩
    have lU1 : U1.length = hh.length := by rw [← hU1]; exact List.length_set
    have b5 : U1[h3.length]? = some ⟨.tip false, .ints .i64 [raw, z2, z3]⟩ := by
      rw [← hU1, List.getElem?_set_ne ?_]
      · exact bh
      · have := (List.getElem?_eq_some_iff.1 fb3.fil.blk).1
        omega
    rw [hU1] at eU fb5
    have g7 : ¬ U1.length < g.length := by omega
    by_cases hu : (srcS F' raw).1 ≤ F'.used
    · -- it was used
      rw [hu1 hu] at eU fb5
      obtain ⟨U2, hU2⟩ : ∃ Y, U1 ++ [(⟨.tip false, .ints .i64 [0, 0, 0]⟩ : ABlk)] = Y := ⟨_, rfl⟩
      have kU2 : Keeps U1 U2 none := by rw [← hU2]; exact Keeps.app U1 [⟨.tip false, .ints .i64 [0, 0, 0]⟩] none rfl
      have fb6 := fb5.kept kU2
      have cU2 : U2[U1.length]? = some ⟨.tip false, .ints .i64 [0, 0, 0]⟩ := by rw [← hU2]; exact fend _ _ _
      have cU2l := (List.getElem?_eq_some_iff.1 cU2).1
      have sU2 := set_sameF cU2
      obtain ⟨X6, ws6, hw6, eV, nX6, fa6⟩ := use_c (raw := raw) (fb6.k.2.2 hg) fb6.fil hrp
      have hw6' := wadd_p hp0 hw6
      have fb7 := fb6.set hp0 hrrp nX6 fa6
      simp only [hu1 hu] at eV fb7
      obtain ⟨U3, hU3⟩ : ∃ U, U2.set p X6 = U := ⟨_, rfl⟩
      have lU3 : U3.length = U2.length := by rw [← hU3]; exact List.length_set
      rw [hU3] at eV fb7
      obtain ⟨U4, hU4⟩ : ∃ Y, U3 ++ [(⟨.tip false, .ints .i64 [0, 0, 0]⟩ : ABlk)] = Y := ⟨_, rfl⟩
      have kU4 : Keeps U3 U4 none := by rw [← hU4]; exact Keeps.app U3 [⟨.tip false, .ints .i64 [0, 0, 0]⟩] none rfl
      have fb8 := fb7.kept kU4
      have cU4 : U4[U3.length]? = some ⟨.tip false, .ints .i64 [0, 0, 0]⟩ := by rw [← hU4]; exact fend _ _ _
      have cU4l := (List.getElem?_eq_some_iff.1 cU4).1
      have sU4 := set_sameF cU4
      have g8 : ¬ U3.length < g.length := by have := kU2.2.1; omega
      rcases more' with ⟨mz, mz8⟩ | ⟨mz, mz8⟩
      all_goals
        simp (maxDischargeDepth := 9) -implicitDefEqProofs only [push_cast, simprocAttr, nadd1, nadd2, nadd3, nadd4, nadd5, nadd6, nadd7, nadd8, nadd9, nadd10, nadd11, nadd12, ABlk.new, nv3, lv3, nA, nB, nD, mz, mz8, s9', eU, hw5', hU2, cU2, cU2l, sU2, eV, hw6', hU4, cU4, cU4l, sU4, g7, g8, v1]
        refine loop_next (30 - (i + 1)) (by omega) ⟨i + 1, n', F', C', v', T', rfl, by omega, ?_, fb8, bt3, by omega, hnb.1, hnb.2.1, rfl⟩
        simp (maxDischargeDepth := 9) -implicitDefEqProofs only [push_cast, simprocAttr, nv3, nA, nB, nD]; try simp
    · -- it is used now
      obtain ⟨e1', bt5, e2', h0'⟩ := hu2 hu
      have hat := hat hu
      rw [e1'] at eU fb5
      obtain ⟨sr, hsr⟩ : ∃ x, (srcS F' raw).1 = x := ⟨_, rfl⟩
      rw [hsr] at fb5 bt5 e2' h0' hat
      obtain ⟨U2, hU2⟩ : ∃ Y, U1 ++ [(⟨.tip false, .ints .i64 [raw, z2, z3]⟩ : ABlk)] = Y := ⟨_, rfl⟩
      have kU2 : Keeps U1 U2 none := by rw [← hU2]; exact Keeps.app U1 [⟨.tip false, .ints .i64 [raw, z2, z3]⟩] none rfl
      have fb6 := fb5.kept kU2
      have c6 : U2[U1.length]? = some ⟨.tip false, .ints .i64 [raw, z2, z3]⟩ := by rw [← hU2]; exact fend _ _ _
      have c6l := (List.getElem?_eq_some_iff.1 c6).1
      have b6 := keepsN kU2 _ _ b5
      have b6l := (List.getElem?_eq_some_iff.1 b6).1
      rcases more' with ⟨mz, mz8⟩ | ⟨mz, mz8⟩
      all_goals
        simp (maxDischargeDepth := 9) -implicitDefEqProofs only [push_cast, simprocAttr, nadd1, nadd2, nadd3, nadd4, nadd5, nadd6, nadd7, nadd8, nadd9, nadd10, nadd11, nadd12, ABlk.new, nv3, lv3, nA, nB, nD, mz, mz8, s9', eU, hw5', hU2, c6, c6l, b6, b6l, sc3s, g7]
        refine wp_kSeq (wp_kSeq (wp_kBlock ?_))
        refine wp_loop (fun kk x h2 ws => ∃ j : Nat, kk = m - j ∧ j ≤ m ∧ x = [(2, lv), (3, bv), (4, wv), (5, .int .u32 e), (15, .ptr p 0), (17, .ptr rr 0), (19, .int .i64 n'), (20, .int .i64 F'.used), (21, v'), (22, .int .i64 (i : Int)), (24, .int .i64 raw), (30, .ptr U1.length 0), (32, .int .i64 (atT t f raw F'.used (raw, z2, z3) T' j)), (33, .int .i64 (j : Int))] ∧ Keeps U2 h2 none ∧ ws = []) m ?_ ?_
        · refine ⟨0, by omega, by omega, ?_, Keeps.refl _ _, rfl⟩
          simp (maxDischargeDepth := 9) -implicitDefEqProofs only [push_cast, simprocAttr, nv3, nA, nB, nD]; try rfl
        rintro kk x h2 ws ⟨j, rfl, hj, rfl, k6, rfl⟩
        have u1 : IntKind.i64.wrap ((j : Int) + 1) = (j : Int) + 1 := wr_i64 _ (by omega) (by omega)
        have fb7 := fb6.kept k6
        have hg7 := fb7.k.2.2 hg
        by_cases hjl : j < m
        · have hjl' : (j : Int) < (m : Int) := by omega
          obtain ⟨s, hs⟩ : ∃ s, T'[j]? = some s := ⟨_, List.getElem?_eq_getElem (by omega)⟩
          obtain ⟨ba', x1', x2', x3', x4'⟩ := fb7.row.at2 hs
          have hcs := ob_can (bt3.ob s (List.mem_of_getElem? hs)) hnr hrb
          have eA := Ruler_Age (a := s.1) (l := s.2.1) (u := s.2.2) (raw := raw) hg7 fb7.rul
          have hc' : mayS s.1 s.2.1 s.2.2 = true ∧ s.1 ≤ raw ∧ raw ≤ 4611686018427387904 := hcs
          rw [if_pos hc'] at eA
          have hage : age1 t f raw s = (raw, bro (s.2.1 + downV t f (raw - s.1)), bro (s.2.2 + upV t f (raw - s.1))) := rfl
          have hnx : atT t f raw F'.used (raw, z2, z3) T' (j + 1) = if age1 t f raw s = (raw, z2, z3) ∧ F'.used < s.1 then s.1 else atT t f raw F'.used (raw, z2, z3) T' j := by simp only [atT, hs]
          rw [hage] at hnx
          obtain ⟨A1, hA1⟩ : ∃ w, bro (s.2.1 + downV t f (raw - s.1)) = w := ⟨_, rfl⟩
          obtain ⟨A2, hA2⟩ : ∃ w, bro (s.2.2 + upV t f (raw - s.1)) = w := ⟨_, rfl⟩
          rw [hA1, hA2] at eA hnx
          obtain ⟨at0, hat0⟩ : ∃ w, atT t f raw F'.used (raw, z2, z3) T' j = w := ⟨_, rfl⟩
          rw [hat0] at hnx ⊢
          clear hage
          obtain ⟨sx, sy, sz⟩ := s
          simp only at eA hnx x3'
          obtain ⟨J1, hJ1⟩ : ∃ Y, h2 ++ [(⟨.tip false, .ints .i64 [raw, A1, A2]⟩ : ABlk)] = Y := ⟨_, rfl⟩
          have kJ1 : Keeps h2 J1 none := by rw [← hJ1]; exact Keeps.app h2 [⟨.tip false, .ints .i64 [raw, A1, A2]⟩] none rfl
          have bJ1 : J1[h2.length]? = some ⟨.tip false, .ints .i64 [raw, A1, A2]⟩ := by rw [← hJ1]; exact fend _ _ _
          have bJ1l := (List.getElem?_eq_some_iff.1 bJ1).1
          have bJK := keepsN kJ1 _ _ (keepsN k6 _ _ c6)
          have bJKl := (List.getElem?_eq_some_iff.1 bJK).1
          have g8 : ¬ h2.length < g.length := by have := fb7.k.2.1; omega
          obtain ⟨ba2, y1', y2', y3', y4'⟩ := (fb7.kept kJ1).row.at2 hs
          have hbb := (x1' []).symm.trans (y1' [])
          simp only [Option.some.injEq, Prod.mk.injEq, AV.ptr.injEq, and_true] at hbb
          subst hbb
          simp only at y3'
          obtain ⟨qb, hqb, hqe⟩ := sc3q .i64 raw A1 A2 raw z2 z3
          cases qb with
          | false =>
            have hno : ¬ ((raw, A1, A2) = (raw, z2, z3) ∧ F'.used < sx) := fun e => by have := hqe.2 e.1; cases this
            rw [if_neg hno] at hnx
            simp (maxDischargeDepth := 9) -implicitDefEqProofs only [push_cast, simprocAttr, nadd1, nadd2, nadd3, nadd4, nadd5, nadd6, nadd7, nadd8, nadd9, nadd10, nadd11, nadd12, ABlk.new, nv3, lv3, hjl', u1, ↓uia_eq, x1', ↓uld_eq 208, x2', eA, hJ1, bJ1, bJ1l, bJK, bJKl, hqb, g8]
            refine loop_next (m - (j + 1)) (by omega) ⟨j + 1, rfl, by omega, ?_, keepsT k6 kJ1, rfl⟩
            simp (maxDischargeDepth := 9) -implicitDefEqProofs only [push_cast, simprocAttr, nv3, nA, nB, nD, hnx]; try simp
          | true =>
            have hqe := hqe.1 rfl
            by_cases hgt : F'.used < sx
            · rw [if_pos ⟨hqe, hgt⟩] at hnx
              simp (maxDischargeDepth := 9) -implicitDefEqProofs only [push_cast, simprocAttr, nadd1, nadd2, nadd3, nadd4, nadd5, nadd6, nadd7, nadd8, nadd9, nadd10, nadd11, nadd12, ABlk.new, nv3, lv3, hjl', u1, ↓uia_eq, x1', ↓uld_eq 208, x2', eA, hJ1, bJ1, bJ1l, bJK, bJKl, hqb, ↓uld_eq 221, y3', hgt, ↓uld_eq 229, g8]
              refine loop_next (m - (j + 1)) (by omega) ⟨j + 1, rfl, by omega, ?_, keepsT k6 kJ1, rfl⟩
              simp (maxDischargeDepth := 9) -implicitDefEqProofs only [push_cast, simprocAttr, nv3, nA, nB, nD, hnx]; try simp
            · rw [if_neg fun e => hgt e.2] at hnx
              simp (maxDischargeDepth := 9) -implicitDefEqProofs only [push_cast, simprocAttr, nadd1, nadd2, nadd3, nadd4, nadd5, nadd6, nadd7, nadd8, nadd9, nadd10, nadd11, nadd12, ABlk.new, nv3, lv3, hjl', u1, ↓uia_eq, x1', ↓uld_eq 208, x2', eA, hJ1, bJ1, bJ1l, bJK, bJKl, hqb, ↓uld_eq 221, y3', hgt, g8]
              refine loop_next (m - (j + 1)) (by omega) ⟨j + 1, rfl, by omega, ?_, keepsT k6 kJ1, rfl⟩
              simp (maxDischargeDepth := 9) -implicitDefEqProofs only [push_cast, simprocAttr, nv3, nA, nB, nD, hnx]; try simp
        · have hjn : ¬ (j : Int) < (m : Int) := by omega
          have hjm : j = m := by omega
          rw [hjm, ← hm, hat]
          have h0n : ¬ sr < 0 := by omega
          rw [hm]
          rw [hjm] at hjn
          obtain ⟨X6, ws6, hw6, eV, nX6, fa6⟩ := use_c (raw := raw) hg7 fb7.fil hrp
          have hw6' := wadd_p hp0 hw6
          have fb8 := fb7.set hp0 hrrp nX6 fa6
          simp only [e2'] at eV fb8
          obtain ⟨U3, hU3⟩ : ∃ U, h2.set p X6 = U := ⟨_, rfl⟩
          have lU3 : U3.length = h2.length := by rw [← hU3]; exact List.length_set
          rw [hU3] at eV fb8
          obtain ⟨U4, hU4⟩ : ∃ Y, U3 ++ [(⟨.tip false, .ints .i64 [0, 0, 0]⟩ : ABlk)] = Y := ⟨_, rfl⟩
          have kU4 : Keeps U3 U4 none := by rw [← hU4]; exact Keeps.app U3 [⟨.tip false, .ints .i64 [0, 0, 0]⟩] none rfl
          have fb9 := fb8.kept kU4
          have cU4 : U4[U3.length]? = some ⟨.tip false, .ints .i64 [0, 0, 0]⟩ := by rw [← hU4]; exact fend _ _ _
          have cU4l := (List.getElem?_eq_some_iff.1 cU4).1
          have sU4 := set_sameF cU4
          have g8 : ¬ U3.length < g.length := by have := fb8.k.2.1; omega
          simp (maxDischargeDepth := 9) -implicitDefEqProofs only [push_cast, simprocAttr, nadd1, nadd2, nadd3, nadd4, nadd5, nadd6, nadd7, nadd8, nadd9, nadd10, nadd11, nadd12, ABlk.new, nv3, lv3, nA, nB, nD, hjn, h0n, eV, hw6', hU4, cU4, cU4l, sU4, g8, v1]
          refine loop_next (30 - (i + 1)) (by omega) ⟨i + 1, n', useF F' sr, C', v', T', rfl, by omega, ?_, fb9, bt5, by omega, hnb.1, hnb.2.1, rfl⟩
          simp (maxDischargeDepth := 9) -implicitDefEqProofs only [push_cast, simprocAttr, nv3, nA, nB, nD]
          try simp
          try rfl
theorem fbest_law (js : AHeap) (avs : List AV) (hx : Ext js) (ht : TyA (CP.gl ++ js) [.one (.i .u32), .one (.i .u32), .one (.sl [.i .u32]), .one (.sl [.i .u32]), .one (.sl [.i .u32]), .one (.i .u32)] avs) : ∃ h' ws, W CP 8 avs (CP.gl ++ js) = some (.bool true, h', ws) := by
  simp only [TyA] at ht
  obtain ⟨a, _, rfl, ha, b, _, rfl, hb, v, _, rfl, hv, u, _, rfl, hu, w, _, rfl, hw, c, _, rfl, hc, rfl⟩ := ht
  simp only [Ty] at ha hb hc
  obtain ⟨a, rfl, a0, a1⟩ := ha
  obtain ⟨b, rfl, b0, b1⟩ := hb
  obtain ⟨c, rfl, c0, c1⟩ := hc
  have e1 : IntKind.u32.min = 0 := rfl
  have e2 : IntKind.u32.max = 4294967295 := rfl
  refine W_law (m := M8) (fun _ => rfl) rfl (fbest_body (good_ext hx) (by omega) (by omega) (by omega) (by omega) (by omega) (by omega) hv hu hw) fun h0 => ?_
  simp only [AV.lts, Bool.and_eq_true] at h0
  exact fbest_body glG (by omega) (by omega) (by omega) (by omega) (by omega) (by omega) (ty_nil hv h0.2.2.1) (ty_nil hu h0.2.2.2.1) (ty_nil hw h0.2.2.2.2.1)
theorem fbest_kinds : aksOf X.P 20 [22, 22, 57, 57, 57, 22] = some [.one (.i .u32), .one (.i .u32), .one (.sl [.i .u32]), .one (.sl [.i .u32]), .one (.sl [.i .u32]), .one (.i .u32)] := by kernel_rfl
end Go.Proofs.YthcjmmngenogmaaW.AI.E

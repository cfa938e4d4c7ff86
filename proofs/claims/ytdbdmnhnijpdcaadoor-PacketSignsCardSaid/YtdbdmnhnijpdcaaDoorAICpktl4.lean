import Derived.Test.YtdbdmnhnijpdcaaDoorAICpktl3
namespace Go.Proofs.YtdbdmnhnijpdcaaDoorW.AI.C
open Go Go.Proofs.YtdbdmnhnijpdcaaDoorW.AI Go.Proofs.YtdbdmnhnijpdcaaDoorW.AI.Oct Go.RowKit
set_option maxRecDepth 100000
set_option linter.unusedSimpArgs false
set_option linter.unusedVariables false
set_option linter.unusedSectionVars false
theorem right_zero (P : Pk) (F : List (Int × List Int)) (A B : Int) : rightP P F 0 A B = false := by
  unfold rightP
  cases hm : mayP P F with
  | false => rfl
  | true =>
    obtain ⟨_, _, mS, _⟩ := mayP_parts hm
    unfold mayS at mS
    cases hs : P.s with
    | false => simp
    | true =>
      rw [hs] at mS
      have : ¬ P.p15 = 0 := by simpa using mS
      simp [this]
theorem right_id {P : Pk} {F : List (Int × List Int)} {id A B : Int} (h : P.p15 ≠ id) : rightP P F id A B = false := by
  unfold rightP
  simp [h]
theorem right_tag {P : Pk} {F : List (Int × List Int)} {id A B : Int} (h : tagI A B (bodyP P F) ≠ P.p16) : rightP P F id A B = false := by
  unfold rightP
  simp [h]
theorem right_bare {P : Pk} {F : List (Int × List Int)} {id A B : Int} (h : P.s = false) : rightP P F id A B = false := by
  unfold rightP
  simp [h]
theorem u32_in (p : Int) : 0 ≤ IntKind.u32.wrap p ∧ IntKind.u32.wrap p ≤ 4294967295 := by
  simp only [IntKind.wrap, IntKind.bits, IntKind.signed]
  simp
  omega
theorem two_arg {g : AHeap} {cs : List AV} (k : TyL g [.i .u64, .i .u64] cs) : ∃ a b, cs = [.int .u64 a, .int .u64 b] ∧ 0 ≤ b ∧ b ≤ 18446744073709551615 := by
  simp only [TyL] at k
  obtain ⟨_, _, rfl, t0, _, _, rfl, t1, rfl⟩ := k
  simp only [Ty] at t0 t1
  obtain ⟨n0, rfl, a0, b0⟩ := t0
  obtain ⟨n1, rfl, a1, b1⟩ := t1
  exact ⟨n0, n1, rfl, a1, b1⟩
set_option maxHeartbeats 64000000 in
theorem signs_body {g : AHeap} (hg : Good g) (ha : At0 g) {P : Pk} (ok : P.Ok) {x : AV} (hx : Ty g (.sl [.i .u16, .sl [.i .u8]]) x) {id A B o0 o1 : Int} (i0 : 0 ≤ id) (i1 : id ≤ 4294967295) (j0 : 0 ≤ o1) (j1 : o1 ≤ 18446744073709551615) :
    Wp (xbody (W CP) M13 [.agg (P.l x), .agg [.int .u32 id, .int .u64 A, .int .u64 B], .agg [.int .u64 o0, .int .u64 o1]] g) fun r => r.1 = .bool true := by
  obtain ⟨hxc, hnx, v, js, F, A', eF, row1, hG1, hF12, hFl, hv, hnv, b, c, mn, hvs, hb1, hb2⟩ := few_head hg (P := P) hx [⟨.tip false, .vals [.int .u32 id, .int .u64 A, .int .u64 B]⟩, ⟨.tip false, .ints .u64 [o0, o1]⟩] rfl
  have ha1 := (ha.app (⟨.tip false, .vals (P.l x)⟩ :: [⟨.tip false, .vals [.int .u32 id, .int .u64 A, .int .u64 B]⟩, ⟨.tip false, .ints .u64 [o0, o1]⟩])).app js
  have hc1 : ((g ++ (⟨.tip false, .vals (P.l x)⟩ :: [(⟨.tip false, .vals [.int .u32 id, .int .u64 A, .int .u64 B]⟩ : ABlk), ⟨.tip false, .ints .u64 [o0, o1]⟩])) ++ js)[g.length]? = some ⟨.tip false, .vals (P.l x)⟩ := by rw [List.append_assoc]; exact end_get _ _ _
  have hk1 : ((g ++ (⟨.tip false, .vals (P.l x)⟩ :: [(⟨.tip false, .vals [.int .u32 id, .int .u64 A, .int .u64 B]⟩ : ABlk), ⟨.tip false, .ints .u64 [o0, o1]⟩])) ++ js)[g.length + 1]? = some ⟨.tip false, .vals [.int .u32 id, .int .u64 A, .int .u64 B]⟩ := by rw [List.append_assoc, List.getElem?_append_right (by omega)]; simp
  have ho1 : ((g ++ (⟨.tip false, .vals (P.l x)⟩ :: [(⟨.tip false, .vals [.int .u32 id, .int .u64 A, .int .u64 B]⟩ : ABlk), ⟨.tip false, .ints .u64 [o0, o1]⟩])) ++ js)[g.length + 2]? = some ⟨.tip false, .ints .u64 [o0, o1]⟩ := by rw [List.append_assoc, List.getElem?_append_right (by omega)]; simp
  obtain ⟨H1, hH1⟩ : ∃ H1, (g ++ (⟨.tip false, .vals (P.l x)⟩ :: [(⟨.tip false, .vals [.int .u32 id, .int .u64 A, .int .u64 B]⟩ : ABlk), ⟨.tip false, .ints .u64 [o0, o1]⟩])) ++ js = H1 := ⟨_, rfl⟩
  rw [hH1] at eF row1 hG1 ha1 hc1 hk1 ho1 hb2
  clear hH1
  simp only [List.length_cons, List.length_nil] at hb1
  have l1 := (List.getElem?_eq_some_iff.1 hc1).1
  have hblk : ∀ p, blkS v = some p → g.length + 3 ≤ p := fun p e => by rcases hvs with h | h <;> subst h <;> cases e <;> omega
  have row2 := row1.set_vals (B := P.l v) hc1 (fun p e => by have := hblk p e; omega)
  have hG2 : Good (H1.set g.length ⟨.tip false, .vals (P.l v)⟩) := good_set hG1 rfl
  have ha2 : At0 (H1.set g.length ⟨.tip false, .vals (P.l v)⟩) := ⟨by
    have := ha.2
    rw [List.getElem?_set_ne (by omega)]; exact ha1.1, by rw [List.length_set]; exact ha1.2⟩
  have hc2 : (H1.set g.length ⟨.tip false, .vals (P.l v)⟩)[g.length]? = some ⟨.tip false, .vals (P.l v)⟩ := by rw [List.getElem?_set_self l1]
  have hk2 : (H1.set g.length ⟨.tip false, .vals (P.l v)⟩)[g.length + 1]? = some ⟨.tip false, .vals [.int .u32 id, .int .u64 A, .int .u64 B]⟩ := by rw [List.getElem?_set_ne (by omega)]; exact hk1
  have ho2 : (H1.set g.length ⟨.tip false, .vals (P.l v)⟩)[g.length + 2]? = some ⟨.tip false, .ints .u64 [o0, o1]⟩ := by rw [List.getElem?_set_ne (by omega)]; exact ho1
  have ex2 := row2.xr
  obtain ⟨H2, hH2⟩ : ∃ H2, H1.set g.length ⟨.tip false, .vals (P.l v)⟩ = H2 := ⟨_, rfl⟩
  have hl2 : H1.length = H2.length := by rw [← hH2]; simp
  rw [hH2] at hG2 ha2 hc2 hk2 ho2 ex2
  have m0 := (List.getElem?_eq_some_iff.1 hc2).1
  have m1 := (List.getElem?_eq_some_iff.1 hk2).1
  have m2 := (List.getElem?_eq_some_iff.1 ho2).1
  have hbt := ext_byt ex2
  have aw := fun h => awake_c h
  have lo2 : ¬ H2.length < g.length := by omega
  have hFl2 : ∀ z ∈ F, z.2.length < 1000000000 := fun z hz => by have := hFl z hz; omega
  have eS0 := psame_c (P := pk0) (Q := pk0) (ExtAt.nil (H2 ++ [⟨.tip false, .vals (pk0.l .nils)⟩])) rfl (ExtAt.nil _) rfl (good_app hG2 rfl) (by simp)
  rw [sameP_self] at eS0
  have eR0 := pright_c (P := P) (id := 0) (A := 0) (B := 0) ok (by omega) hFl2 hv (good_app (js := [⟨.tip false, .vals (pk0.l .nils)⟩]) hG2 rfl) (ha2.app _) (ex2.app _)
  rw [right_zero] at eR0
  cases hm : mayP (sgP P id 0) F with
  | false =>
    have eS := psign_bad (P := P) (A := A) (B := B) ok i0 i1 hm (by omega) hFl2 hv hG2 ex2
    simp only [pk0, Pk.l] at eF hc1 hH2 eS hc2 eS0 eR0
    simp (maxDischargeDepth := 9) -implicitDefEqProofs only [push_cast, simprocAttr, M13, nadd1, nadd2, nadd3, nadd4, nadd5, nadd6, nadd7, nadd8, nadd9, nadd10, nadd11, nadd12, Pk.l, hxc, hnx, hnv, hv, eF, hc1, l1, hH2, hc2, hk2, ho2, m0, m1, m2, eS, aw, lo2, eS0, eR0]
  | true =>
    by_cases hl : (putP (sgP P id 0) F).length ≤ 512
    · have hid : id ≠ 0 := by
        rintro rfl
        obtain ⟨_, _, mS, _⟩ := mayP_parts hm
        simp [mayS, sgP] at mS
      have hmB : (mayH P.p0 P.p1 P.p2 && mayX F) = true := by rw [may_sg hid] at hm; exact hm
      have hlt : v.lt H2.length = true := by rcases hvs with h | h <;> subst h <;> simp [AV.lt] <;> omega
      have eS := psign_ok (P := P) (A := A) (B := B) ok i0 i1 hm hl hv hG2 ha2 ex2 hlt
      obtain ⟨tg, htg⟩ : ∃ tg, tagI A B (bodyP P F) = tg := ⟨_, rfl⟩
      have htr := tag_range A B (bodyP P F)
      rw [htg] at eS htr
      have okT := sgP_ok (P := P) ok (id := id) (t := tg) i0 i1 htr.1 htr.2
      have hmT : mayP (sgP P id tg) F = true := by rw [may_sg hid]; exact hmB
      have hlT : (putP (sgP P id tg) F).length ≤ 512 := by
        rw [put_sg, List.length_append, signB_len] at hl ⊢; exact hl
      have hST : (sgP (sgP P id tg) id 0) = sgP P id 0 := rfl
      have hRT : rightP (sgP P id tg) F id A B = true := by
        unfold rightP
        rw [hmT, decide_eq_true hlT, body_sg, htg]
        simp [sgP]
      obtain ⟨T, hT⟩ : ∃ T, sgP P id tg = T := ⟨_, rfl⟩
      have hT13 : T.s = true ∧ T.p15 = id ∧ T.p16 = tg := by subst hT; exact ⟨rfl, rfl, rfl⟩
      have hTb : tagI A B (bodyP T F) = tg := by subst hT; exact htg
      have hTS : sgP T id (tagI A B (bodyP T F)) = T := by rw [hTb]; subst hT; rfl
      have hmT2 : mayP (sgP T id 0) F = true := by subst hT; rw [hST]; exact hm
      have hlT2 : (putP (sgP T id 0) F).length ≤ 512 := by subst hT; rw [hST]; exact hl
      have hmT3 : (mayH T.p0 T.p1 T.p2 && mayX F) = true := by subst hT; exact hmB
      rw [hT] at eS okT hmT hlT hRT
      obtain ⟨ts, t15, t16⟩ := hT13
      have hG3 : Good (H2 ++ [⟨.tip false, .vals (T.l v)⟩]) := good_app hG2 rfl
      have ex3 := ex2.app [⟨.tip false, .vals (T.l v)⟩]
      have ha3 := ha2.app [⟨.tip false, .vals (T.l v)⟩]
      obtain ⟨y, js3, eU, ty, my, hG4⟩ := pput_ok okT hmT hlT hv hG3 ha3 ex3
      have ex4 := ex3.app js3
      have ha4 := ha3.app js3
      have hT4 : ((H2 ++ [(⟨.tip false, .vals (T.l v)⟩ : ABlk)]) ++ js3)[H2.length]? = some ⟨.tip false, .vals (T.l v)⟩ := by rw [List.append_assoc]; exact end_get _ _ _
      have hk4 : ((H2 ++ [(⟨.tip false, .vals (T.l v)⟩ : ABlk)]) ++ js3)[g.length + 1]? = some ⟨.tip false, .vals [.int .u32 id, .int .u64 A, .int .u64 B]⟩ := by rw [List.append_assoc, List.getElem?_append_left m1]; exact hk2
      have ho4 : ((H2 ++ [(⟨.tip false, .vals (T.l v)⟩ : ABlk)]) ++ js3)[g.length + 2]? = some ⟨.tip false, .ints .u64 [o0, o1]⟩ := by rw [List.append_assoc, List.getElem?_append_left m2]; exact ho2
      have l24 : H2.length + 1 ≤ ((H2 ++ [(⟨.tip false, .vals (T.l v)⟩ : ABlk)]) ++ js3).length := by simp
      obtain ⟨H4, hH4⟩ : ∃ H4, (H2 ++ [(⟨.tip false, .vals (T.l v)⟩ : ABlk)]) ++ js3 = H4 := ⟨_, rfl⟩
      rw [hH4] at eU ty hG4 ex4 ha4 hT4 hk4 ho4 l24
      have ny := ty.na
      have cP := pparse_c hG4 ha4 (Or.inr (ty.src my (putP_byt hbt.1))) (by omega)
      rw [parse_putP okT hmT hbt.1 hbt.2 hlT] at cP
      obtain ⟨xv, l, js4, eP, xo, hG5⟩ := cP
      have c4 : xv.isCell = true := by rcases xo.gx.2 with ⟨rfl, _⟩ | ⟨_, _, _, rfl, _⟩ <;> rfl
      have n4 := na_slen xo.gx.slen
      have ex5 := ex4.app js4
      have ha5 := ha4.app js4
      have hT5 : (H4 ++ js4)[H2.length]? = some ⟨.tip false, .vals (T.l v)⟩ := by rw [List.getElem?_append_left (by omega)]; exact hT4
      have hk5 : (H4 ++ js4)[g.length + 1]? = some ⟨.tip false, .vals [.int .u32 id, .int .u64 A, .int .u64 B]⟩ := by rw [List.getElem?_append_left (by omega)]; exact hk4
      have ho5 : (H4 ++ js4)[g.length + 2]? = some ⟨.tip false, .ints .u64 [o0, o1]⟩ := by rw [List.getElem?_append_left (by omega)]; exact ho4
      have l45 : H4.length ≤ (H4 ++ js4).length := by simp
      obtain ⟨H5, hH5⟩ : ∃ H5, H4 ++ js4 = H5 := ⟨_, rfl⟩
      rw [hH5] at eP xo hG5 ex5 ha5 hT5 hk5 ho5 l45
      have ex6 := ex5.app [⟨.tip false, .vals (T.l xv)⟩]
      have ha6 := ha5.app [⟨.tip false, .vals (T.l xv)⟩]
      have hG6 := good_app (js := [⟨.tip false, .vals (T.l xv)⟩]) hG5 rfl
      have hlt6 : v.lt (H5 ++ [(⟨.tip false, .vals (T.l xv)⟩ : ABlk)]).length = true := by rcases hvs with h | h <;> subst h <;> simp [AV.lt] <;> omega
      have eS2 := psign_ok (P := T) (A := A) (B := B) okT i0 i1 hmT2 hlT2 hv hG6 ha6 ex6 hlt6
      rw [hTS] at eS2
      -- from here on the heap bears two more blocks
      have hG7 : Good (H5 ++ [⟨.tip false, .vals (T.l xv)⟩, ⟨.tip false, .vals (T.l v)⟩]) := good_app hG5 rfl
      have eR1 := pright_c (P := T) (id := id) (A := A) (B := B) okT (by omega) hFl2 hv hG7 (ha5.app _) (ex5.app _)
      have eR2 := pright_c (P := T) (id := id) (A := A) (B := B) okT (by omega) hFl2 c4 hG7 (ha5.app _) (xo.app _).ext
      have eSm := psame_c (P := T) (Q := T) (ex5.app [⟨.tip false, .vals (T.l xv)⟩, ⟨.tip false, .vals (T.l v)⟩]) hv (ex5.app _) hv hG7 (by omega)
      rw [hRT] at eR1 eR2
      rw [sameP_self] at eSm
      obtain ⟨w0, hw0⟩ : ∃ w0, IntKind.u32.wrap o0 = w0 := ⟨_, rfl⟩
      have hw0r := u32_in o0
      rw [hw0] at hw0r
      have hG8 : Good (H5 ++ [⟨.tip false, .vals (T.l xv)⟩, ⟨.tip false, .vals (T.l v)⟩, ⟨.tip false, .vals [.int .u32 w0, .int .u64 A, .int .u64 B]⟩]) := good_app hG5 rfl
      have eR3 := fun (hne : ¬ w0 = id) => by
        have := pright_c (P := T) (id := w0) (A := A) (B := B) okT (by omega) hFl2 hv hG8 (ha5.app _) (ex5.app _)
        rw [right_id (by rw [t15]; exact fun e => hne e.symm)] at this
        exact this
      have okT1 : ({ T with p16 := o1 } : Pk).Ok := ⟨okT.a0, okT.b0, okT.a1, okT.b1, okT.a2, okT.b2, okT.a3, okT.b3, okT.a4, okT.b4, okT.a5, okT.b5, okT.a6, okT.b6, okT.a7, okT.b7, okT.a8, okT.b8, okT.a9, okT.b9, okT.a10, okT.b10, okT.a11, okT.b11, okT.a12, okT.b12, okT.a15, okT.b15, j0, j1⟩
      have okT2 : ({ T with p15 := w0 } : Pk).Ok := ⟨okT.a0, okT.b0, okT.a1, okT.b1, okT.a2, okT.b2, okT.a3, okT.b3, okT.a4, okT.b4, okT.a5, okT.b5, okT.a6, okT.b6, okT.a7, okT.b7, okT.a8, okT.b8, okT.a9, okT.b9, okT.a10, okT.b10, okT.a11, okT.b11, okT.a12, okT.b12, hw0r.1, hw0r.2, okT.a16, okT.b16⟩
      have hG9 : ∀ z, Good (H5 ++ [⟨.tip false, .vals (T.l xv)⟩, ⟨.tip false, .vals (T.l v)⟩, ⟨.tip false, .vals [.int .u32 w0, .int .u64 A, .int .u64 B]⟩, ⟨.tip false, .vals z⟩]) := fun z => good_app hG5 rfl
      have eR4 := fun (hne : ¬ o1 = tg) => by
        have := pright_c (P := { T with p16 := o1 }) (id := id) (A := A) (B := B) okT1 (by omega) hFl2 hv (hG9 (Pk.l { T with p16 := o1 } v)) (ha5.app _) (ex5.app _)
        rw [right_tag (by show tagI A B (bodyP T F) ≠ o1; rw [hTb]; exact fun e => hne e.symm)] at this
        exact this
      have eR5 := fun (hne : ¬ w0 = id) => by
        have := pright_c (P := { T with p15 := w0 }) (id := id) (A := A) (B := B) okT2 (by omega) hFl2 hv (hG9 (Pk.l { T with p15 := w0 } v)) (ha5.app _) (ex5.app _)
        rw [right_id (by exact hne)] at this
        exact this
      have okB := bareP_ok okT
      have eR6 := pright_c (P := bareP T) (id := id) (A := A) (B := B) okB (by omega) hFl2 hv (hG9 ((bareP T).l v)) (ha5.app _) (ex5.app _)
      rw [right_bare rfl] at eR6
      have eM := pmay_c (P := bareP T) (ex5.app _) hv (hG9 ((bareP T).l v)) (by omega) hFl2
      rw [may_bare, hmT3] at eM
      have lo5 : ¬ H5.length < g.length := by omega
      have lo5b : ∀ k, ¬ H5.length + k < g.length := by omega
      have u0 : g.length + 1 < H5.length := by omega
      have u1 : g.length + 2 < H5.length := by omega
      have u2 : H2.length < H5.length := by omega
      have u3 : g.length + 1 < H4.length := by omega
      have u4 : g.length + 2 < H4.length := by omega
      have u5 : H2.length < H4.length := by omega
      obtain ⟨Tp0, Tp1, Tp2, Tp3, Tp4, Tp5, Tp6, Tp7, Tp8, Tp9, Tp10, Tp11, Tp12, Ts, Tp15, Tp16⟩ := T
      simp only at ts t15 t16
      subst ts t15 t16
      simp only [bareP, pk0, Pk.l] at eF hc1 hH2 eS hc2 eU hH4 hT4 eP hT5 eS2 eR1 eR2 eSm eR3 eR4 eR5 eR6 eM
      rcases Classical.propComplete (w0 = Tp15) with c5 | c5 <;> rcases Classical.propComplete (o1 = Tp16) with c6 | c6
      · simp (maxDischargeDepth := 9) -implicitDefEqProofs only [push_cast, simprocAttr, M13, nadd1, nadd2, nadd3, nadd4, nadd5, nadd6, nadd7, nadd8, nadd9, nadd10, nadd11, nadd12, Pk.l, hxc, hnx, hnv, hv, eF, hc1, l1, hH2, hc2, hk2, ho2, m0, m1, m2, eS, aw, lo2, eU, ny, eP, c4, n4, hT4, hk4, ho4, hT5, hk5, ho5, u0, u1, u2, u3, u4, u5, lo5, lo5b, eS2, eR1, eR2, eSm, hid, hw0, eR6, eM, c5, c6, decide_true, decide_false, Bool.not_true, Bool.not_false]
      · have eR4' := eR4 (of_eq_false c6)
        simp (maxDischargeDepth := 9) -implicitDefEqProofs only [push_cast, simprocAttr, M13, nadd1, nadd2, nadd3, nadd4, nadd5, nadd6, nadd7, nadd8, nadd9, nadd10, nadd11, nadd12, Pk.l, hxc, hnx, hnv, hv, eF, hc1, l1, hH2, hc2, hk2, ho2, m0, m1, m2, eS, aw, lo2, eU, ny, eP, c4, n4, hT4, hk4, ho4, hT5, hk5, ho5, u0, u1, u2, u3, u4, u5, lo5, lo5b, eS2, eR1, eR2, eSm, hid, hw0, eR6, eM, c5, c6, decide_true, decide_false, Bool.not_true, Bool.not_false, eR4']
      · have eR3' := eR3 (of_eq_false c5)
        have eR5' := eR5 (of_eq_false c5)
        simp (maxDischargeDepth := 9) -implicitDefEqProofs only [push_cast, simprocAttr, M13, nadd1, nadd2, nadd3, nadd4, nadd5, nadd6, nadd7, nadd8, nadd9, nadd10, nadd11, nadd12, Pk.l, hxc, hnx, hnv, hv, eF, hc1, l1, hH2, hc2, hk2, ho2, m0, m1, m2, eS, aw, lo2, eU, ny, eP, c4, n4, hT4, hk4, ho4, hT5, hk5, ho5, u0, u1, u2, u3, u4, u5, lo5, lo5b, eS2, eR1, eR2, eSm, hid, hw0, eR6, eM, c5, c6, decide_true, decide_false, Bool.not_true, Bool.not_false, eR3', eR5']
      · have eR3' := eR3 (of_eq_false c5)
        have eR5' := eR5 (of_eq_false c5)
        have eR4' := eR4 (of_eq_false c6)
        simp (maxDischargeDepth := 9) -implicitDefEqProofs only [push_cast, simprocAttr, M13, nadd1, nadd2, nadd3, nadd4, nadd5, nadd6, nadd7, nadd8, nadd9, nadd10, nadd11, nadd12, Pk.l, hxc, hnx, hnv, hv, eF, hc1, l1, hH2, hc2, hk2, ho2, m0, m1, m2, eS, aw, lo2, eU, ny, eP, c4, n4, hT4, hk4, ho4, hT5, hk5, ho5, u0, u1, u2, u3, u4, u5, lo5, lo5b, eS2, eR1, eR2, eSm, hid, hw0, eR6, eM, c5, c6, decide_true, decide_false, Bool.not_true, Bool.not_false, eR3', eR5', eR4']
    · have eS := psign_long (P := P) (A := A) (B := B) ok i0 i1 hm hl hv hG2 ha2 ex2
      simp only [pk0, Pk.l] at eF hc1 hH2 eS hc2 eS0 eR0
      simp (maxDischargeDepth := 9) -implicitDefEqProofs only [push_cast, simprocAttr, M13, nadd1, nadd2, nadd3, nadd4, nadd5, nadd6, nadd7, nadd8, nadd9, nadd10, nadd11, nadd12, Pk.l, hxc, hnx, hnv, hv, eF, hc1, l1, hH2, hc2, hk2, ho2, m0, m1, m2, eS, aw, lo2, eS0, eR0]
theorem signs_law (js : AHeap) (avs : List AV) (hx : Ext js) (ht : TyA (CP.gl ++ js) [.agg [.i .u8, .i .u8, .i .u8, .i .u8, .i .i8, .i .i8, .i .u32, .i .u32, .i .u32, .i .u64, .i .u64, .i .u64, .i .u64, .sl [.i .u16, .sl [.i .u8]], .b, .i .u32, .i .u64], .agg [.i .u32, .i .u64, .i .u64], .agg [.i .u64, .i .u64]] avs) : ∃ h' ws, W CP 13 avs (CP.gl ++ js) = some (.bool true, h', ws) := by
  simp only [TyA] at ht
  obtain ⟨cs, _, rfl, k0, ks, _, rfl, k1, os, _, rfl, k2, rfl⟩ := ht
  obtain ⟨P, x, rfl, ok, hxt⟩ := pk_arg k0
  obtain ⟨id, A, B, rfl, i0, i1⟩ := key_arg k1
  obtain ⟨o0, o1, rfl, j0, j1⟩ := two_arg k2
  refine W_law (m := M13) (fun _ => rfl) rfl (signs_body (pgood_ext hx) (at0_ext hx) ok hxt i0 i1 j0 j1) fun h0 => ?_
  simp only [AV.lts, AV.lt, Bool.and_eq_true] at h0
  exact signs_body pgood_gl at0_gl ok (ty_nil hxt h0.1.2.2.2.2.2.2.2.2.2.2.2.2.2.1) i0 i1 j0 j1
theorem signs_kinds : aksOf X.P 20 [29, 57, 65] = some [.agg [.i .u8, .i .u8, .i .u8, .i .u8, .i .i8, .i .i8, .i .u32, .i .u32, .i .u32, .i .u64, .i .u64, .i .u64, .i .u64, .sl [.i .u16, .sl [.i .u8]], .b, .i .u32, .i .u64], .agg [.i .u32, .i .u64, .i .u64], .agg [.i .u64, .i .u64]] := by kernel_rfl
end Go.Proofs.YtdbdmnhnijpdcaaDoorW.AI.C

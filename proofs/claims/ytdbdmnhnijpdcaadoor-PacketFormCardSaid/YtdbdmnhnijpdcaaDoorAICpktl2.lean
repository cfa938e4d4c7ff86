import Derived.Test.YtdbdmnhnijpdcaaDoorAICpktf2
namespace Go.Proofs.YtdbdmnhnijpdcaaDoorW.AI.C
open Go Go.Proofs.YtdbdmnhnijpdcaaDoorW.AI Go.Proofs.YtdbdmnhnijpdcaaDoorW.AI.Oct Go.RowKit
set_option maxRecDepth 100000
set_option linter.unusedSimpArgs false
set_option linter.unusedVariables false
set_option linter.unusedSectionVars false
def form2 : MCode := .seq (.reg [⟨some 63, .mv (.t 1), none⟩,
  ⟨some 64, .mv (.t 1), none⟩,
  ⟨some 65, .len none (.t 64), none⟩,
  ⟨some 66, .mnx false [(.t 65), (.c (.int .i64 600))], none⟩,
  ⟨some 67, .slc none 1 (.t 63) none (some (.t 66)) none, none⟩,
  ⟨some 1, .mv (.t 67), none⟩])
 (.seq (.reg [⟨some 69, .mv (.t 1), none⟩,
  ⟨some 70, .call 15 [(.t 69)], none⟩,
  ⟨some 68, .mv (.t 70), none⟩,
  ⟨some 71, .ex 0 (.t 68), none⟩,
  ⟨some 72, .ex 1 (.t 68), none⟩,
  ⟨some 9, .al (.vals [(.int .u8 0), (.int .u8 0), (.int .u8 0), (.int .u8 0), (.int .i8 0), (.int .i8 0), (.int .u32 0), (.int .u32 0), (.int .u32 0), (.int .u64 0), (.int .u64 0), (.int .u64 0), (.int .u64 0), .nils, (.bool false), (.int .u32 0), (.int .u64 0)]), none⟩,
  ⟨none, .st 17 (.t 9) (.t 71), none⟩,
  ⟨some 10, .mv (.t 72), none⟩])
 (.seq (.seq (.reg [⟨some 73, .mv (.t 10), none⟩,
  ⟨some 74, .bin .neq [] (.t 73) (.c (.int .i64 0)), none⟩])
 (.cond (.t 74)
 (.seq (.reg [⟨some 75, .call 18 [], none⟩,
  ⟨some 76, .mv (.t 75), none⟩,
  ⟨some 77, .ld (some 17) (.t 9), some (76, true)⟩,
  ⟨some 78, .bld [(.int .u8 0), (.int .u8 0), (.int .u8 0), (.int .u8 0), (.int .i8 0), (.int .i8 0), (.int .u32 0), (.int .u32 0), (.int .u32 0), (.int .u64 0), (.int .u64 0), (.int .u64 0), (.int .u64 0), .nils, (.bool false), (.int .u32 0), (.int .u64 0)] [], some (76, true)⟩,
  ⟨some 79, .call 32 [(.t 77), (.t 78)], some (76, true)⟩,
  ⟨some 80, .pick (.t 76) (.t 79) (.c (.bool false)), none⟩,
  ⟨some 4, .mv (.t 80), none⟩])
 (.ret))
 (.skip)))
 (.seq (.reg [⟨some 82, .ld (some 17) (.t 9), none⟩,
  ⟨some 83, .call 31 [(.t 82)], none⟩,
  ⟨some 81, .mv (.t 83), none⟩,
  ⟨some 84, .ex 0 (.t 81), none⟩,
  ⟨some 85, .ex 1 (.t 81), none⟩,
  ⟨some 11, .mv (.t 84), none⟩,
  ⟨some 12, .mv (.t 85), none⟩])
 (.seq (.reg [⟨some 86, .call 18 [], none⟩,
  ⟨some 87, .mv (.t 86), none⟩,
  ⟨some 88, .mv (.t 12), some (87, true)⟩,
  ⟨some 89, .bin .eql [] (.t 88) (.c (.int .i64 0)), some (87, true)⟩,
  ⟨some 90, .pick (.t 87) (.t 89) (.c (.bool false)), none⟩,
  ⟨some 91, .mv (.t 90), none⟩,
  ⟨some 92, .mv (.t 11), some (91, true)⟩,
  ⟨some 93, .mv (.t 1), some (91, true)⟩,
  ⟨some 94, .call 19 [(.t 92), (.t 93)], some (91, true)⟩,
  ⟨some 95, .pick (.t 91) (.t 94) (.c (.bool false)), none⟩,
  ⟨some 96, .mv (.t 95), none⟩,
  ⟨some 97, .ld (some 17) (.t 9), some (96, true)⟩,
  ⟨some 98, .call 33 [(.t 97)], some (96, true)⟩,
  ⟨some 99, .pick (.t 96) (.t 98) (.c (.bool false)), none⟩,
  ⟨some 4, .mv (.t 99), none⟩])
 (.ret)))))
theorem form_parts : M9 = ⟨.seq (.reg [⟨some 2, .bx none 17 (.t 0), none⟩,
  ⟨some 4, .mv (.c (.bool false)), none⟩])
 (.seq (.reg [⟨some 13, .ld (some 17) (.t 2), none⟩,
  ⟨some 14, .call 30 [(.t 13)], none⟩,
  ⟨none, .st 17 (.t 2) (.t 14), none⟩])
 (.seq (.reg [⟨some 16, .ld (some 17) (.t 2), none⟩,
  ⟨some 17, .call 31 [(.t 16)], none⟩,
  ⟨some 15, .mv (.t 17), none⟩,
  ⟨some 18, .ex 0 (.t 15), none⟩,
  ⟨some 19, .ex 1 (.t 15), none⟩,
  ⟨some 5, .mv (.t 18), none⟩,
  ⟨some 6, .mv (.t 19), none⟩])
 (.seq (.seq (.reg [⟨some 20, .mv (.t 6), none⟩,
  ⟨some 21, .bin .eql [] (.t 20) (.c (.int .i64 0)), none⟩])
 (.cond (.t 21)
 (.seq (.reg [⟨some 23, .mv (.t 5), none⟩,
  ⟨some 24, .call 15 [(.t 23)], none⟩,
  ⟨some 22, .mv (.t 24), none⟩,
  ⟨some 25, .ex 0 (.t 22), none⟩,
  ⟨some 26, .ex 1 (.t 22), none⟩,
  ⟨some 7, .al (.vals [(.int .u8 0), (.int .u8 0), (.int .u8 0), (.int .u8 0), (.int .i8 0), (.int .i8 0), (.int .u32 0), (.int .u32 0), (.int .u32 0), (.int .u64 0), (.int .u64 0), (.int .u64 0), (.int .u64 0), .nils, (.bool false), (.int .u32 0), (.int .u64 0)]), none⟩,
  ⟨none, .st 17 (.t 7) (.t 25), none⟩,
  ⟨some 8, .mv (.t 26), none⟩])
 (.seq (.reg [⟨some 27, .mv (.t 8), none⟩,
  ⟨some 28, .bin .neq [] (.t 27) (.c (.int .i64 0)), none⟩,
  ⟨some 29, .mv (.t 28), none⟩,
  ⟨some 30, .ld (some 17) (.t 2), some (29, false)⟩,
  ⟨some 31, .ld (some 17) (.t 7), some (29, false)⟩,
  ⟨some 32, .call 32 [(.t 30), (.t 31)], some (29, false)⟩,
  ⟨some 33, .un .not (.t 32), some (29, false)⟩,
  ⟨some 34, .pick (.t 29) (.c (.bool true)) (.t 33), none⟩,
  ⟨some 35, .mv (.t 34), none⟩,
  ⟨some 36, .ld (some 17) (.t 2), some (35, false)⟩,
  ⟨some 37, .call 33 [(.t 36)], some (35, false)⟩,
  ⟨some 38, .un .not (.t 37), some (35, false)⟩,
  ⟨some 39, .pick (.t 35) (.c (.bool true)) (.t 38), none⟩,
  ⟨some 40, .mv (.t 39), none⟩,
  ⟨some 41, .mv (.t 5), some (40, false)⟩,
  ⟨some 42, .len none (.t 41), some (40, false)⟩,
  ⟨some 43, .bin .gtr [] (.t 42) (.c (.int .i64 512)), some (40, false)⟩,
  ⟨some 44, .pick (.t 40) (.c (.bool true)) (.t 43), none⟩])
 (.cond (.t 44)
 (.seq (.reg [⟨some 4, .mv (.c (.bool false)), none⟩])
 (.ret))
 (.skip))))
 (.seq (.reg [⟨some 45, .mv (.t 5), none⟩,
  ⟨some 46, .len none (.t 45), none⟩,
  ⟨some 47, .bin .gtr [] (.t 46) (.c (.int .i64 0)), none⟩,
  ⟨some 48, .mv (.t 47), none⟩,
  ⟨some 49, .mv (.t 6), some (48, false)⟩,
  ⟨some 50, .bin .neq [] (.t 49) (.c (.int .i64 1)), some (48, false)⟩,
  ⟨some 51, .mv (.t 50), some (48, false)⟩,
  ⟨some 52, .mv (.t 6), some (51, true)⟩,
  ⟨some 53, .bin .neq [] (.t 52) (.c (.int .i64 3)), some (51, true)⟩,
  ⟨some 54, .pick (.t 51) (.t 53) (.c (.bool false)), some (48, false)⟩,
  ⟨some 55, .pick (.t 48) (.c (.bool true)) (.t 54), none⟩,
  ⟨some 56, .mv (.t 55), none⟩,
  ⟨some 57, .mv (.t 6), some (56, false)⟩,
  ⟨some 58, .bin .eql [] (.t 57) (.c (.int .i64 1)), some (56, false)⟩,
  ⟨some 59, .ld (some 17) (.t 2), some (56, false)⟩,
  ⟨some 60, .call 33 [(.t 59)], some (56, false)⟩,
  ⟨some 61, .bin .eql [1] (.t 58) (.t 60), some (56, false)⟩,
  ⟨some 62, .pick (.t 56) (.c (.bool true)) (.t 61), none⟩])
 (.cond (.t 62)
 (.seq (.reg [⟨some 4, .mv (.c (.bool false)), none⟩])
 (.ret))
 (.skip)))))
 form2))),
 [.tmp 4], true⟩ := rfl
def EndsD (o : AOut) : Prop := ∃ a h ws, o = (.ret, a, h, ws) ∧ look a 4 = some (.bool true)
theorem wp_endsD {x : Option AOut} (h : Wp x EndsD) : Wp (kRes [.tmp 4] x) fun r => r.1 = .bool true := by
  obtain ⟨o, rfl, a, h, ws, rfl, e⟩ := h
  refine ⟨(.bool true, h, ws), ?_, rfl⟩
  simp only [kRes, ares, aresL, ares1, aeval, e, Option.bind_some, Option.map_some]
/-- Bytes that were handed in. -/
structure BArg (X : AHeap) (bv : AV) (D : List Int) : Prop where
  b : BV X bv D
  l : D.length ≤ 9223372036854775807
  s : ∀ m, m ≤ D.length → SV X (cutX bv m) (D.take m)
theorem BArg.app {X : AHeap} {bv : AV} {D : List Int} (a : BArg X bv D) (js : AHeap) : BArg (X ++ js) bv D := ⟨a.b.app js, a.l, fun m hm => (a.s m hm).app' js⟩
theorem BArg.set_vals {X : AHeap} {bv : AV} {D : List Int} {q : Nat} {A B : List AV} (a : BArg X bv D) (hq : X[q]? = some ⟨.tip false, .vals A⟩) : BArg (X.set q ⟨.tip false, .vals B⟩) bv D :=
  ⟨a.b.set_vals hq, a.l, fun m hm => by
    rcases a.s m hm with h | h
    · exact Or.inl h
    · exact Or.inr (h.set_vals hq)⟩
theorem parseP_ne {D : List Int} {z : Int} (h : parseP D = .err z) : z ≠ 0 := by
  unfold parseP at h
  split at h
  · cases h; decide
  split at h
  · cases h; decide
  split at h
  · split at h
    · cases hp : parseX 9 [] (D.drop 48) with
      | err y => rw [hp] at h; cases h; exact parseX_ne _ _ _ _ hp
      | ok F T =>
        rw [hp] at h
        simp only [parseQ] at h
        split at h
        · cases h
        · split at h
          · cases h; decide
          · cases h
    · cases h; decide
  · cases h; decide
set_option maxHeartbeats 16000000 in
theorem form2_w {X : AHeap} (hg : Good X) (ha : At0 X) {a : Acts} {bv : AV} {Df : List Int} {base : Nat} (h1 : look a 1 = some bv) (hb : BArg X bv Df) (hbase : base ≤ X.length) : Wp (xexec (W CP) base form2 a X []) EndsD := by
  obtain ⟨bD, lD, sD⟩ := hb
  obtain ⟨N, hN⟩ : ∃ N, Df.length = N := ⟨_, rfl⟩
  have hnb := bD.na
  have hlb := bD.len
  rw [hN] at hlb lD
  obtain ⟨m, hm, hm2, hmin⟩ : ∃ m : Nat, m ≤ N ∧ m ≤ 600 ∧ (if (600 : Int) < (N : Int) then (600 : Int) else (N : Int)) = (m : Int) := by
    by_cases hc : 600 < N
    · exact ⟨600, by omega, by omega, by rw [if_pos (by omega)]; rfl⟩
    · exact ⟨N, by omega, by omega, by rw [if_neg (by omega)]⟩
  have e1 := fun h => slcV_hi (h := h) bD (show m ≤ Df.length by omega)
  have bcut := bD.take (show m ≤ Df.length by omega)
  have acut := bcut.na
  have sv := sD m (by omega)
  have hcl : (Df.take m).length = m := by rw [List.length_take]; omega
  have hB := bcut.1
  obtain ⟨D, hD⟩ : ∃ D, Df.take m = D := ⟨_, rfl⟩
  rw [hD] at bcut sv hcl hB
  obtain ⟨x, hx⟩ : ∃ x, cutX bv m = x := ⟨_, rfl⟩
  rw [hx] at e1 bcut acut sv
  clear hx
  have aw := fun h => awake_c h
  have lo0 : ¬ X.length < base := by omega
  have cP := pparse_c hg ha sv (by omega)
  cases hp : parseP D with
  | err z =>
    rw [hp] at cP
    have eP : W CP 15 [x] X = some (.tup [.agg (pk0.l .nils), .int .i64 z], X, []) := cP
    have eS := psame_c (P := pk0) (Q := pk0) (ExtAt.nil (X ++ [⟨.tip false, .vals (pk0.l .nils)⟩])) rfl (ExtAt.nil _) rfl (good_app hg rfl) (by simp)
    rw [sameP_self] at eS
    have hz : ¬ z = 0 := parseP_ne hp
    simp only [pk0, Pk.l] at eP eS
    simp (maxDischargeDepth := 9) -implicitDefEqProofs only [push_cast, simprocAttr, form2, nadd1, nadd2, nadd3, nadd4, nadd5, nadd6, nadd7, nadd8, nadd9, nadd10, nadd11, nadd12, h1, hnb, hlb, hmin, ↓slc_eqH, e1, acut, eP, hz, aw, eS, lo0]
    exact ⟨_, _, _, rfl, by simp (maxDischargeDepth := 9) -implicitDefEqProofs only [push_cast, simprocAttr]⟩
  | ok P F =>
    rw [hp] at cP
    obtain ⟨okP, f8, fN⟩ := parseP_fine hB hp
    obtain ⟨hmP, hput, h512⟩ := put_parseP hB hp
    obtain ⟨xv, l, js, eP, xo, hG1⟩ := cP
    have k1 := keeps_good hG1
    have ha1 := ha.app js
    have bx1 := bcut.app js
    obtain ⟨H1, hH1⟩ : ∃ H1, X ++ js = H1 := ⟨_, rfl⟩
    rw [hH1] at eP xo hG1 k1 ha1 bx1
    have c1 : xv.isCell = true := by rcases xo.gx.2 with ⟨rfl, _⟩ | ⟨_, _, _, rfl, _⟩ <;> rfl
    have hG2 := good_app (js := [⟨.tip false, .vals (P.l xv)⟩]) hG1 rfl
    have xo2 := xo.app [⟨.tip false, .vals (P.l xv)⟩]
    obtain ⟨y, js2, eU, ty, _, hG3⟩ := pput_ok okP hmP (by rw [hput]; omega) c1 hG2 (ha1.app _) xo2.ext
    rw [hput] at ty
    have hb3 : ((H1 ++ [(⟨.tip false, .vals (P.l xv)⟩ : ABlk)]) ++ js2)[H1.length]? = some ⟨.tip false, .vals (P.l xv)⟩ := by rw [List.append_assoc]; exact end_get _ _ _
    have xo3 := xo2.app js2
    have bx3 := (bx1.app [⟨.tip false, .vals (P.l xv)⟩]).app js2
    obtain ⟨H3, hH3⟩ : ∃ H3, (H1 ++ [(⟨.tip false, .vals (P.l xv)⟩ : ABlk)]) ++ js2 = H3 := ⟨_, rfl⟩
    rw [hH3] at eU ty hG3 hb3 xo3 bx3
    have l3 := (List.getElem?_eq_some_iff.1 hb3).1
    have eE := equal_c hG3 (ty.bv hB) bx3
    rw [decide_eq_true rfl] at eE
    have eM := pmay_c (P := P) xo3.ext c1 hG3 (by omega) (fun z hz => by have := mayN_le (fN z hz); omega)
    rw [hmP] at eM
    have nv := na_slen xo.gx.slen
    have ny := ty.na
    have lo1 : ¬ H1.length < base := by have := k1.2.1; omega
    simp only [Pk.l] at eP eU hb3 eM
    simp (maxDischargeDepth := 9) -implicitDefEqProofs only [push_cast, simprocAttr, form2, nadd1, nadd2, nadd3, nadd4, nadd5, nadd6, nadd7, nadd8, nadd9, nadd10, nadd11, nadd12, h1, hnb, hlb, hmin, ↓slc_eqH, e1, acut, eP, c1, nv, eU, ny, hb3, l3, aw, eE, eM, lo1]
    exact ⟨_, _, _, rfl, by simp (maxDischargeDepth := 9) -implicitDefEqProofs only [push_cast, simprocAttr]⟩
set_option maxHeartbeats 16000000 in
theorem form_body {g : AHeap} (hg : Good g) (ha : At0 g) {P : Pk} (ok : P.Ok) {x bv : AV} (hx : Ty g (.sl [.i .u16, .sl [.i .u8]]) x) (hbv : Ty g (.sl [.i .u8]) bv) : Wp (xbody (W CP) M9 [.agg (P.l x), bv] g) fun r => r.1 = .bool true := by
  obtain ⟨Df, bD, lD, sD⟩ := arg_cut hbv
  have hb : BArg g bv Df := ⟨bD, lD, sD⟩
  obtain ⟨F0, A0, row0⟩ := RowX.ty_gl hx
  have hxc := row_cell row0
  have hnx := na_slen row0.xr.len
  have hnb := bD.na
  have hG0 : Good (g ++ [⟨.tip false, .vals (P.l x)⟩]) := good_app hg rfl
  obtain ⟨v, js, A, eF, row1, hG1, p, hp, hpl⟩ := pfew_c (P := P) hG0 (row0.app [⟨.tip false, .vals (P.l x)⟩])
  have hb1 := (hb.app [⟨.tip false, .vals (P.l x)⟩]).app js
  have ha1 := (ha.app [⟨.tip false, .vals (P.l x)⟩]).app js
  have hc1 : ((g ++ [(⟨.tip false, .vals (P.l x)⟩ : ABlk)]) ++ js)[g.length]? = some ⟨.tip false, .vals (P.l x)⟩ := by rw [List.append_assoc]; exact end_get _ _ _
  obtain ⟨H1, hH1⟩ : ∃ H1, (g ++ [(⟨.tip false, .vals (P.l x)⟩ : ABlk)]) ++ js = H1 := ⟨_, rfl⟩
  rw [hH1] at eF row1 hG1 hb1 ha1 hc1
  clear hH1
  have l1 := (List.getElem?_eq_some_iff.1 hc1).1
  have hpl2 : g.length + 1 ≤ p := by simpa using hpl
  have row2 := row1.set_vals (B := P.l v) hc1 (fun q e => by rw [hp] at e; cases e; omega)
  have hb2 := hb1.set_vals (B := P.l v) hc1
  have hG2 : Good (H1.set g.length ⟨.tip false, .vals (P.l v)⟩) := good_set hG1 rfl
  have hc2 : (H1.set g.length ⟨.tip false, .vals (P.l v)⟩)[g.length]? = some ⟨.tip false, .vals (P.l v)⟩ := by rw [List.getElem?_set_self l1]
  have ha2 : At0 (H1.set g.length ⟨.tip false, .vals (P.l v)⟩) := ⟨by
    have := ha.2
    rw [List.getElem?_set_ne (by omega)]; exact ha1.1, by rw [List.length_set]; exact ha1.2⟩
  have hv := row_cell row1
  have hnv := na_slen row1.xr.len
  have hvs : ∃ b c mn, v = .sl b 0 (fewX F0).length c ∨ v = .gsl b 0 (fewX F0).length 2 mn := by
    rcases row1.sh with ⟨rfl, _⟩ | ⟨b, c, _, mn, ⟨e, _⟩ | e, _⟩
    · cases hp
    · exact ⟨b, c, false, Or.inl e⟩
    · exact ⟨b, 0, mn, Or.inr e⟩
  have hF12 : (fewX F0).length ≤ 12 := by rw [fewX_len]; omega
  have hFl := fewX_lens F0
  obtain ⟨F, hF⟩ : ∃ F, fewX F0 = F := ⟨_, rfl⟩
  rw [hF] at row2 hvs hF12 hFl
  have ex2 := row2.xr
  obtain ⟨H2, hH2⟩ : ∃ H2, H1.set g.length ⟨.tip false, .vals (P.l v)⟩ = H2 := ⟨_, rfl⟩
  rw [hH2] at hb2 hG2 hc2 ha2 ex2
  have l2 : g.length < H2.length := (List.getElem?_eq_some_iff.1 hc2).1
  have eM := pmay_c (P := P) ex2 hv hG2 (by omega) (fun z hz => by have := hFl z hz; omega)
  have lo : ¬ g.length < g.length := by omega
  rw [form_parts]
  have hbt := ext_byt ex2
  cases hm : mayP P F with
  | false =>
    have eU := pput_bad (P := P) hm (by omega) (fun z hz => by have := hFl z hz; omega) hv hG2 ex2
    rw [hm] at eM
    simp only [Pk.l] at eF hc1 hc2 hH2 eU eM
    obtain ⟨b, c, mn, e | e⟩ := hvs <;> subst e
    all_goals
      simp (maxDischargeDepth := 9) -implicitDefEqProofs only [push_cast, simprocAttr, nadd1, nadd2, nadd3, nadd4, nadd5, nadd6, nadd7, nadd8, nadd9, nadd10, nadd11, nadd12, Pk.l, hxc, hnx, hnb, eF, hc1, l1, hH2, hc2, l2, hnv, eU, eM]
      exact wp_endsD (form2_w hG2 ha2 (by simp (maxDischargeDepth := 9) -implicitDefEqProofs only [push_cast, simprocAttr, hnb]) hb2 (by omega))
  | true =>
    rw [hm] at eM
    by_cases hl : (putP P F).length ≤ 512
    · obtain ⟨y, js3, eU, ty, my, hG3⟩ := pput_ok ok hm hl hv hG2 ha2 ex2
      have hB := putP_byt (P := P) hbt.1
      have hb3 := hb2.app js3
      have ha3 := ha2.app js3
      have hc3 : (H2 ++ js3)[g.length]? = some ⟨.tip false, .vals (P.l v)⟩ := by rw [List.getElem?_append_left l2]; exact hc2
      have ex3 := ex2.app js3
      have l23 : H2.length ≤ (H2 ++ js3).length := by simp
      obtain ⟨H3, hH3⟩ : ∃ H3, H2 ++ js3 = H3 := ⟨_, rfl⟩
      rw [hH3] at eU ty hG3 hb3 ha3 hc3 ex3 l23
      have cP := pparse_c hG3 ha3 (Or.inr (ty.src my hB)) (by omega)
      rw [parse_putP ok hm hbt.1 hbt.2 hl] at cP
      obtain ⟨xv, l, js4, eP, xo, hG4⟩ := cP
      have c4 : xv.isCell = true := by rcases xo.gx.2 with ⟨rfl, _⟩ | ⟨_, _, _, rfl, _⟩ <;> rfl
      have n4 := na_slen xo.gx.slen
      have hb5 := (hb3.app js4).app [⟨.tip false, .vals (P.l xv)⟩]
      have ha5 := (ha3.app js4).app [⟨.tip false, .vals (P.l xv)⟩]
      have hG5 := good_app (js := [⟨.tip false, .vals (P.l xv)⟩]) hG4 rfl
      have ex5 := (ex3.app js4).app [⟨.tip false, .vals (P.l xv)⟩]
      have xo5 := xo.app [⟨.tip false, .vals (P.l xv)⟩]
      have hc5 : ((H3 ++ js4) ++ [(⟨.tip false, .vals (P.l xv)⟩ : ABlk)])[g.length]? = some ⟨.tip false, .vals (P.l v)⟩ := by
        rw [List.append_assoc, List.getElem?_append_left (List.getElem?_eq_some_iff.1 hc3).1]; exact hc3
      obtain ⟨H4, hH4⟩ : ∃ H4, H3 ++ js4 = H4 := ⟨_, rfl⟩
      have l34 : H3.length ≤ H4.length := by rw [← hH4]; simp
      rw [hH4] at eP hb5 ha5 hG5 ex5 xo5 hc5
      have eS := psame_c (P := P) (Q := P) ex5 hv xo5.ext c4 hG5 (by omega)
      rw [sameP_self] at eS
      have eM5 := pmay_c (P := P) ex5 hv hG5 (by omega) (fun z hz => by have := hFl z hz; omega)
      rw [hm] at eM5
      have ny := ty.na
      have ly := ty.slen
      obtain ⟨n, hn⟩ : ∃ n, (putP P F).length = n := ⟨_, rfl⟩
      rw [hn] at ly hl
      have hl' : ¬ (512 : Int) < (n : Int) := by omega
      have lo4 : ¬ H4.length < g.length := by omega
      have l4 : g.length < H4.length := by omega
      simp only [Pk.l] at eF hc1 hc2 hH2 eU eP hc5 eS eM5
      obtain ⟨b, c, mn, e | e⟩ := hvs <;> subst e
      all_goals
        simp (maxDischargeDepth := 9) -implicitDefEqProofs only [push_cast, simprocAttr, nadd1, nadd2, nadd3, nadd4, nadd5, nadd6, nadd7, nadd8, nadd9, nadd10, nadd11, nadd12, Pk.l, hxc, hnx, hnb, eF, hc1, l1, hH2, hc2, l2, hnv, eU, ny, eP, c4, n4, hc5, l4, eS, eM5, ly, hl', lo4]
        exact wp_endsD (form2_w hG5 ha5 (by simp (maxDischargeDepth := 9) -implicitDefEqProofs only [push_cast, simprocAttr, hnb]) hb5 (by simp; omega))
    · have eU := pput_long ok hm hl hv hG2 ha2 ex2
      simp only [Pk.l] at eF hc1 hc2 hH2 eU eM
      obtain ⟨b, c, mn, e | e⟩ := hvs <;> subst e
      all_goals
        simp (maxDischargeDepth := 9) -implicitDefEqProofs only [push_cast, simprocAttr, nadd1, nadd2, nadd3, nadd4, nadd5, nadd6, nadd7, nadd8, nadd9, nadd10, nadd11, nadd12, Pk.l, hxc, hnx, hnb, eF, hc1, l1, hH2, hc2, l2, hnv, eU, eM]
        exact wp_endsD (form2_w hG2 ha2 (by simp (maxDischargeDepth := 9) -implicitDefEqProofs only [push_cast, simprocAttr, hnb]) hb2 (by omega))
theorem form_law (js : AHeap) (avs : List AV) (hx : Ext js) (ht : TyA (CP.gl ++ js) [.agg [.i .u8, .i .u8, .i .u8, .i .u8, .i .i8, .i .i8, .i .u32, .i .u32, .i .u32, .i .u64, .i .u64, .i .u64, .i .u64, .sl [.i .u16, .sl [.i .u8]], .b, .i .u32, .i .u64], .one (.sl [.i .u8])] avs) : ∃ h' ws, W CP 9 avs (CP.gl ++ js) = some (.bool true, h', ws) := by
  simp only [TyA] at ht
  obtain ⟨cs, _, rfl, k0, bv, _, rfl, hb, rfl⟩ := ht
  obtain ⟨P, x, rfl, ok, hxt⟩ := pk_arg k0
  refine W_law (m := M9) (fun _ => rfl) rfl (form_body (pgood_ext hx) (at0_ext hx) ok hxt hb) fun h0 => ?_
  simp only [AV.lts, AV.lt, Bool.and_eq_true] at h0
  exact form_body pgood_gl at0_gl ok (ty_nil hxt h0.1.2.2.2.2.2.2.2.2.2.2.2.2.2.1) (ty_nil hb h0.2.1)
theorem form_kinds : aksOf X.P 20 [29, 22] = some [.agg [.i .u8, .i .u8, .i .u8, .i .u8, .i .i8, .i .i8, .i .u32, .i .u32, .i .u32, .i .u64, .i .u64, .i .u64, .i .u64, .sl [.i .u16, .sl [.i .u8]], .b, .i .u32, .i .u64], .one (.sl [.i .u8])] := by kernel_rfl
end Go.Proofs.YtdbdmnhnijpdcaaDoorW.AI.C

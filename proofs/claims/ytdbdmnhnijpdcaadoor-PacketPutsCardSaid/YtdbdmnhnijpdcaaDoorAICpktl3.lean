import Derived.Test.YtdbdmnhnijpdcaaDoorAICpktf2
import Derived.Test.YtdbdmnhnijpdcaaDoorAICpktA
namespace Go.Proofs.YtdbdmnhnijpdcaaDoorW.AI.C
open Go Go.Proofs.YtdbdmnhnijpdcaaDoorW.AI Go.Proofs.YtdbdmnhnijpdcaaDoorW.AI.Oct Go.RowKit
set_option maxRecDepth 100000
set_option linter.unusedSimpArgs false
set_option linter.unusedVariables false
set_option linter.unusedSectionVars false
theorem EndsV {x : Option AOut} {t : Nat} (h : Wp x fun o => ∃ a h ws, o = (.ret, a, h, ws) ∧ look a t = some (.bool true)) : Wp (kRes [.tmp t] x) fun r => r.1 = .bool true := by
  obtain ⟨o, rfl, a, h, ws, rfl, e⟩ := h
  refine ⟨(.bool true, h, ws), ?_, rfl⟩
  simp only [kRes, ares, aresL, ares1, aeval, e, Option.bind_some, Option.map_some]
/-- The fields of a packet that was handed in, made few: the first step of the packet's laws. -/
theorem few_head {g : AHeap} (hg : Good g) {P : Pk} {x : AV} (hx : Ty g (.sl [.i .u16, .sl [.i .u8]]) x) (B : AHeap) (hB : B.all notOld = true) :
    x.isCell = true ∧ noAny (some x) = some x ∧ ∃ v js F A, W CP 30 [.agg (P.l x)] (g ++ (⟨.tip false, .vals (P.l x)⟩ :: B)) = some (.agg (P.l v), (g ++ (⟨.tip false, .vals (P.l x)⟩ :: B)) ++ js, []) ∧
      RowX ((g ++ (⟨.tip false, .vals (P.l x)⟩ :: B)) ++ js) v F A ∧ Good ((g ++ (⟨.tip false, .vals (P.l x)⟩ :: B)) ++ js) ∧ F.length ≤ 12 ∧ (∀ z ∈ F, z.2.length ≤ 600) ∧ v.isCell = true ∧ noAny (some v) = some v ∧
      ∃ b c mn, (v = .sl b 0 F.length c ∨ v = .gsl b 0 F.length 2 mn) ∧ g.length + 1 + B.length ≤ b ∧ b < ((g ++ (⟨.tip false, .vals (P.l x)⟩ :: B)) ++ js).length := by
  obtain ⟨F0, A0, row0⟩ := RowX.ty_gl hx
  have hG0 : Good (g ++ (⟨.tip false, .vals (P.l x)⟩ :: B)) := good_app hg (by simp [notOld, hB])
  obtain ⟨v, js, A, eF, row1, hG1, p, hp, hpl⟩ := pfew_c (P := P) hG0 (row0.app (⟨.tip false, .vals (P.l x)⟩ :: B))
  refine ⟨row_cell row0, na_slen row0.xr.len, v, js, fewX F0, A, eF, row1, hG1, by rw [fewX_len]; omega, fewX_lens F0, row_cell row1, na_slen row1.xr.len, ?_⟩
  rcases row1.sh with ⟨rfl, _⟩ | ⟨b, c, st, mn, e, hb, _⟩
  · cases hp
  · have hbl := (List.getElem?_eq_some_iff.1 hb).1
    rcases e with ⟨e, _⟩ | e
    · subst e; cases hp
      exact ⟨_, c, mn, Or.inl rfl, by simp only [List.length_append, List.length_cons] at hpl; omega, hbl⟩
    · subst e; cases hp
      exact ⟨_, c, mn, Or.inr rfl, by simp only [List.length_append, List.length_cons] at hpl; omega, hbl⟩
theorem parseP_long {D : List Int} (h : 512 < D.length) : parseP D = .err 3 := by unfold parseP; rw [if_pos h]
/-- A packet without its signature. -/
def bareP (P : Pk) : Pk := { P with s := false, p15 := 0, p16 := 0 }
theorem bareP_ok {P : Pk} (ok : P.Ok) : (bareP P).Ok :=
  ⟨ok.a0, ok.b0, ok.a1, ok.b1, ok.a2, ok.b2, ok.a3, ok.b3, ok.a4, ok.b4, ok.a5, ok.b5, ok.a6, ok.b6, ok.a7, ok.b7, ok.a8, ok.b8, ok.a9, ok.b9, ok.a10, ok.b10, ok.a11, ok.b11, ok.a12, ok.b12, (show (0:Int) ≤ 0 by decide), (show (0:Int) ≤ 4294967295 by decide), (show (0:Int) ≤ 0 by decide), (show (0:Int) ≤ 18446744073709551615 by decide)⟩
theorem may_sg {P : Pk} {F : List (Int × List Int)} {id t : Int} (h : id ≠ 0) : mayP (sgP P id t) F = (mayH P.p0 P.p1 P.p2 && mayX F) := by
  simp [mayP, sgP, mayS, mayT, h]
theorem may_bare {P : Pk} {F : List (Int × List Int)} : mayP (bareP P) F = (mayH P.p0 P.p1 P.p2 && mayX F) := by
  simp [mayP, bareP, mayS, mayT]
theorem body_sg {P : Pk} {F : List (Int × List Int)} {id t : Int} : bodyP (sgP P id t) F = bodyP P F := rfl
theorem put_sg {P : Pk} {F : List (Int × List Int)} {id t : Int} : putP (sgP P id t) F = bodyP P F ++ signB (sgP P id t) := rfl
theorem put_bare {P : Pk} {F : List (Int × List Int)} : putP (bareP P) F = bodyP P F := by
  unfold putP
  simp only [bareP, Bool.false_eq_true, if_false, List.append_nil]
  rfl
theorem key_arg {g : AHeap} {cs : List AV} (k : TyL g [.i .u32, .i .u64, .i .u64] cs) : ∃ id A B, cs = [.int .u32 id, .int .u64 A, .int .u64 B] ∧ 0 ≤ id ∧ id ≤ 4294967295 := by
  simp only [TyL] at k
  obtain ⟨_, _, rfl, t0, _, _, rfl, t1, _, _, rfl, t2, rfl⟩ := k
  simp only [Ty] at t0 t1 t2
  obtain ⟨n0, rfl, a0, b0⟩ := t0
  obtain ⟨n1, rfl, a1, b1⟩ := t1
  obtain ⟨n2, rfl, a2, b2⟩ := t2
  exact ⟨n0, n1, n2, rfl, a0, b0⟩
theorem u64_rng (p : Int) : 0 ≤ IntKind.u64.wrap p ∧ IntKind.u64.wrap p ≤ 18446744073709551615 := by
  simp only [IntKind.wrap, IntKind.bits, IntKind.signed]
  simp
  omega
theorem tag_range (A B : Int) (D : List Int) : 0 ≤ tagI A B D ∧ tagI A B D ≤ 18446744073709551615 := by
  unfold tagI
  exact u64_rng _
set_option maxHeartbeats 32000000 in
theorem long_body {g : AHeap} (hg : Good g) (ha : At0 g) {P : Pk} (ok : P.Ok) {x : AV} (hx : Ty g (.sl [.i .u16, .sl [.i .u8]]) x) {id A B : Int} (i0 : 0 ≤ id) (i1 : id ≤ 4294967295) :
    Wp (xbody (W CP) M10 [.agg (P.l x), .agg [.int .u32 id, .int .u64 A, .int .u64 B]] g) fun r => r.1 = .bool true := by
  obtain ⟨hxc, hnx, v, js, F, A', eF, row1, hG1, hF12, hFl, hv, hnv, b, c, mn, hvs, hb1, hb2⟩ := few_head hg (P := P) hx [⟨.tip false, .vals [.int .u32 id, .int .u64 A, .int .u64 B]⟩] rfl
  have ha1 := (ha.app (⟨.tip false, .vals (P.l x)⟩ :: [⟨.tip false, .vals [.int .u32 id, .int .u64 A, .int .u64 B]⟩])).app js
  have hc1 : ((g ++ (⟨.tip false, .vals (P.l x)⟩ :: [(⟨.tip false, .vals [.int .u32 id, .int .u64 A, .int .u64 B]⟩ : ABlk)])) ++ js)[g.length]? = some ⟨.tip false, .vals (P.l x)⟩ := by rw [List.append_assoc]; exact end_get _ _ _
  have hk1 : ((g ++ (⟨.tip false, .vals (P.l x)⟩ :: [(⟨.tip false, .vals [.int .u32 id, .int .u64 A, .int .u64 B]⟩ : ABlk)])) ++ js)[g.length + 1]? = some ⟨.tip false, .vals [.int .u32 id, .int .u64 A, .int .u64 B]⟩ := by rw [List.append_assoc, List.getElem?_append_right (by omega)]; simp
  obtain ⟨H1, hH1⟩ : ∃ H1, (g ++ (⟨.tip false, .vals (P.l x)⟩ :: [(⟨.tip false, .vals [.int .u32 id, .int .u64 A, .int .u64 B]⟩ : ABlk)])) ++ js = H1 := ⟨_, rfl⟩
  rw [hH1] at eF row1 hG1 ha1 hc1 hk1 hb2
  clear hH1
  simp only [List.length_cons, List.length_nil] at hb1
  have l1 := (List.getElem?_eq_some_iff.1 hc1).1
  have l2 := (List.getElem?_eq_some_iff.1 hk1).1
  have q1 : ¬ g.length + 1 = g.length := by omega
  have q2 : ¬ g.length = g.length + 1 := by omega
  obtain ⟨id2, hid2⟩ : ∃ id2, (if id < 1 then 1 else id) = id2 := ⟨_, rfl⟩
  have hid3 : id2 ≠ 0 ∧ 0 ≤ id2 ∧ id2 ≤ 4294967295 := by rw [← hid2]; split <;> omega
  obtain ⟨hi0, hi1, hi2⟩ := hid3
  have hblk : ∀ p, blkS v = some p → g.length + 2 ≤ p := fun p e => by rcases hvs with h | h <;> subst h <;> cases e <;> omega
  have row2 := row1.set_vals (B := (bareP P).l v) hc1 (fun p e => by have := hblk p e; omega)
  have hk2 : (H1.set g.length ⟨.tip false, .vals ((bareP P).l v)⟩)[g.length + 1]? = some ⟨.tip false, .vals [.int .u32 id, .int .u64 A, .int .u64 B]⟩ := by rw [List.getElem?_set_ne (by omega)]; exact hk1
  have row3 := row2.set_vals (B := [.int .u32 id2, .int .u64 A, .int .u64 B]) hk2 (fun p e => by have := hblk p e; omega)
  have hG2 : Good ((H1.set g.length ⟨.tip false, .vals ((bareP P).l v)⟩).set (g.length + 1) ⟨.tip false, .vals [.int .u32 id2, .int .u64 A, .int .u64 B]⟩) := good_set (good_set hG1 rfl) rfl
  have ha2 : At0 ((H1.set g.length ⟨.tip false, .vals ((bareP P).l v)⟩).set (g.length + 1) ⟨.tip false, .vals [.int .u32 id2, .int .u64 A, .int .u64 B]⟩) := ⟨by
    have := ha.2
    rw [List.getElem?_set_ne (by omega), List.getElem?_set_ne (by omega)]; exact ha1.1, by rw [List.length_set, List.length_set]; exact ha1.2⟩
  have hc3 : ((H1.set g.length ⟨.tip false, .vals ((bareP P).l v)⟩).set (g.length + 1) ⟨.tip false, .vals [.int .u32 id2, .int .u64 A, .int .u64 B]⟩)[g.length]? = some ⟨.tip false, .vals ((bareP P).l v)⟩ := by rw [List.getElem?_set_ne (by omega), List.getElem?_set_self l1]
  have hk3 : ((H1.set g.length ⟨.tip false, .vals ((bareP P).l v)⟩).set (g.length + 1) ⟨.tip false, .vals [.int .u32 id2, .int .u64 A, .int .u64 B]⟩)[g.length + 1]? = some ⟨.tip false, .vals [.int .u32 id2, .int .u64 A, .int .u64 B]⟩ := by rw [List.getElem?_set_self (by rw [List.length_set]; exact l2)]
  have ex2 := row3.xr
  obtain ⟨H2, hH2⟩ : ∃ H2, (H1.set g.length ⟨.tip false, .vals ((bareP P).l v)⟩).set (g.length + 1) ⟨.tip false, .vals [.int .u32 id2, .int .u64 A, .int .u64 B]⟩ = H2 := ⟨_, rfl⟩
  have hl2 : H1.length = H2.length := by rw [← hH2]; simp
  rw [hH2] at hG2 ha2 hc3 hk3 ex2
  have m1 := (List.getElem?_eq_some_iff.1 hc3).1
  have m2 := (List.getElem?_eq_some_iff.1 hk3).1
  have okB := bareP_ok ok
  have okS := sgP_ok (P := bareP P) okB (id := id2) (t := 0) hi1 hi2 (by decide) (by decide)
  have hbt := ext_byt ex2
  have aw := fun h => awake_c h
  have lo2 : ¬ H2.length < g.length := by omega
  have hmS : mayP (sgP (bareP P) id2 0) F = mayP (bareP P) F := by rw [may_sg hi0, may_bare]; rfl
  cases hm : mayP (bareP P) F with
  | false =>
    rw [hm] at hmS
    have eU := pput_bad (P := bareP P) hm (by omega) (fun z hz => by have := hFl z hz; omega) hv hG2 ex2
    have eS := psign_bad (P := bareP P) (A := A) (B := B) okB hi1 hi2 hmS (by omega) (fun z hz => by have := hFl z hz; omega) hv hG2 ex2
    simp only [bareP, pk0, Pk.l] at eF hc1 hH2 eU eS hc3
    simp (maxDischargeDepth := 9) -implicitDefEqProofs only [push_cast, simprocAttr, M10, nadd1, nadd2, nadd3, nadd4, nadd5, nadd6, nadd7, nadd8, nadd9, nadd10, nadd11, nadd12, Pk.l, hxc, hnx, hnv, hv, eF, hc1, hk1, l1, l2, q1, q2, hid2, hH2, hc3, hk3, m1, m2, eU, eS, aw, lo2, List.set_set, List.length_set]
  | true =>
    rw [hm] at hmS
    obtain ⟨mH, mX, _, _⟩ := mayP_parts hm
    by_cases hl : (putP (bareP P) F).length ≤ 512
    · obtain ⟨y, js3, eU, ty, my, hG3⟩ := pput_ok okB hm hl hv hG2 ha2 ex2
      rw [put_bare] at ty hl
      have ha3 := ha2.app js3
      have hc4 : (H2 ++ js3)[g.length]? = some ⟨.tip false, .vals ((bareP P).l v)⟩ := by rw [List.getElem?_append_left m1]; exact hc3
      have hk4 : (H2 ++ js3)[g.length + 1]? = some ⟨.tip false, .vals [.int .u32 id2, .int .u64 A, .int .u64 B]⟩ := by rw [List.getElem?_append_left m2]; exact hk3
      have ex3 := ex2.app js3
      have l23 : H2.length ≤ (H2 ++ js3).length := by simp
      obtain ⟨H3, hH3⟩ : ∃ H3, H2 ++ js3 = H3 := ⟨_, rfl⟩
      rw [hH3] at eU ty hG3 ha3 hc4 hk4 ex3 l23
      have n1 := (List.getElem?_eq_some_iff.1 hc4).1
      have n2 := (List.getElem?_eq_some_iff.1 hk4).1
      have ny := ty.na
      have ly := ty.slen
      have lo3 : ¬ H3.length < g.length := by omega
      obtain ⟨n, hn⟩ : ∃ n, (bodyP P F).length = n := ⟨_, rfl⟩
      have hlS : ∀ t, (putP (sgP (bareP P) id2 t) F).length = n + 12 := fun t => by rw [put_sg, List.length_append, signB_len]; show (bodyP P F).length + 12 = _; rw [hn]
      rw [hn] at ly hl
      have w12 : IntKind.i64.wrap ((n : Int) + 12) = (n : Int) + 12 := wr_i64 _ (by omega) (by omega)
      by_cases hl2 : n + 12 ≤ 512
      · have hc12 : ¬ (512 : Int) < (n : Int) + 12 := by omega
        have hlt : v.lt H3.length = true := by rcases hvs with h | h <;> subst h <;> simp [AV.lt] <;> omega
        have eS := psign_ok (P := bareP P) (A := A) (B := B) okB hi1 hi2 hmS (by rw [hlS]; exact hl2) hv hG3 ha3 ex3 hlt
        obtain ⟨tg, htg⟩ : ∃ tg, tagI A B (bodyP (bareP P) F) = tg := ⟨_, rfl⟩
        have htr := tag_range A B (bodyP (bareP P) F)
        rw [htg] at eS htr
        have okT := sgP_ok (P := bareP P) okB (id := id2) (t := tg) hi1 hi2 htr.1 htr.2
        have hmT : mayP (sgP (bareP P) id2 tg) F = true := by rw [may_sg hi0, ← hm, may_bare]; rfl
        have hG4 : Good (H3 ++ [⟨.tip false, .vals ((sgP (bareP P) id2 tg).l v)⟩]) := good_app hG3 rfl
        have ex4 := ex3.app [⟨.tip false, .vals ((sgP (bareP P) id2 tg).l v)⟩]
        obtain ⟨cv, js5, eC, tc, mc, hG5⟩ := pput_ok okT hmT (by rw [hlS]; exact hl2) hv hG4 (ha3.app _) ex4
        have bc := tc.bv (putP_byt hbt.1)
        have by5 := ((ty.bv (bodyP_byt hbt.1)).app [⟨.tip false, .vals ((sgP (bareP P) id2 tg).l v)⟩]).app js5
        have l35 : H3.length + 1 ≤ ((H3 ++ [(⟨.tip false, .vals ((sgP (bareP P) id2 tg).l v)⟩ : ABlk)]) ++ js5).length := by simp
        have ha5 := (ha3.app [⟨.tip false, .vals ((sgP (bareP P) id2 tg).l v)⟩]).app js5
        obtain ⟨H5, hH5⟩ : ∃ H5, (H3 ++ [(⟨.tip false, .vals ((sgP (bareP P) id2 tg).l v)⟩ : ABlk)]) ++ js5 = H5 := ⟨_, rfl⟩
        rw [hH5] at eC tc hG5 bc by5 l35 ha5
        have nc := tc.na
        have lc := tc.slen
        rw [hlS] at lc
        have hnil : nilOf cv ≠ none := by
          obtain ⟨p, _, ⟨e, _⟩ | ⟨o, m, e, _⟩⟩ := tc
          · rw [e]; simp [nilOf]
          · have := mc p 0 (putP (sgP (bareP P) id2 tg) F).length 1
            rw [e] at this ⊢
            cases m
            · simp [nilOf]
            · exact absurd rfl this
        obtain ⟨cl, js6, eK, bk, _, hj6, _, hk6⟩ := bclone_c hG5 bc hnil (by rw [hlS]; omega)
        obtain ⟨p6, rfl, hp6, hp6l⟩ := hk6 (by intro h; have := hlS tg; rw [h] at this; simp at this)
        have hG6 : Good (H5 ++ js6) := good_app hG5 hj6
        have k6 : Keeps H5 (H5 ++ js6) none := Keeps.app _ _ _ hj6
        obtain ⟨H6, hH6⟩ : ∃ H6, H5 ++ js6 = H6 := ⟨_, rfl⟩
        rw [hH6] at eK hp6 hG6 k6
        have t6 : TailAt H6 (.gsl p6 0 (putP (sgP (bareP P) id2 tg) F).length 1 false) (putP (sgP (bareP P) id2 tg) F) H5.length := ⟨p6, hp6l, Or.inr ⟨false, false, rfl, hp6⟩⟩
        rw [hlS] at t6 eK
        obtain ⟨r, hr⟩ : ∃ r : Nat, 513 - (n + 12) = r := ⟨_, rfl⟩
        have hrep : ((List.replicate r [(0 : Int)]).flatten).length = r := by simp
        obtain ⟨v7, H7, ws7, e7, t7, w7, k7, m7⟩ := app_tail t6 hrep (by rw [hlS]; omega) k6.2.1
        have kk : Keeps H5 H7 none := keeps_own hG5 k6 k7 (fun q e => by cases e; exact hp6l)
        have hG7 := kk.2.2 hG5
        have l57 := kk.2.1
        have hwa : wadd g.length [] ws7 = [] := wadd_ge fun q hq => by have := w7 q hq; omega
        have nv7 := t7.na
        have hB7 : Byt (putP (sgP (bareP P) id2 tg) F ++ (List.replicate r [(0 : Int)]).flatten) := (putP_byt hbt.1).app (by intro z hz; simp at hz; omega)
        have ha7 : At0 H7 := ⟨keepsAll kk _ _ ha5.1, by have := ha5.2; omega⟩
        have cP := pparse_c hG7 ha7 (Or.inr (t7.src (m7 (fun _ _ _ _ h => by cases h)) hB7)) (by rw [List.length_append, hlS, hrep]; omega)
        rw [parseP_long (by rw [List.length_append, hlS, hrep]; omega)] at cP
        have eP : W CP 15 [v7] H7 = some (.tup [.agg (pk0.l .nils), .int .i64 3], H7, []) := cP
        have lo5 : ¬ H5.length < g.length := by omega
        have lo7 : ¬ H7.length < g.length := by omega
        have cut7 := (bc.keep (keepsAll kk)).take (show n ≤ _ by rw [hlS]; omega)
        rw [put_sg, show bodyP (bareP P) F = bodyP P F from rfl, List.take_left' hn] at cut7
        have eE := equal_c (good_app (js := [⟨.tip false, .vals (pk0.l .nils)⟩]) hG7 rfl) (cut7.app _) ((by5.keep (keepsAll kk)).app [⟨.tip false, .vals (pk0.l .nils)⟩])
        rw [decide_eq_true rfl] at eE
        have e1 := fun h => slcV_hi (h := h) bc (show n ≤ _ by rw [hlS]; omega)
        have acut := cut7.na
        have w513 : IntKind.i64.wrap (513 - ((n : Int) + 12)) = (r : Int) := by rw [wr_i64 _ (by omega) (by omega)]; omega
        have hcast : ((n + 12 : Nat) : Int) = (n : Int) + 12 := by omega
        have hr0 : (r : Int) * 1 ≤ 281474976710656 := by omega
        have hr1 : (r : Int) ≤ 281474976710656 := by omega
        have hr2 : (0 : Int) ≤ (r : Int) := by omega
        simp only [bareP, sgP, pk0, Pk.l] at eF hc1 hH2 eU eS hc3 eP eC eE hH5 hc4 eK e7 lc
        simp (maxDischargeDepth := 9) -implicitDefEqProofs only [push_cast, simprocAttr, M10, nadd1, nadd2, nadd3, nadd4, nadd5, nadd6, nadd7, nadd8, nadd9, nadd10, nadd11, nadd12, Pk.l, hxc, hnx, hnv, hv, eF, hc1, hk1, l1, l2, q1, q2, hid2, hH2, hc3, hk3, m1, m2, eU, eS, aw, lo2, List.set_set, List.length_set, ny, ly, hc4, hk4, n1, n2, lo3, w12, hc12, eC, nc, lc, eK, hcast, w513, hr0, hr1, hr2, e7, hwa, nv7, eP, lo5, lo7, ↓slc_eqH, e1, acut, eE]
      · have hc12 : (512 : Int) < (n : Int) + 12 := by omega
        have eS := psign_long (P := bareP P) (A := A) (B := B) okB hi1 hi2 hmS (by rw [hlS]; exact hl2) hv hG3 ha3 ex3
        simp only [bareP, pk0, Pk.l] at eF hc1 hH2 eU eS hc3 hc4
        simp (maxDischargeDepth := 9) -implicitDefEqProofs only [push_cast, simprocAttr, M10, nadd1, nadd2, nadd3, nadd4, nadd5, nadd6, nadd7, nadd8, nadd9, nadd10, nadd11, nadd12, Pk.l, hxc, hnx, hnv, hv, eF, hc1, hk1, l1, l2, q1, q2, hid2, hH2, hc3, hk3, m1, m2, eU, eS, aw, lo2, List.set_set, List.length_set, ny, ly, hc4, hk4, n1, n2, lo3, w12, hc12]
    · have eU := pput_long okB hm hl hv hG2 ha2 ex2
      have eS := psign_long (P := bareP P) (A := A) (B := B) okB hi1 hi2 hmS (by rw [put_bare] at hl; rw [put_sg, List.length_append, signB_len]; show ¬ (bodyP P F).length + 12 ≤ 512; omega) hv hG2 ha2 ex2
      simp only [bareP, pk0, Pk.l] at eF hc1 hH2 eU eS hc3
      simp (maxDischargeDepth := 9) -implicitDefEqProofs only [push_cast, simprocAttr, M10, nadd1, nadd2, nadd3, nadd4, nadd5, nadd6, nadd7, nadd8, nadd9, nadd10, nadd11, nadd12, Pk.l, hxc, hnx, hnv, hv, eF, hc1, hk1, l1, l2, q1, q2, hid2, hH2, hc3, hk3, m1, m2, eU, eS, aw, lo2, List.set_set, List.length_set]
theorem long_law (js : AHeap) (avs : List AV) (hx : Ext js) (ht : TyA (CP.gl ++ js) [.agg [.i .u8, .i .u8, .i .u8, .i .u8, .i .i8, .i .i8, .i .u32, .i .u32, .i .u32, .i .u64, .i .u64, .i .u64, .i .u64, .sl [.i .u16, .sl [.i .u8]], .b, .i .u32, .i .u64], .agg [.i .u32, .i .u64, .i .u64]] avs) : ∃ h' ws, W CP 10 avs (CP.gl ++ js) = some (.bool true, h', ws) := by
  simp only [TyA] at ht
  obtain ⟨cs, _, rfl, k0, ks, _, rfl, k1, rfl⟩ := ht
  obtain ⟨P, x, rfl, ok, hxt⟩ := pk_arg k0
  obtain ⟨id, A, B, rfl, i0, i1⟩ := key_arg k1
  refine W_law (m := M10) (fun _ => rfl) rfl (long_body (pgood_ext hx) (at0_ext hx) ok hxt i0 i1) fun h0 => ?_
  simp only [AV.lts, AV.lt, Bool.and_eq_true] at h0
  exact long_body pgood_gl at0_gl ok (ty_nil hxt h0.1.2.2.2.2.2.2.2.2.2.2.2.2.2.1) i0 i1
theorem long_kinds : aksOf X.P 20 [29, 57] = some [.agg [.i .u8, .i .u8, .i .u8, .i .u8, .i .i8, .i .i8, .i .u32, .i .u32, .i .u32, .i .u64, .i .u64, .i .u64, .i .u64, .sl [.i .u16, .sl [.i .u8]], .b, .i .u32, .i .u64], .agg [.i .u32, .i .u64, .i .u64]] := by kernel_rfl
end Go.Proofs.YtdbdmnhnijpdcaaDoorW.AI.C

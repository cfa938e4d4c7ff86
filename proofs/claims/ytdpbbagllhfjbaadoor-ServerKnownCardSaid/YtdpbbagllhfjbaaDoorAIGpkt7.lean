import Derived.Test.YtdpbbagllhfjbaaDoorAIGpkt6
namespace Go.Proofs.YtdpbbagllhfjbaaDoorW.AI.G
open Go Go.Proofs.YtdpbbagllhfjbaaDoorW.AI Go.Proofs.YtdpbbagllhfjbaaDoorW.AI.Oct
set_option maxRecDepth 100000
set_option linter.unusedSimpArgs false
set_option linter.unusedVariables false
set_option linter.unusedSectionVars false
/-- A row of fields of one's own. -/
structure XO (h : AHeap) (n : Nat) (F : List (Int × List Int)) (v : AV) (l : List AV) : Prop where
  gx : GxAt h v F.length l
  en : Ents h v l F
  ow : OwnX h v l F n
  gp : ∀ p, blkOf v = some p → n ≤ p
theorem XO.ext {h : AHeap} {n : Nat} {F : List (Int × List Int)} {v : AV} {l : List AV} (x : XO h n F v l) : ExtAt h v F := x.gx.ext x.en
theorem XO.mono {h : AHeap} {n m : Nat} {F : List (Int × List Int)} {v : AV} {l : List AV} (x : XO h n F v l) (hm : m ≤ n) : XO h m F v l :=
  ⟨x.gx, x.en, fun i t D hi => by obtain ⟨p, h1, h2, h3, h4⟩ := x.ow i t D hi; exact ⟨p, h1, h2, by omega, h4⟩, fun p e => by have := x.gp p e; omega⟩
theorem XO.keep {h h' : AHeap} {n : Nat} {F : List (Int × List Int)} {v : AV} {l : List AV} (x : XO h n F v l) (hk : ∀ (q : Nat) (z : ABlk), n ≤ q → h[q]? = some z → h'[q]? = some z) : XO h' n F v l := by
  refine ⟨⟨x.gx.1, ?_⟩, fun i t D hi => ?_, fun i t D hi => ?_, x.gp⟩
  · rcases x.gx.2 with e | ⟨p, mn, o, e, e2⟩
    · exact Or.inl e
    · exact Or.inr ⟨p, mn, o, e, hk p _ (x.gp p (by rw [e]; rfl)) e2⟩
  · obtain ⟨h1, h2, d, h3, h4, h5, h6⟩ := x.en i t D hi
    obtain ⟨p, k1, k2, k3, k4⟩ := x.ow i t D hi
    rw [h3] at k1
    cases k1
    exact ⟨h1, h2, _, h3, gsl_bv (o := false) h4.1 rfl (hk p _ k3 k2), h5, h6⟩
  · obtain ⟨p, k1, k2, k3, k4⟩ := x.ow i t D hi
    exact ⟨p, k1, hk p _ k3 k2, k3, k4⟩
theorem XO.set {h : AHeap} {n q : Nat} {z : ABlk} {F : List (Int × List Int)} {v : AV} {l : List AV} (x : XO h n F v l) (hq : q < n) : XO (h.set q z) n F v l :=
  x.keep fun p y hp e => by rw [List.getElem?_set_ne (by omega)]; exact e
theorem XO.app {h : AHeap} {n : Nat} {F : List (Int × List Int)} {v : AV} {l : List AV} (x : XO h n F v l) (js : AHeap) : XO (h ++ js) n F v l :=
  x.keep fun p y hp e => by rw [List.getElem?_append_left (List.getElem?_eq_some_iff.1 e).1]; exact e
def pk0 : Pk := ⟨0, 0, 0, 0, 0, 0, 0, 0, 0, 0, 0, 0, 0, false, 0, 0⟩
/-- A packet out of a head's numbers. -/
def pkV (v0 v1 v2 v3 v4 v5 v6 v7 v8 v9 v10 : Int) : Pk := ⟨v0 / 64, v0 / 8 % 8, v0 % 8, v1, IntKind.i8.wrap v2, IntKind.i8.wrap v3, v4, v5, v6, v7, v8, v9, v10, false, 0, 0⟩
inductive PP where
  | err (e : Int)
  | ok (P : Pk) (F : List (Int × List Int))
def parseQ (P : Pk) : PR → PP
  | .err e => .err e
  | .ok F T => if T.length = 0 then .ok P F else if be (T.take 4) = 0 then .err 5 else .ok { P with s := true, p15 := be (T.take 4), p16 := be (T.drop 4) } F
/-- What bytes are as a packet. -/
def parseP (D : List Int) : PP :=
  if 512 < D.length then .err 3 else if D.length < 48 then .err 4 else
  match takeV sizesN D with
  | [v0, v1, v2, v3, v4, v5, v6, v7, v8, v9, v10] => if 1 ≤ v0 / 8 % 8 ∧ v0 / 8 % 8 ≤ 4 then parseQ (pkV v0 v1 v2 v3 v4 v5 v6 v7 v8 v9 v10) (parseX 9 [] (D.drop 48)) else .err 5
  | _ => .err 4
def ParPost (g : AHeap) (R : PP) (r : AV × AHeap × List Nat) : Prop := Keeps g r.2.1 none ∧ r.2.2 = [] ∧ match R with
  | .err e => r.1 = .tup [.agg (pk0.l .nils), .int .i64 e]
  | .ok P F => ∃ xv l, r.1 = .tup [.agg (P.l xv), .int .i64 0] ∧ XO r.2.1 g.length F xv l
theorem keeps_set {g H : AHeap} {q : Nat} {z : ABlk} (k : Keeps g H none) (hq : g.length ≤ q) (hz : notOld z = true) : Keeps g (H.set q z) none :=
  ⟨fun p y e h1 h2 => by
    have := (List.getElem?_eq_some_iff.1 e).1
    rw [List.getElem?_set_ne (by omega)]
    exact k.1 p y e h1 h2, by rw [List.length_set]; exact k.2.1, fun hg => good_set (k.2.2 hg) hz⟩
theorem parseX_ne : ∀ (k : Nat) (F : List (Int × List Int)) (D : List Int) (z : Int), parseX k F D = .err z → z ≠ 0
  | 0, F, D, z, h => by cases h; decide
  | k + 1, F, D, z, h => by
    rw [parseX] at h
    split at h
    · cases h
    · split at h
      · cases h; decide
      · split at h
        · cases h; decide
        · split at h
          · cases h; decide
          · split at h
            · cases h; decide
            · exact parseX_ne k _ _ _ h
theorem bv_src {h : AHeap} {v : AV} {L : List Int} (b : BV h v L) (hm : Mn v) (hne : L ≠ []) : Src h v L := by
  obtain ⟨hB, ⟨_, k⟩ | ⟨b, o, c, st, l, mn, e, hs, hl', hd, k⟩⟩ := b
  · exact absurd k hne
  · refine ⟨hB, b, o, c, st, l, e, hs, hl', hd, ?_⟩
    rcases k with ⟨rfl, h⟩ | rfl
    · exact Or.inl ⟨rfl, h⟩
    · cases mn
      · exact Or.inr rfl
      · exact absurd rfl (hm _ _ _ _)
theorem _root_.Go.Proofs.YtdpbbagllhfjbaaDoorW.AI.G.Src.set_vals {h : AHeap} {v : AV} {L : List Int} {q : Nat} {A B : List AV} (s : Src h v L) (hq : h[q]? = some ⟨.tip false, .vals A⟩) : Src (h.set q ⟨.tip false, .vals B⟩) v L := by
  obtain ⟨hB, b, o, c, st, l, e, r⟩ := s
  refine ⟨hB, b, o, c, st, l, ?_, r⟩
  rw [List.getElem?_set_ne (by rintro rfl; rw [hq] at e; cases e)]
  exact e
section
variable {x : AV} {D : List Int}
set_option maxHeartbeats 8000000 in
theorem pparse_key {g : AHeap} (hg : Good g) (ha : At0 g) (hx : Src g x D) (hD : D.length < 1000000000) : Wp (xbody (W CP) M15 [x] g) (ParPost g (parseP D)) := by
  have hn := hx.bv.na
  have hlx := hx.bv.len
  obtain ⟨n, hnl⟩ : ∃ n, D.length = n := ⟨_, rfl⟩
  rw [hnl] at hlx
  obtain ⟨Z, hZ⟩ : ∃ Z : ABlk, (⟨.tip false, .vals (pk0.l .nils)⟩ : ABlk) = Z := ⟨_, rfl⟩
  have kz : Keeps g (g ++ [⟨.tip false, .vals (pk0.l .nils)⟩]) none := Keeps.app g _ none rfl
  by_cases c : 512 < D.length
  · have c' : (512 : Int) < (n : Int) := by omega
    unfold parseP
    rw [if_pos c]
    simp (maxDischargeDepth := 9) -implicitDefEqProofs only [push_cast, simprocAttr, M15, nadd1, nadd2, nadd3, nadd4, nadd5, nadd6, nadd7, nadd8, nadd9, nadd10, nadd11, nadd12, hn, hlx, c']
    exact ⟨kz, rfl, rfl⟩
  have c' : ¬ (512 : Int) < (n : Int) := by omega
  have hG0 : Good (g ++ [⟨.tip false, .vals (pk0.l .nils)⟩]) := good_app hg rfl
  by_cases c1 : D.length < 48
  · have e := parse_short hG0 (hx.bv.len) c1
    unfold parseP
    rw [if_neg c, if_pos c1]
    simp only [pk0, Pk.l] at e
    simp (maxDischargeDepth := 9) -implicitDefEqProofs only [push_cast, simprocAttr, M15, nadd1, nadd2, nadd3, nadd4, nadd5, nadd6, nadd7, nadd8, nadd9, nadd10, nadd11, nadd12, hn, hlx, c', e]
    exact ⟨Keeps.app g _ none rfl, rfl, rfl⟩
  obtain ⟨v0, v1, v2, v3, v4, v5, v6, v7, v8, v9, v10, hv⟩ := HV.mk' hx.1 (show 48 ≤ D.length by omega)
  have hP : parseP D = if 1 ≤ v0 / 8 % 8 ∧ v0 / 8 % 8 ≤ 4 then parseQ (pkV v0 v1 v2 v3 v4 v5 v6 v7 v8 v9 v10) (parseX 9 [] (D.drop 48)) else .err 5 := by
    unfold parseP
    rw [if_neg c, if_neg c1, hv.takeV]
  rw [hP]
  clear hP
  have ha0 := ha.app [⟨.tip false, .vals (pk0.l .nils)⟩]
  have hx0 := hx.app [⟨.tip false, .vals (pk0.l .nils)⟩]
  by_cases cv : 1 ≤ v0 / 8 % 8 ∧ v0 / 8 % 8 ≤ 4
  case neg =>
    have e := parse_bad hG0 ha0.1 hx0 hv hD cv
    rw [if_neg cv]
    simp only [pk0, Pk.l] at e
    simp (maxDischargeDepth := 9) -implicitDefEqProofs only [push_cast, simprocAttr, M15, nadd1, nadd2, nadd3, nadd4, nadd5, nadd6, nadd7, nadd8, nadd9, nadd10, nadd11, nadd12, hn, hlx, c', e]
    exact ⟨Keeps.app g _ none rfl, rfl, rfl⟩
  rw [if_pos cv]
  obtain ⟨rv, js, r, eH, rR, hG1, rb, rl⟩ := parse_ok hG0 ha0.1 hx0 hv hD cv.1 cv.2
  obtain ⟨P, hPv⟩ : ∃ P, pkV v0 v1 v2 v3 v4 v5 v6 v7 v8 v9 v10 = P := ⟨_, rfl⟩
  have eH1 : W CP 37 [x] (g ++ [⟨.tip false, .vals (pk0.l .nils)⟩]) = some (.tup [.agg ((pkV v0 v1 v2 v3 v4 v5 v6 v7 v8 v9 v10).l .nils), rv, .int .i64 0], (g ++ [⟨.tip false, .vals (pk0.l .nils)⟩]) ++ js, []) := eH
  have hPs : P.s = false ∧ P.p15 = 0 ∧ P.p16 = 0 := by rw [← hPv]; exact ⟨rfl, rfl, rfl⟩
  rw [hPv] at eH1 ⊢
  clear eH hPv
  have k1 : Keeps g ((g ++ [⟨.tip false, .vals (pk0.l .nils)⟩]) ++ js) none := ⟨fun q z e _ _ => by rw [List.append_assoc, List.getElem?_append_left (List.getElem?_eq_some_iff.1 e).1]; exact e, by simp, fun _ => hG1⟩
  have hb1 : ((g ++ [⟨.tip false, .vals (pk0.l .nils)⟩]) ++ js)[g.length]? = some ⟨.tip false, .vals (pk0.l .nils)⟩ := by rw [List.append_assoc]; exact end_get _ _ _
  obtain ⟨H1, hH1⟩ : ∃ H1, (g ++ [(⟨.tip false, .vals (pk0.l .nils)⟩ : ABlk)]) ++ js = H1 := ⟨_, rfl⟩
  rw [hH1] at eH1 rR hG1 k1 hb1
  clear hH1
  have l1 : g.length < H1.length := (List.getElem?_eq_some_iff.1 hb1).1
  have l2 : ¬ H1.length < g.length := by omega
  have bB : Byt (D.drop 48) := fun z hz => hx.1 z (List.mem_of_mem_drop hz)
  have sR := (rR.src bB).app [⟨.tip false, .vals (P.l .nils)⟩]
  have nR := sR.bv.na
  have hG2 : Good (H1 ++ [⟨.tip false, .vals (P.l .nils)⟩]) := good_app hG1 rfl
  have hTl : (D.drop 48).length < 1000000000 := by rw [List.length_drop]; omega
  obtain ⟨h15, h16, hs⟩ : P.p15 = 0 ∧ P.p16 = 0 ∧ P.s = false := ⟨hPs.2.1, hPs.2.2, hPs.1⟩
  cases hpx : parseX 9 [] (D.drop 48) with
  | err z =>
    have eX := xparse_err hG2 (Or.inr sR) hTl hpx
    have hz : ¬ z = 0 := parseX_ne _ _ _ _ hpx
    have k3 := keeps_js k1 [(⟨.tip false, .vals (P.l .nils)⟩ : ABlk)] rfl
    simp only [pk0, Pk.l] at eH1 hb1 eX
    simp (maxDischargeDepth := 9) -implicitDefEqProofs only [push_cast, simprocAttr, M15, nadd1, nadd2, nadd3, nadd4, nadd5, nadd6, nadd7, nadd8, nadd9, nadd10, nadd11, nadd12, hn, hlx, c', eH1, hb1, l1, l2, nR, eX, hz]
    exact ⟨keeps_js (keeps_set k1 (Nat.le_refl _) rfl) _ rfl, rfl, rfl⟩
  | ok F T =>
    obtain ⟨xv, sv, js2, eX, rok, _, hmn⟩ := xparse_ok hG2 (Or.inr sR) hTl hpx
    obtain ⟨l, gx, en, ow, gp, bsv, _, hG3⟩ := rok
    have xo : XO ((H1 ++ [⟨.tip false, .vals (P.l .nils)⟩]) ++ js2) (H1 ++ [(⟨.tip false, .vals (P.l .nils)⟩ : ABlk)]).length F xv l := ⟨gx, en, ow, gp⟩
    have xo1 := xo.mono (m := H1.length + 1) (by simp)
    have k3 : Keeps g ((H1 ++ [⟨.tip false, .vals (P.l .nils)⟩]) ++ js2) none := ⟨fun q z e _ _ => by
      have h1 := (List.getElem?_eq_some_iff.1 e).1
      rw [List.append_assoc, List.getElem?_append_left (by omega)]
      exact k1.1 q z e (by simp) (by simp), by have := k1.2.1; simp; omega, fun _ => hG3⟩
    have hb3 : ((H1 ++ [⟨.tip false, .vals (P.l .nils)⟩]) ++ js2)[g.length]? = some ⟨.tip false, .vals (pk0.l .nils)⟩ := by rw [List.append_assoc, List.getElem?_append_left l1]; exact hb1
    have hc3 : ((H1 ++ [⟨.tip false, .vals (P.l .nils)⟩]) ++ js2)[H1.length]? = some ⟨.tip false, .vals (P.l .nils)⟩ := by rw [List.append_assoc]; exact end_get _ _ _
    obtain ⟨H3, hH3⟩ : ∃ H3, (H1 ++ [(⟨.tip false, .vals (P.l .nils)⟩ : ABlk)]) ++ js2 = H3 := ⟨_, rfl⟩
    rw [hH3] at eX xo1 k3 hb3 hc3 hG3 bsv
    clear hH3 xo gx en ow gp
    have l3 : H1.length < H3.length := (List.getElem?_eq_some_iff.1 hc3).1
    have l4 : g.length < H3.length := by omega
    have nX := na_slen xo1.gx.slen
    have nS := bsv.na
    have lS := bsv.len
    have nq : ¬ H1.length = g.length := by omega
    have nq2 : ¬ g.length = H1.length := by omega
    obtain ⟨t, ht⟩ : ∃ t, T.length = t := ⟨_, rfl⟩
    rw [ht] at lS
    simp only [pk0, Pk.l] at eH1 hb1 hb3 hc3 eX
    have hcx : xv.isCell = true := by
      rcases xo1.gx.2 with ⟨rfl, _⟩ | ⟨_, _, _, rfl, _⟩ <;> rfl
    by_cases t0 : t = 0
    · have t0' : ((t : Int) = 0) = True := eq_true (by omega)
      have hQ : parseQ P (.ok F T) = .ok P F := by simp only [parseQ]; rw [if_pos (by omega)]
      rw [hQ]
      have fin := fun Z1 Z2 : ABlk => (xo1.set (q := H1.length) (z := Z1) (by omega)).set (q := g.length) (z := Z2) (by omega)
      rcases xo1.gx.2 with ⟨e0, _⟩ | ⟨pp, mn, oo, e0, _⟩ <;> subst e0
      all_goals
        simp (maxDischargeDepth := 9) -implicitDefEqProofs only [push_cast, simprocAttr, M15, nadd1, nadd2, nadd3, nadd4, nadd5, nadd6, nadd7, nadd8, nadd9, nadd10, nadd11, nadd12, hn, hlx, c', eH1, hb1, l1, l2, nR, eX, nX, nS, lS, hb3, hc3, l3, l4, nq, nq2, t0', hcx]
        exact ⟨keeps_set (keeps_set k3 (by omega) rfl) (by omega) rfl, rfl, _, l, rfl, (fin _ _).mono (by omega)⟩
    · obtain ⟨_, _, _, _, _, q5⟩ := put_parse 9 [] F (D.drop 48) T bB (by simp) hpx
      have t12 : T.length = 12 := by rcases q5 with h | h <;> omega
      obtain rfl : t = 12 := by omega
      have t0' : (((12 : Nat) : Int) = 0) = False := eq_false (by omega)
      have hTne : T ≠ [] := by rintro rfl; simp at t12
      have sS := bv_src bsv (hmn hTne) hTne
      obtain ⟨ka, hka⟩ : ∃ ka, be (T.take 4) = ka := ⟨_, rfl⟩
      obtain ⟨tg, htg⟩ : ∃ tg, be (T.drop 4) = tg := ⟨_, rfl⟩
      have kb := be_bound (l := T.take 4) fun z hz => bsv.1 z (List.mem_of_mem_take hz)
      rw [List.length_take, t12, hka] at kb
      have htv : takeV [4, 8] T = [ka, tg] := by
        simp only [takeV, hka]
        rw [List.take_of_length_le (by rw [List.length_drop]; omega), htg]
      have hQ : parseQ P (.ok F T) = if ka = 0 then .err 5 else .ok { P with s := true, p15 := ka, p16 := tg } F := by
        simp only [parseQ]
        rw [if_neg (by omega), hka, htg]
      rw [hQ]
      clear hQ
      have xo2 := xo1.set (q := H1.length) (z := ⟨.tip false, .vals (P.l xv)⟩) (by omega)
      have kz4 := keeps_set (z := ⟨.tip false, .vals (P.l xv)⟩) k3 (show g.length ≤ H1.length by omega) rfl
      have hG4 : Good (H3.set H1.length ⟨.tip false, .vals (P.l xv)⟩) := good_set hG3 rfl
      have hb4 : (H3.set H1.length ⟨.tip false, .vals (P.l xv)⟩)[g.length]? = some ⟨.tip false, .vals (pk0.l .nils)⟩ := by rw [List.getElem?_set_ne (by omega)]; exact hb3
      have hc4 : (H3.set H1.length ⟨.tip false, .vals (P.l xv)⟩)[H1.length]? = some ⟨.tip false, .vals (P.l xv)⟩ := by rw [List.getElem?_set_self l3]
      have sS4 : Src (H3.set H1.length ⟨.tip false, .vals (P.l xv)⟩) sv T := sS.set_vals hc3
      obtain ⟨H4, hH4⟩ : ∃ H4, H3.set H1.length ⟨.tip false, .vals (P.l xv)⟩ = H4 := ⟨_, rfl⟩
      rw [hH4] at xo2 kz4 hG4 hb4 hc4 sS4
      have eZ := psizes_c hG4
      obtain ⟨lv, rv', js3, pl, r', eT, tN, tR, hG6, tp, tpl, _, _⟩ := take_ok (q := H4.length) (cS := 2) (Ls := [4, 8]) (good_app (js := [⟨.tip false, .ints .i64 [4, 8]⟩]) hG4 rfl) ⟨Or.inr (by simp [szI]), by decide⟩ (sS4.app _) (by decide) (by decide) (by show 12 ≤ T.length; omega) (by omega) (by decide)
      rw [htv] at tN
      have nrv : noAny (some rv') = some rv' := by
        obtain ⟨_, _, ⟨e, _⟩ | e⟩ := tR <;> rw [e] <;> rfl
      clear tR
      have low6 : ∀ (q : Nat) (z : ABlk), H4[q]? = some z → ((H4 ++ [(⟨.tip false, .ints .i64 [4, 8]⟩ : ABlk)]) ++ js3)[q]? = some z := fun q z e => by
        rw [List.append_assoc, List.getElem?_append_left (List.getElem?_eq_some_iff.1 e).1]; exact e
      have xo6 := (xo2.app [⟨.tip false, .ints .i64 [4, 8]⟩]).app js3
      have k6 : Keeps g ((H4 ++ [(⟨.tip false, .ints .i64 [4, 8]⟩ : ABlk)]) ++ js3) none := ⟨fun q z e _ _ => low6 q z (keepsAll kz4 q z e), by have := kz4.2.1; simp; omega, fun _ => hG6⟩
      have hb6 := low6 _ _ hb4
      have hc6 := low6 _ _ hc4
      obtain ⟨H6, hH6⟩ : ∃ H6, (H4 ++ [(⟨.tip false, .ints .i64 [4, 8]⟩ : ABlk)]) ++ js3 = H6 := ⟨_, rfl⟩
      have l46 : H4.length < H6.length := by rw [← hH6]; simp
      rw [hH6] at eT tN hG6 xo6 k6 hb6 hc6
      have l16 : H1.length < H6.length := (List.getElem?_eq_some_iff.1 hc6).1
      have lg6 : g.length < H6.length := by omega
      have l34 : H4.length = H3.length := by rw [← hH4, List.length_set]
      rcases tN with ⟨_, h⟩ | ⟨p', mn', o', rfl, hp'⟩
      · cases h
      obtain rfl : p' = pl := by cases tp; rfl
      simp only [List.length_cons, List.length_nil, Nat.zero_add, Nat.reduceAdd] at eT
      have hpl := (List.getElem?_eq_some_iff.1 hp').1
      have hp1 : ¬ p' = H1.length := by simp at tpl; omega
      have hp2 : ¬ H1.length = p' := by simp at tpl; omega
      have hle6 : ¬ H6.length ≤ p' := by omega
      have w32 : IntKind.u32.wrap ka = ka := wr_u32 _ (by omega) (by have := kb.2; simp at this; omega)
      simp only [Pk.l] at hH4 hc6
      simp only [pk0, Pk.l] at hb6
      have fin := fun Z1 Z2 Z3 Z4 : ABlk => ((((xo6.set (q := H1.length) (z := Z1) (by omega)).set (q := H1.length) (z := Z2) (by omega)).set (q := H1.length) (z := Z3) (by omega)).set (q := g.length) (z := Z4) (by omega))
      have kfin := fun (Z1 Z2 Z3 Z4 : ABlk) (e1 : notOld Z1 = true) (e2 : notOld Z2 = true) (e3 : notOld Z3 = true) (e4 : notOld Z4 = true) => keeps_set (keeps_set (keeps_set (keeps_set k6 (show g.length ≤ H1.length by omega) e1) (show g.length ≤ H1.length by omega) e2) (show g.length ≤ H1.length by omega) e3) (Nat.le_refl g.length) e4
      rcases Classical.propComplete (ka = 0) with c5 | c5 <;> rcases xo1.gx.2 with ⟨e0, _⟩ | ⟨pp, mn, oo, e0, _⟩ <;> subst e0
      all_goals
        simp (maxDischargeDepth := 9) -implicitDefEqProofs only [push_cast, simprocAttr, M15, nadd1, nadd2, nadd3, nadd4, nadd5, nadd6, nadd7, nadd8, nadd9, nadd10, nadd11, nadd12, hn, hlx, c', eH1, hb1, l1, l2, nR, eX, nX, nS, lS, hb3, hc3, l3, l4, nq, nq2, t0', hcx, hH4, eZ, eT, nrv, hp', hpl, hp1, hp2, hb6, hc6, l16, lg6, w32, c5, hle6, decide_false, Bool.not_false, Bool.and_true]
        first
        | exact ⟨keeps_set (keeps_set k6 (by omega) rfl) (by omega) rfl, rfl, rfl⟩
        | exact ⟨keeps_set (keeps_set k6 (by omega) rfl) (by omega) rfl, rfl, _, l, rfl, ((xo6.set (by omega)).set (by omega)).mono (by omega)⟩
        | exact ⟨kfin _ _ _ _ rfl rfl rfl rfl, rfl, rfl⟩
        | exact ⟨kfin _ _ _ _ rfl rfl rfl rfl, rfl, _, l, rfl, (fin _ _ _ _).mono (by omega)⟩
end
end Go.Proofs.YtdpbbagllhfjbaaDoorW.AI.G

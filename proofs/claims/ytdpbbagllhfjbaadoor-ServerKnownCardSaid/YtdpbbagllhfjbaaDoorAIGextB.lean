import Derived.Test.YtdpbbagllhfjbaaDoorAIGextA
namespace Go.Proofs.YtdpbbagllhfjbaaDoorW.AI.G
open Go Go.Proofs.YtdpbbagllhfjbaaDoorW.AI Go.Proofs.YtdpbbagllhfjbaaDoorW.AI.Oct
set_option maxRecDepth 100000
set_option linter.unusedSimpArgs false
set_option linter.unusedVariables false
set_option linter.unusedSectionVars false
theorem BV.keep {h h' : AHeap} {x : AV} {D : List Int} (s : BV h x D) (hm : ∀ (q : Nat) (z : ABlk), h[q]? = some z → h'[q]? = some z) : BV h' x D := s.mono fun q z e _ _ => hm q z e
theorem XR.keep {h h' : AHeap} {x : AV} {F : List (Int × List Int)} {b o : Nat} {l : List AV} (r : XR h x F b o l) (hl : h.length ≤ h'.length) (hm : ∀ (q : Nat) (z : ABlk), h[q]? = some z → h'[q]? = some z) : XR h' x F b o l := by
  refine ⟨r.len, r.ia, fun hF => ?_, fun i t D hi => ?_⟩
  · obtain ⟨h1, h2, h3⟩ := r.cells hF
    have e := hm b _ (List.getElem?_eq_getElem h3)
    rw [← List.getElem?_eq_getElem h3] at e
    exact ⟨by unfold cellsAt at h1 ⊢; rw [e]; exact h1, by unfold faceOk at h2 ⊢; rw [e]; exact h2, by omega⟩
  · obtain ⟨h1, h2, d, h3, h4, h5⟩ := r.elt i t D hi
    exact ⟨h1, h2, d, h3, h4.keep hm, h5⟩
/-- A field's bytes, and fields' bytes. -/
def putF (z : Int × List Int) : List Int := dg 2 z.1 ++ (dg 2 ((z.2.length : Int) + 4) ++ z.2)
def putX (F : List (Int × List Int)) : List Int := (F.map putF).flatten
theorem putX_snoc (F : List (Int × List Int)) (z : Int × List Int) : putX (F ++ [z]) = putX F ++ putF z := by simp [putX]
theorem putF_len (z : Int × List Int) : (putF z).length = z.2.length + 4 := by simp [putF, dg_len]; omega
theorem putX_len : ∀ {F : List (Int × List Int)}, (∀ z ∈ F, z.2.length ≤ 464) → (putX F).length ≤ 468 * F.length
  | [], _ => by simp [putX]
  | z :: F, h => by
    have h1 := putX_len (F := F) fun y hy => h y (List.mem_cons_of_mem _ hy)
    have h2 := h z List.mem_cons_self
    have h3 := putF_len z
    simp only [putX, List.map_cons, List.flatten_cons, List.length_append, List.length_cons] at h1 ⊢
    omega
theorem putX_byt : ∀ {F : List (Int × List Int)}, (∀ z ∈ F, Byt z.2) → Byt (putX F)
  | [], _ => by intro x hx; simp [putX] at hx
  | z :: F, h => by
    have h1 := putX_byt (F := F) fun y hy => h y (List.mem_cons_of_mem _ hy)
    have h2 := h z List.mem_cons_self
    simp only [putX, List.map_cons, List.flatten_cons] at h1 ⊢
    exact ((dg_byt _ _).app ((dg_byt _ _).app h2)).app h1
theorem mayX_all {F : List (Int × List Int)} (h : mayX F = true) : F.length ≤ 8 ∧ ∀ z ∈ F, 12 ≤ z.2.length ∧ z.2.length ≤ 464 ∧ z.2.length % 4 = 0 := by
  simp only [mayX, Bool.and_eq_true, decide_eq_true_eq, Bool.not_eq_true', List.any_eq_false] at h
  refine ⟨h.1, fun z hz => ?_⟩
  have := h.2 z hz
  simp only [badX, mayN, Bool.not_eq_true', Bool.not_eq_false', Bool.and_eq_true, decide_eq_true_eq] at this
  simp only [Bool.not_eq_false] at this
  simp at this
  omega
/-- Keeps, with nothing but what g holds asked for. -/
theorem keepsAll {g h : AHeap} (k : Keeps g h none) : ∀ (q : Nat) (z : ABlk), g[q]? = some z → h[q]? = some z := fun q z e => k.1 q z e (by simp) (by simp)
theorem keeps_js {g h : AHeap} (k : Keeps g h none) (js : AHeap) (hj : js.all notOld = true) : Keeps g (h ++ js) none :=
  ⟨fun q z e _ _ => by rw [List.getElem?_append_left (List.getElem?_eq_some_iff.1 (k.1 q z e (by simp) (by simp))).1]; exact k.1 q z e (by simp) (by simp), by have := k.2.1; simp; omega, fun hg => good_app (k.2.2 hg) hj⟩
theorem keeps_own {g h h' : AHeap} {p : Option Nat} (hg : Good g) (k : Keeps g h none) (k2 : Keeps h h' p) (hp : ∀ q, p = some q → g.length ≤ q) : Keeps g h' none :=
  Keeps.trans hg k k2 fun q hq hl => by have := hp q hq; omega
/-- No slice that may be nil. -/
def Mn (v : AV) : Prop := ∀ b o n e, v ≠ .gsl b o n e true
theorem aappend_mn {h : AHeap} {z : ACells} {bytes : Nat} {s : AV} {xs : ACells} {m : Nat} {v' : AV} {h' : AHeap} {ws : List Nat} (e : aappend h z bytes s xs m = some (v', h', ws)) (hm : 0 < m) (hs : Mn s) : Mn v' := by
  have hz : (m == 0) = false := by simp; omega
  cases s with
  | nils =>
    simp only [aappend, if_neg (show ¬ m = 0 by omega)] at e
    split at e <;> cases e
    intro b o n e h; cases h
  | sl b off n cap =>
    simp only [aappend] at e
    split at e
    · simp only [Option.map_eq_some_iff] at e
      obtain ⟨_, _, e⟩ := e
      cases e
      intro b o n e h; cases h
    · simp only [Option.bind_eq_some_iff] at e
      obtain ⟨_, _, _, _, e⟩ := e
      split at e <;> cases e
      intro b o n e h; cases h
  | gsl b off n e0 mn =>
    simp only [aappend] at e
    split at e
    · split at e
      · split at e
        · simp only [Option.bind_eq_some_iff] at e
          obtain ⟨_, _, e⟩ := e
          split at e <;> cases e
          intro b' o' n' e' h
          cases h
          exact hs _ _ _ _ rfl
        · cases e
      · cases e
    · cases e
  | _ => cases e
set_option maxHeartbeats 8000000 in
theorem put_key {g : AHeap} {x : AV} {F : List (Int × List Int)} (hg : Good g) (hx : ExtAt g x F) (hm : mayX F = true) : Wp (xbody (W CP) M74 [x] g) fun r => (∃ v, r.1 = .tup [v, .int .i64 0] ∧ GsAt r.2.1 v (putX F) ∧ (∀ p, blkOf v = some p → g.length ≤ p) ∧ (F ≠ [] → ∃ p, blkOf v = some p) ∧ (F = [] → v = .nils) ∧ Mn v) ∧ Keeps g r.2.1 none ∧ r.2.2 = [] := by
  obtain ⟨hF8, hFz⟩ := mayX_all hm
  have eM := mayX_c hg hx (by omega) (fun z hz => by have := hFz z hz; omega)
  rw [hm] at eM
  obtain ⟨b, o, l, r⟩ := hx
  have h1 := r.len
  have h2 := na_slen r.len
  have hia := r.ia
  simp (maxDischargeDepth := 9) -implicitDefEqProofs only [push_cast, simprocAttr, M74, nadd1, nadd2, nadd3, nadd4, nadd5, nadd6, nadd7, nadd8, nadd9, nadd10, nadd11, nadd12, h1, h2, eM]
  refine wp_kRes (wp_kSeq (wp_kBlock ?_))
  refine wp_loop (fun k a h' ws => ∃ i : Nat, k = F.length - i ∧ i ≤ F.length ∧ (∃ v, a = [(4, v), (12, x), (13, .int .i64 (F.length : Int)), (14, .int .i64 (i : Int))] ∧ GsAt h' v (putX (F.take i)) ∧ (∀ p, blkOf v = some p → g.length ≤ p) ∧ (0 < i → ∃ p, blkOf v = some p) ∧ (i = 0 → v = .nils) ∧ Mn v) ∧ Keeps g h' none ∧ ws = []) F.length ?_ ?_
  · refine ⟨0, by omega, by omega, ⟨.nils, ?_, Or.inl ⟨rfl, rfl⟩, by simp [blkOf], by omega, fun _ => rfl, fun _ _ _ _ h => by cases h⟩, Keeps.refl _ _, rfl⟩
    simp (maxDischargeDepth := 9) -implicitDefEqProofs only [push_cast, simprocAttr, h2]
  · rintro k aa H ws ⟨i, rfl, hi, ⟨v, rfl, gv, gp, gi, g0, gm⟩, gk, rfl⟩
    have v1 : IntKind.i64.wrap ((i : Int) + 1) = (i : Int) + 1 := wr_i64 _ (by omega) (by omega)
    have hnv := na_slen gv.slen
    by_cases hlt : i < F.length
    · have hlt' : (i : Int) < (F.length : Int) := by omega
      obtain ⟨⟨t, D⟩, hz⟩ : ∃ z, F[i]? = some z := ⟨_, List.getElem?_eq_getElem hlt⟩
      obtain ⟨ht, l1, d, l2, hd, hnn⟩ := r.elt i t D hz
      have hHl := gk.2.1
      obtain ⟨q1, q2, q3⟩ := (r.keep hHl (keepsAll gk)).ldA hlt l1 l2
      have hDz := hFz _ (List.mem_of_getElem? hz)
      simp only at hDz
      have hdc := hd.cell
      have hdn := hd.na
      have hdl := hd.len
      have hGH := gk.2.2 hg
      obtain ⟨n, hn⟩ : ∃ n, D.length = n := ⟨_, rfl⟩
      rw [hn] at hdl hDz
      have w2 : IntKind.u64.wrap t = t := wr_u64 _ (by omega) (by omega)
      have w3 : IntKind.i64.wrap ((n : Int) + 4) = (n : Int) + 4 := wr_i64 _ (by omega) (by omega)
      have w4 : IntKind.u64.wrap ((n : Int) + 4) = (n : Int) + 4 := wr_u64 _ (by omega) (by omega)
      obtain ⟨H2, hH2⟩ : ∃ H2, H ++ [(⟨.tip false, .vals [.int .u16 t, d]⟩ : ABlk), ⟨.tip false, .ints .i64 [2, 2]⟩, ⟨.tip false, .ints .u64 [t, (n : Int) + 4]⟩, ⟨.tip false, .vals [.sl (H.length + 2) 0 2 2]⟩, ⟨.tip false, .ints .i64 [0]⟩, ⟨.tip false, .ints .u8 (dg 2 t ++ dg 2 ((n : Int) + 4))⟩] = H2 := ⟨_, rfl⟩
      have eL := lay_ok (h := H ++ [⟨.tip false, .vals [.int .u16 t, d]⟩, ⟨.tip false, .ints .i64 [2, 2]⟩, ⟨.tip false, .ints .u64 [t, (n : Int) + 4]⟩]) (q := H.length + 1) (cS := 2) (r := H.length + 2) (cap := 2) (Ls := [2, 2]) (V := [t, (n : Int) + 4]) (good_app hGH rfl)
        ⟨Or.inr (by rw [List.getElem?_append_right (by omega)]; simp), by decide⟩ ⟨Or.inr (by rw [List.getElem?_append_right (by omega)]; simp), by simp⟩ rfl (by decide) (by simp only [List.mem_cons, List.not_mem_nil, or_false]; rintro v (rfl | rfl) <;> omega)
        (by
          intro i s v hs hv
          have hi2 : i < 2 := (List.getElem?_eq_some_iff.1 hs).1
          rcases (by omega : i = 0 ∨ i = 1) with rfl | rfl
          · simp only [List.getElem?_cons_zero, Option.some.injEq] at hs hv; subst hs hv; simp only [Int.reducePow]; omega
          · simp only [List.getElem?_cons_succ, List.getElem?_cons_zero, Option.some.injEq] at hs hv; subst hs hv; simp only [Int.reducePow]; omega)
      have hsum : ([2, 2] : List Nat).sum = 4 := rfl
      have hlay : layB [2, 2] [t, (n : Int) + 4] = dg 2 t ++ dg 2 ((n : Int) + 4) := by simp [layB]
      rw [hsum, hlay] at eL
      simp only [List.length_append, List.length_cons, List.length_nil, Nat.add_assoc, Nat.reduceAdd, Nat.zero_add, List.append_assoc, List.cons_append, List.nil_append, hH2] at eL
      have k2 : Keeps g H2 none := by rw [← hH2]; exact keeps_js gk _ rfl
      have hL2 : H2.length = H.length + 6 := by rw [← hH2]; simp
      have gv2 : GsAt H2 v (putX (F.take i)) := gv.keeps (p := none) (by rw [← hH2]; exact Keeps.app _ _ _ rfl) (by simp)
      have hl1 : (dg 2 t ++ dg 2 ((n : Int) + 4)).length = 4 := by simp [dg_len]
      have hq5 : H2[H.length + 5]? = some ⟨.tip false, .ints .u8 (dg 2 t ++ dg 2 ((n : Int) + 4))⟩ := by rw [← hH2, List.getElem?_append_right (by omega)]; simp
      have hq0 : H2[H.length]? = some ⟨.tip false, .vals [.int .u16 t, d]⟩ := by rw [← hH2]; exact end_get _ _ _
      have hnew1 : newCells H2 (.ints .u8 [0]) (.sl (H.length + 5) 0 4 4) = some (.ints .u8 (dg 2 t ++ dg 2 ((n : Int) + 4))) := by
        have := sl_cells (c := 4) hq5
        rw [hl1] at this
        exact this
      have hsz : (putX (F.take i)).length ≤ 468 * 8 := by
        have := putX_len (F := F.take i) fun z hz => (hFz z (List.mem_of_mem_take hz)).2.1
        have : (F.take i).length ≤ 8 := by rw [List.length_take]; omega
        omega
      obtain ⟨va, H3, wa, ea, ga, ka, wsa, ba, la⟩ := app_one gv2 hl1 (by omega) (by omega)
      have k3 : Keeps g H3 none := keeps_own hg k2 ka gp
      have hq3 : H3[H.length]? = some ⟨.tip false, .vals [.int .u16 t, d]⟩ := ka.1 _ _ hq0 (fun j _ => by simp) (fun e => by
        rcases gv with ⟨rfl, _⟩ | ⟨p', mn, o', rfl, e'⟩
        · cases e
        · simp only [blkOf, Option.some.injEq] at e
          subst e
          have := (List.getElem?_eq_some_iff.1 e').1
          omega)
      have hq3l := (List.getElem?_eq_some_iff.1 hq3).1
      have hnva := na_slen ga.slen
      have hnew2 := (hd.keep (keepsAll k3)).new
      have wz : ∀ b ∈ wa, g.length ≤ b := fun b hb => gp b (wsa b hb)
      have hwa : wadd g.length [] wa = [] := wadd_ge wz
      have hcw : List.contains wa H.length = false := by
        rw [List.contains_eq_any_beq, List.any_eq_false]
        intro b hb
        have := wsa b hb
        rcases gv with ⟨rfl, _⟩ | ⟨p', mn, o', rfl, e'⟩
        · cases this
        · simp only [blkOf, Option.some.injEq] at this
          subst this
          have := (List.getElem?_eq_some_iff.1 e').1
          simp; omega
      have hel : List.elem H.length wa = false := hcw
      obtain ⟨vb, H4, wb, eb, gb, kb, wsb, bb, lb⟩ := app_one (xs := D) ga hn (by omega) (by rw [List.length_append, hl1]; omega)
      have gpa : ∀ q, blkOf va = some q → g.length ≤ q := fun q e => by rw [ba] at e; cases e; omega
      have k4 : Keeps g H4 none := keeps_own hg k3 kb gpa
      have hwb : wadd g.length [] wb = [] := wadd_ge fun b hb => gpa b (wsb b hb)
      have hnvb := na_slen gb.slen
      have hlo : ¬ H2.length ≤ H.length := by omega
      have hnl : ¬ H.length < g.length := by omega
      have hgF : putX (F.take (i + 1)) = putX (F.take i) ++ (dg 2 t ++ dg 2 ((n : Int) + 4)) ++ D := by
        rw [List.take_add_one, hz]
        simp only [Option.toList_some]
        rw [putX_snoc, putF]
        simp [hn]
      simp (maxDischargeDepth := 9) -implicitDefEqProofs only [push_cast, simprocAttr, nadd1, nadd2, nadd3, nadd4, nadd5, nadd6, nadd7, nadd8, nadd9, nadd10, nadd11, nadd12, hlt', h1, h2, v1, ↓ia_eq, hia, hlt, ↓ldv_eq 16, q1, hdc, hdl, hdn, w2, w3, w4, hnl, hH2, eL, hnv, hnew1, ea, hq3, hq3l, hnew2, hnva, eb, hwa, hwb, hcw, hel, hlo, hnvb]
      refine loop_next (F.length - (i + 1)) (by omega) ⟨i + 1, rfl, by omega, ⟨vb, ?_, by rw [hgF]; exact gb, fun p e => by rw [bb] at e; cases e; have := k3.2.1; omega, fun _ => ⟨_, bb⟩, by omega, aappend_mn eb (by omega) (aappend_mn ea (by omega) gm)⟩, k4, rfl⟩
      simp (maxDischargeDepth := 9) -implicitDefEqProofs only [push_cast, simprocAttr, hnvb, h2]; try simp
    · have hi2 : i = F.length := by omega
      subst hi2
      have hnl : ¬ (F.length : Int) < (F.length : Int) := by omega
      rw [List.take_length] at gv
      simp (maxDischargeDepth := 9) -implicitDefEqProofs only [push_cast, simprocAttr, hnv]
      exact ⟨⟨v, rfl, gv, gp, fun hne => gi (List.length_pos_iff.2 hne), fun h => g0 (by rw [h]; rfl), gm⟩, gk⟩
end Go.Proofs.YtdpbbagllhfjbaaDoorW.AI.G
namespace Go.Proofs.YtdpbbagllhfjbaaDoorW.AI.G
open Go Go.Proofs.YtdpbbagllhfjbaaDoorW.AI Go.Proofs.YtdpbbagllhfjbaaDoorW.AI.Oct
set_option maxRecDepth 100000
set_option linter.unusedSimpArgs false
set_option linter.unusedVariables false
set_option linter.unusedSectionVars false
/-- What Put answers. -/
def PutPost (g : AHeap) (F : List (Int × List Int)) (r : AV × AHeap × List Nat) : Prop := (∃ v, r.1 = .tup [v, .int .i64 0] ∧ GsAt r.2.1 v (putX F) ∧ (∀ p, blkOf v = some p → g.length ≤ p) ∧ (F ≠ [] → ∃ p, blkOf v = some p) ∧ (F = [] → v = .nils) ∧ Mn v) ∧ Keeps g r.2.1 none ∧ r.2.2 = []
theorem put_from {f : Nat} {m : MFunc} {h : AHeap} {x : AV} {F : List (Int × List Int)} (hp : ∀ h, CP.prim f [x] h = none) (hm : CP.mp f = some m) (ht : m.trim = true) (hg : Good h) (hx : ExtAt h x F) (key : ∀ g, Good g → ExtAt g x F → Wp (xbody (W CP) m [x] g) (PutPost g F)) :
    ∃ v js, W CP f [x] h = some (.tup [v, .int .i64 0], h ++ js, []) ∧ GsAt (h ++ js) v (putX F) ∧ Good (h ++ js) ∧ (∀ p, blkOf v = some p → h.length ≤ p) ∧ Mn v := by
  by_cases hF : F = []
  · subst hF
    refine ⟨.nils, [], ?_, Or.inl ⟨rfl, rfl⟩, by rw [List.append_nil]; exact hg, by simp [blkOf], fun _ _ _ _ h => by cases h⟩
    rw [List.append_nil]
    refine W_bothH (m := m) (fun g => ExtAt g x []) hp hm ht rfl glG (fun h0 => ?_) (fun g hg hx => ?_) hg hx
    · simp only [AV.lts, Bool.and_eq_true] at h0
      exact hx.gl h0.1
    · refine (key g hg hx).mono fun r hr => ?_
      obtain ⟨⟨v, e1, _, _, _, e2, _⟩, k, e3⟩ := hr
      rw [e2 rfl] at e1
      exact ⟨e1, k.behind, e3⟩
  · obtain ⟨⟨v, h', ws⟩, e, ⟨v', rfl, gv, gp, gi, _, gm⟩, k, rfl⟩ := key h hg hx
    obtain ⟨p, hpp⟩ := gi hF
    simp only at gv k
    obtain ⟨js, rfl⟩ := k.behind
    have hx0 : AV.lts 0 [x] = false := by
      rw [Bool.eq_false_iff]
      intro h0
      simp only [AV.lts, Bool.and_eq_true] at h0
      obtain ⟨_, hn⟩ := slen_nil hx.len h0.1
      exact hF (List.length_eq_zero_iff.1 hn)
    have hvl : v'.lt h.length = false := by
      have := gp p hpp
      cases v' <;> simp [blkOf] at hpp <;> simp [AV.lt] <;> omega
    refine ⟨v', js, ?_, gv, k.2.2 hg, gp, gm⟩
    rw [W_body (m := m) (hp h) hm hx0 e, ht, if_pos rfl, trim_addr (by simp [AV.lt, AV.lts, hvl])]
theorem xput_ok {h : AHeap} {x : AV} {F : List (Int × List Int)} (hg : Good h) (hx : ExtAt h x F) (hm : mayX F = true) : ∃ v js, W CP 74 [x] h = some (.tup [v, .int .i64 0], h ++ js, []) ∧ GsAt (h ++ js) v (putX F) ∧ Good (h ++ js) ∧ (∀ p, blkOf v = some p → h.length ≤ p) ∧ Mn v :=
  put_from (m := M74) (fun _ => rfl) rfl rfl hg hx fun g hg hx => put_key hg hx hm
end Go.Proofs.YtdpbbagllhfjbaaDoorW.AI.G
namespace Go.Proofs.YtdpbbagllhfjbaaDoorW.AI.G
open Go Go.Proofs.YtdpbbagllhfjbaaDoorW.AI Go.Proofs.YtdpbbagllhfjbaaDoorW.AI.Oct
set_option maxRecDepth 100000
set_option linter.unusedSimpArgs false
set_option linter.unusedVariables false
set_option linter.unusedSectionVars false
/-- Whole numbers as lengths: those below 0 are none. -/
theorem may_neg {n : Int} (hn : n < 0) (hl : -1000 ≤ n) (h : AHeap) : W CP 68 [.int .i64 n] h = some (.bool false, h, []) := by
  refine W_val (m := M68) (fun _ => rfl) rfl rfl rfl ?_ h
  have c2 : ¬ 12 ≤ n := by omega
  by_cases c1 : Int.tmod n 4 = 0
  · simp (maxDischargeDepth := 9) -implicitDefEqProofs only [push_cast, simprocAttr, M68, c1, c2]
  · simp (maxDischargeDepth := 9) -implicitDefEqProofs only [push_cast, simprocAttr, M68, c1, c2]
def mayI (n : Int) : Bool := decide (0 ≤ n) && mayN n.toNat
theorem may_i {n : Int} (h0 : -1000 ≤ n) (h1 : n < 1000000000) (h : AHeap) : W CP 68 [.int .i64 n] h = some (.bool (mayI n), h, []) := by
  unfold mayI
  by_cases c : n < 0
  · rw [may_neg c h0, decide_eq_false (by omega)]; rfl
  · obtain ⟨k, rfl⟩ : ∃ k : Nat, n = (k : Int) := ⟨n.toNat, by omega⟩
    rw [may_n (by omega), decide_eq_true (by omega)]
    simp
theorem mayI_le {n : Int} (h : mayI n = true) : 12 ≤ n ∧ n ≤ 464 := by
  simp only [mayI, mayN, Bool.and_eq_true, decide_eq_true_eq] at h
  omega
/-- What reading fields comes to. -/
inductive PR where
  | ok (F : List (Int × List Int)) (D : List Int)
  | err (e : Int)
/-- The type and the length that a field's bytes tell. -/
def typF (D : List Int) : Int := be (D.take 2)
def lenF (D : List Int) : Int := be ((D.drop 2).take 2) - 4
def parseX : Nat → List (Int × List Int) → List Int → PR
  | 0, _, _ => .err 7
  | k + 1, F, D => if D.length = 0 ∨ D.length = 12 then .ok F D else if D.length < 16 then .err 4 else if mayI (lenF D) = false then .err 5 else if (D.length : Int) < lenF D + 4 then .err 4 else if F.length = 8 then .err 7
    else parseX k (F ++ [(typF D, (D.drop 4).take (lenF D).toNat)]) (D.drop (4 + (lenF D).toNat))
/-- A row of fields that append makes. -/
def GxAt (h : AHeap) (v : AV) (n : Nat) (l : List AV) : Prop :=
  l.length = n * 2 ∧ ((v = .nils ∧ n = 0) ∨ ∃ p mn o, v = .gsl p 0 n 2 mn ∧ h[p]? = some ⟨.tip o, .vals l⟩)
theorem GxAt.slen {h : AHeap} {v : AV} {n : Nat} {l : List AV} (g : GxAt h v n l) : slen v = some n := by
  rcases g.2 with ⟨rfl, rfl⟩ | ⟨p, mn, o, rfl, _⟩ <;> rfl
theorem GxAt.keeps {h h' : AHeap} {v : AV} {n : Nat} {l : List AV} {p : Option Nat} (g : GxAt h v n l) (k : Keeps h h' p) (hne : ∀ q, blkOf v = some q → p ≠ some q) : GxAt h' v n l := by
  refine ⟨g.1, ?_⟩
  rcases g.2 with ⟨rfl, rfl⟩ | ⟨q, mn, o, rfl, hq⟩
  · exact Or.inl ⟨rfl, rfl⟩
  · exact Or.inr ⟨q, mn, o, rfl, k.1 q _ hq (fun j _ => by simp) (hne q rfl)⟩
theorem app_oneX {h : AHeap} {v : AV} {n : Nat} {l : List AV} {t : Int} {d : AV} (hv : GxAt h v n l) (hr : n < 1000) :
    ∃ v' h' ws, aappend h (.vals [.int .u16 0, .nils]) 32 v (.vals [.int .u16 t, d]) 1 = some (v', h', ws) ∧ GxAt h' v' (n + 1) (l ++ [.int .u16 t, d]) ∧ Keeps h h' (blkOf v) ∧ (∀ b ∈ ws, blkOf v = some b) ∧ blkOf v' = some h.length ∧ h'.length = h.length + 1 := by
  have room1 : ∀ n, n < 10000 → room n 32 = true := by
    intro n hn
    simp only [room, decide_eq_true_eq]
    omega
  obtain ⟨hl, hv⟩ := hv
  rcases hv with ⟨rfl, rfl⟩ | ⟨p, mn, o, rfl, hp⟩
  · obtain rfl : l = [] := List.length_eq_zero_iff.1 (by omega)
    refine ⟨.gsl h.length 0 1 2 false, h ++ [.new (.vals [.int .u16 t, d])], [], ?_, ⟨by simp, Or.inr ⟨h.length, false, false, by simp, ?_⟩⟩, Keeps.app _ _ _ rfl, by simp, rfl, by simp⟩
    · simp only [aappend, ACells.len]
      rw [room1 _ (by omega)]
      rfl
    · rw [List.getElem?_append_right (by omega)]; simp [ABlk.new]
  · have hpl := (List.getElem?_eq_some_iff.1 hp).1
    refine ⟨.gsl h.length 0 (n + 1) 2 mn, ((if o then reTip p h.length h else h).set p ⟨.old h.length, .vals l⟩) ++ [⟨.tip true, .vals (l ++ [.int .u16 t, d])⟩], [p], ?_, ⟨by simp; omega, Or.inr ⟨h.length, mn, true, rfl, ?_⟩⟩, ?_, by simp [blkOf], rfl, by cases o <;> simp [len_reTip]⟩
    · simp only [aappend, ACells.len, List.length_cons, List.length_nil, hp]
      simp only [Nat.zero_add, if_true]
      rw [if_pos (by omega)]
      simp only [ACells.sub, List.drop_zero, ACells.app, Option.bind_some]
      rw [show n * 2 = l.length by omega, List.take_length]
      rw [room1 _ (by omega)]
      simp
    · rw [List.getElem?_append_right (by cases o <;> simp [len_reTip])]
      cases o <;> simp [len_reTip]
    · refine ⟨fun q x hq hx hne => ?_, by cases o <;> simp [len_reTip], fun hg => ?_⟩
      · have hql := (List.getElem?_eq_some_iff.1 hq).1
        have hpq : p ≠ q := fun e => hne (by rw [e]; rfl)
        rw [List.getElem?_append_left (by cases o <;> simp [len_reTip] <;> exact hql), List.getElem?_set_ne hpq]
        cases o
        · exact hq
        · exact reTip_keeps hq (hx p rfl)
      · cases o
        · exact good_set_old (y := ⟨.tip true, .vals (l ++ [.int .u16 t, d])⟩) hg hpl
        · exact good_reTip (y := ⟨.tip true, .vals (l ++ [.int .u16 t, d])⟩) hg hpl
/-- Bytes stay where their block stays. -/
theorem BV.keeps {h h' : AHeap} {x : AV} {D : List Int} {p : Option Nat} (s : BV h x D) (k : Keeps h h' p) (hne : ∀ q, blkS x = some q → p ≠ some q) : BV h' x D := by
  obtain ⟨hB, k' | ⟨b, o, c, st, l, mn, e, hs, hl, hd, k'⟩⟩ := s
  · exact ⟨hB, Or.inl k'⟩
  · refine ⟨hB, Or.inr ⟨b, o, c, st, l, mn, k.1 b _ e (fun j _ => ?_) (hne b ?_), hs, hl, hd, k'⟩⟩
    · rcases hs with rfl | ⟨o', rfl⟩ <;> simp
    · rcases k' with ⟨rfl, _⟩ | rfl <;> rfl
/-- The fields that a row of cells holds. -/
def Ents (h : AHeap) (v : AV) (l : List AV) (F : List (Int × List Int)) : Prop := ∀ (i : Nat) (t : Int) (D : List Int), F[i]? = some (t, D) → (0 ≤ t ∧ t < 65536) ∧ l[i * 2]? = some (.int .u16 t) ∧ ∃ d, l[i * 2 + 1]? = some d ∧ BV h d D ∧ nilOf d ≠ none ∧ ∀ q, blkS d = some q → blkOf v ≠ some q
theorem Ents.keeps {h h' : AHeap} {v : AV} {l : List AV} {F : List (Int × List Int)} (e : Ents h v l F) (k : Keeps h h' none) : Ents h' v l F := fun i t D hi => by
  obtain ⟨h1, h2, d, h3, h4, h5, h6⟩ := e i t D hi
  exact ⟨h1, h2, d, h3, h4.keeps k (by simp), h5, h6⟩
theorem Ents.snoc {h h' : AHeap} {v v' : AV} {l : List AV} {F : List (Int × List Int)} {t : Int} {d : AV} {D : List Int} (e : Ents h v l F) (hl : l.length = F.length * 2) (k : Keeps h h' (blkOf v)) (hv' : blkOf v' = some h.length)
    (ht : 0 ≤ t ∧ t < 65536) (hd : BV h d D) (hnn : nilOf d ≠ none) (hq : ∀ q, blkS d = some q → blkOf v ≠ some q) : Ents h' v' (l ++ [.int .u16 t, d]) (F ++ [(t, D)]) := by
  intro i u E hi
  have lt_of : ∀ {x : AV} {C : List Int}, BV h x C → ∀ q, blkS x = some q → blkOf v' ≠ some q := by
    intro x C hx q hq' he
    rw [hv'] at he
    cases he
    have := hx.lt
    cases x <;> simp [blkS] at hq' <;> simp [AV.lt] at this <;> omega
  by_cases hlt : i < F.length
  · rw [List.getElem?_append_left hlt] at hi
    obtain ⟨h1, h2, c, h3, h4, h5, h6⟩ := e i u E hi
    refine ⟨h1, by rw [List.getElem?_append_left (by omega)]; exact h2, c, by rw [List.getElem?_append_left (by omega)]; exact h3, h4.keeps k fun q hq e => h6 q hq e, h5, lt_of h4⟩
  · have hil := (List.getElem?_eq_some_iff.1 hi).1
    simp only [List.length_append, List.length_cons, List.length_nil] at hil
    obtain rfl : i = F.length := by omega
    rw [List.getElem?_append_right (Nat.le_refl _), Nat.sub_self] at hi
    simp only [List.getElem?_cons_zero, Option.some.injEq, Prod.mk.injEq] at hi
    obtain ⟨rfl, rfl⟩ := hi
    refine ⟨ht, by rw [List.getElem?_append_right (by omega), hl, Nat.sub_self]; rfl, d, ?_, hd.keeps k fun q hq' e => hq q hq' e, hnn, lt_of hd⟩
    rw [List.getElem?_append_right (by omega), hl, Nat.add_sub_cancel_left]; rfl
theorem GxAt.ext {h : AHeap} {v : AV} {l : List AV} {F : List (Int × List Int)} (g : GxAt h v F.length l) (e : Ents h v l F) : ExtAt h v F := by
  rcases g.2 with ⟨rfl, hn⟩ | ⟨p, mn, o, rfl, hp⟩
  · obtain rfl : F = [] := List.length_eq_zero_iff.1 hn
    exact ExtAt.nil h
  · refine ⟨p, 0, l, rfl, fun g i hi => ?_, fun _ => ⟨cellsAt_of hp (by simp), ?_, (List.getElem?_eq_some_iff.1 hp).1⟩, fun i t D hi => ?_⟩
    · simp only [iaV]; rw [if_pos ⟨trivial, hi⟩]
    · unfold faceOk; rw [hp]
    · obtain ⟨h1, h2, d, h3, h4, h5, _⟩ := e i t D hi
      exact ⟨h1, by rw [Nat.zero_add]; exact h2, d, by rw [Nat.zero_add]; exact h3, h4, h5⟩
end Go.Proofs.YtdpbbagllhfjbaaDoorW.AI.G

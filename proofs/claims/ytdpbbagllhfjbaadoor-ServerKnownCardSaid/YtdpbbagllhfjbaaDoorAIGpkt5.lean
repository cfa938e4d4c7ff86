import Derived.Test.YtdpbbagllhfjbaaDoorAIGpkt4
import Derived.Test.YtdpbbagllhfjbaaDoorAIGpkt2b
namespace Go.Proofs.YtdpbbagllhfjbaaDoorW.AI.G
open Go Go.Proofs.YtdpbbagllhfjbaaDoorW.AI Go.Proofs.YtdpbbagllhfjbaaDoorW.AI.Oct
set_option maxRecDepth 100000
set_option linter.unusedSimpArgs false
set_option linter.unusedVariables false
set_option linter.unusedSectionVars false
theorem psizes_c {h : AHeap} (hg : Good h) : W CP 40 [] h = some (.sl h.length 0 2 2, h ++ [⟨.tip false, .ints .i64 [4, 8]⟩], []) := by
  obtain ⟨r, e, rfl⟩ := W_addrH (C := CP) (f := 40) (args := []) (m := M40) Good (fun g r => r = (.sl g.length 0 2 2, g ++ [⟨.tip false, .ints .i64 [4, 8]⟩], [])) (fun _ => rfl) rfl rfl (fun _ => glG) (fun g hg => by simp (maxDischargeDepth := 9) -implicitDefEqProofs only [push_cast, simprocAttr, M40]; first | rfl | simp [AV.lt]) hg
  exact e
/-- A signature's bytes. -/
def signB (P : Pk) : List Int := dg 4 P.p15 ++ dg 8 P.p16
/-- A packet's bytes. -/
def putP (P : Pk) (F : List (Int × List Int)) : List Int := bodyP P F ++ if P.s = true then signB P else []
theorem signB_len (P : Pk) : (signB P).length = 12 := by simp [signB, dg_len]
theorem signB_byt (P : Pk) : Byt (signB P) := by
  have := layB_byt [4, 8] [P.p15, P.p16]
  simpa [signB, layB] using this
theorem putP_byt {P : Pk} {F : List (Int × List Int)} (h : ∀ z ∈ F, Byt z.2) : Byt (putP P F) := by
  unfold putP
  refine (bodyP_byt h).app ?_
  split
  · exact signB_byt P
  · intro x hx; simp at hx
theorem mayP_parts {P : Pk} {F : List (Int × List Int)} (h : mayP P F = true) : mayH P.p0 P.p1 P.p2 = true ∧ mayX F = true ∧ mayS P = true ∧ mayT P = true := by
  unfold mayP at h
  simp only [Bool.and_eq_true] at h
  exact ⟨h.1, h.2.1, h.2.2.1, h.2.2.2⟩
theorem TailAt.app {h : AHeap} {v : AV} {L : List Int} {n : Nat} (t : TailAt h v L n) (js : AHeap) : TailAt (h ++ js) v L n := by
  have lo : ∀ (q : Nat) (z : ABlk), h[q]? = some z → (h ++ js)[q]? = some z := fun q z e => by rw [List.getElem?_append_left (List.getElem?_eq_some_iff.1 e).1]; exact e
  obtain ⟨p, hp, hh⟩ := t
  rcases hh with ⟨e, hq⟩ | ⟨o, mn, e, hq⟩
  · exact ⟨p, hp, Or.inl ⟨e, lo _ _ hq⟩⟩
  · exact ⟨p, hp, Or.inr ⟨o, mn, e, lo _ _ hq⟩⟩
def PkPost (q : Bool) (g : AHeap) (L : List Int) (r : AV × AHeap × List Nat) : Prop := Keeps g r.2.1 none ∧ r.2.2 = [] ∧ ((L.length ≤ 512 ∧ ∃ v, r.1 = .tup [v, .int .i64 0] ∧ TailAt r.2.1 v L g.length ∧ (q = true → Mn v)) ∨ (¬ L.length ≤ 512 ∧ r.1 = .tup [.nils, .int .i64 3]))
section
variable {P : Pk} {x : AV} {F : List (Int × List Int)} {h : AHeap}
set_option maxHeartbeats 8000000 in
theorem pput_key (ok : P.Ok) (hm : mayP P F = true) (hxc : x.isCell = true) {g : AHeap} (hg : Good g) (ha : At0 g) (hx : ExtAt g x F) : Wp (xbody (W CP) M24 [.agg (P.l x)] g) (PkPost true g (putP P F)) := by
  obtain ⟨mH, mX, mS, mT⟩ := mayP_parts hm
  obtain ⟨h8, hz⟩ := mayX_all mX
  have hn := na_slen hx.len
  obtain ⟨H0, hH0⟩ : ∃ H0, g ++ [ABlk.new (.vals (P.l x))] = H0 := ⟨_, rfl⟩
  have hG0 : Good H0 := by rw [← hH0]; exact good_app hg rfl
  have hA0 : At0 H0 := by rw [← hH0]; exact ha.app _
  have hx0 : ExtAt H0 x F := by rw [← hH0]; exact hx.app _
  have hq0 : H0[g.length]? = some ⟨.tip false, .vals (P.l x)⟩ := by rw [← hH0]; exact end_get _ _ _
  have hl0 : H0.length = g.length + 1 := by rw [← hH0]; simp
  have k0 : Keeps g H0 none := by rw [← hH0]; exact Keeps.app g _ none rfl
  have eM := pmay_c (P := P) hx0 hxc hG0 (by omega) (fun z hz' => by have := hz z hz'; omega)
  rw [hm] at eM
  obtain ⟨v, js, eB, tB, mB, hG1⟩ := pbody_c ok mH mX hxc hG0 hA0 hx0
  obtain ⟨H1, hH1⟩ : ∃ H1, H0 ++ js = H1 := ⟨_, rfl⟩
  have hq1 : H1[g.length]? = some ⟨.tip false, .vals (P.l x)⟩ := by rw [← hH1, List.getElem?_append_left (by omega)]; exact hq0
  rw [hH1] at eB tB hG1
  have hl1 : g.length < H1.length := (List.getElem?_eq_some_iff.1 hq1).1
  have k1 : Keeps g H1 none := by
    have : Keeps H0 H1 none := ⟨fun q z e _ _ => by rw [← hH1, List.getElem?_append_left (List.getElem?_eq_some_iff.1 e).1]; exact e, by rw [← hH1]; simp, fun _ => hG1⟩
    exact keeps_own hg k0 this (by simp)
  have nv := tB.na
  have lv := tB.slen
  have tB1 := tB.mono (m := g.length) (by omega)
  have hbl := bodyP_len (P := P) (F := F) mX
  cases hs : P.s with
  | false =>
    have hput : putP P F = bodyP P F := by unfold putP; rw [hs]; simp
    rw [hput]
    obtain ⟨n, hnl⟩ : ∃ n, (bodyP P F).length = n := ⟨_, rfl⟩
    rw [hnl] at lv
    simp only [Pk.l, hs] at eM eB hq0 hq1 hH0
    by_cases c : n ≤ 512
    · have c' : ¬ (512 : Int) < (n : Int) := by omega
      simp (maxDischargeDepth := 9) -implicitDefEqProofs only [push_cast, simprocAttr, M24, nadd1, nadd2, nadd3, nadd4, nadd5, nadd6, nadd7, nadd8, nadd9, nadd10, nadd11, nadd12, Pk.l, hs, hH0, hxc, hn, eM, hq0, hl0, eB, hq1, hl1, nv, lv, c']
      exact ⟨k1, rfl, Or.inl ⟨by omega, v, rfl, tB1, fun _ => mB⟩⟩
    · have c' : (512 : Int) < (n : Int) := by omega
      simp (maxDischargeDepth := 9) -implicitDefEqProofs only [push_cast, simprocAttr, M24, nadd1, nadd2, nadd3, nadd4, nadd5, nadd6, nadd7, nadd8, nadd9, nadd10, nadd11, nadd12, Pk.l, hs, hH0, hxc, hn, eM, hq0, hl0, eB, hq1, hl1, nv, lv, c']
      exact ⟨k1, rfl, Or.inr ⟨by omega, rfl⟩⟩
  | true =>
    have hput : putP P F = bodyP P F ++ signB P := by unfold putP; rw [hs]; simp
    rw [hput]
    simp only [Pk.l, hs] at eM eB hq0 hq1 hH0
    have eZ := psizes_c hG1
    have w15 : IntKind.u64.wrap P.p15 = P.p15 := wr_u64 _ ok.a15 (by have := ok.b15; omega)
    obtain ⟨H2, hH2⟩ : ∃ H2, H1 ++ [(⟨.tip false, .ints .i64 [4, 8]⟩ : ABlk), ⟨.tip false, .ints .u64 [P.p15, P.p16]⟩, ⟨.tip false, .vals [.sl (H1.length + 1) 0 2 2]⟩, ⟨.tip false, .ints .i64 [0]⟩, ⟨.tip false, .ints .u8 (signB P)⟩] = H2 := ⟨_, rfl⟩
    have eL := lay_ok (h := H1 ++ [⟨.tip false, .ints .i64 [4, 8]⟩, ⟨.tip false, .ints .u64 [P.p15, P.p16]⟩]) (q := H1.length) (cS := 2) (r := H1.length + 1) (cap := 2) (Ls := [4, 8]) (V := [P.p15, P.p16]) (good_app hG1 rfl)
      ⟨Or.inr (by rw [List.getElem?_append_right (by omega)]; simp [szI]), by decide⟩ ⟨Or.inr (by rw [List.getElem?_append_right (by omega)]; simp), by simp⟩ rfl (by decide) (by simp only [List.mem_cons, List.not_mem_nil, or_false]; have := ok.a15; have := ok.b15; have := ok.a16; have := ok.b16; rintro v (rfl | rfl) <;> omega)
      (by
        intro i s v hs hv
        have := ok.b15
        have := ok.b16
        have hi2 : i < 2 := (List.getElem?_eq_some_iff.1 hs).1
        rcases (by omega : i = 0 ∨ i = 1) with rfl | rfl
        · simp only [List.getElem?_cons_zero, Option.some.injEq] at hs hv; subst hs hv; simp only [Int.reducePow]; omega
        · simp only [List.getElem?_cons_succ, List.getElem?_cons_zero, Option.some.injEq] at hs hv; subst hs hv; simp only [Int.reducePow]; omega)
    have hsum : ([4, 8] : List Nat).sum = 12 := rfl
    have hle : ¬ H1.length ≤ g.length := by omega
    have hlay : layB [4, 8] [P.p15, P.p16] = signB P := by simp [layB, signB]
    rw [hsum, hlay] at eL
    simp only [List.length_append, List.length_cons, List.length_nil, Nat.add_assoc, Nat.reduceAdd, Nat.zero_add, List.append_assoc, List.cons_append, List.nil_append, hH2] at eL
    have hG2 : Good H2 := by rw [← hH2]; exact good_app hG1 rfl
    have k2 : Keeps g H2 none := by rw [← hH2]; exact keeps_js k1 _ rfl
    have hL2 : H2.length = H1.length + 5 := by rw [← hH2]; simp
    have hq4 : H2[H1.length + 4]? = some ⟨.tip false, .ints .u8 (signB P)⟩ := by rw [← hH2, List.getElem?_append_right (by omega)]; simp
    have hnew : newCells H2 (.ints .u8 [0]) (.sl (H1.length + 4) 0 12 12) = some (.ints .u8 (signB P)) := by
      have := sl_cells (c := 12) hq4
      rw [signB_len] at this
      exact this
    have t2 : TailAt H2 v (bodyP P F) g.length := by rw [← hH2]; exact tB1.app _
    obtain ⟨n, hnl⟩ : ∃ n, (bodyP P F).length = n := ⟨_, rfl⟩
    rw [hnl] at hbl
    obtain ⟨v3, H3, ws, ea, t3, w3, k3, m3⟩ := app_tail t2 (signB_len P) (by omega) (by omega)
    have kk : Keeps g H3 none := keeps_own hg k2 k3 (fun q e => by obtain ⟨p, e2, e3, _⟩ := t2.blk; rw [e] at e2; cases e2; exact e3)
    have hwa : wadd g.length [] ws = [] := wadd_ge w3
    have nv3 := t3.na
    have lv3 := t3.slen
    rw [List.length_append, hnl, signB_len] at lv3
    obtain ⟨m, hmn⟩ : ∃ m, n + 12 = m := ⟨_, rfl⟩
    rw [hmn] at lv3
    have hlen : (bodyP P F ++ signB P).length = m := by rw [List.length_append, hnl, signB_len]; exact hmn
    by_cases c : m ≤ 512
    · have c' : ¬ (512 : Int) < (m : Int) := by omega
      simp (maxDischargeDepth := 9) -implicitDefEqProofs only [push_cast, simprocAttr, M24, nadd1, nadd2, nadd3, nadd4, nadd5, nadd6, nadd7, nadd8, nadd9, nadd10, nadd11, nadd12, Pk.l, hs, hH0, hxc, hn, eM, hq0, hl0, eB, hq1, hl1, nv, lv, eZ, w15, eL, hnew, ea, hwa, nv3, lv3, c', hle, decide_false, Bool.false_and, Bool.not_false, Bool.and_true]
      exact ⟨kk, rfl, Or.inl ⟨by omega, v3, rfl, t3, fun _ => m3 mB⟩⟩
    · have c' : (512 : Int) < (m : Int) := by omega
      simp (maxDischargeDepth := 9) -implicitDefEqProofs only [push_cast, simprocAttr, M24, nadd1, nadd2, nadd3, nadd4, nadd5, nadd6, nadd7, nadd8, nadd9, nadd10, nadd11, nadd12, Pk.l, hs, hH0, hxc, hn, eM, hq0, hl0, eB, hq1, hl1, nv, lv, eZ, w15, eL, hnew, ea, hwa, nv3, lv3, c', hle, decide_false, Bool.false_and, Bool.not_false, Bool.and_true]
      exact ⟨kk, rfl, Or.inr ⟨by omega, rfl⟩⟩
end
end Go.Proofs.YtdpbbagllhfjbaaDoorW.AI.G

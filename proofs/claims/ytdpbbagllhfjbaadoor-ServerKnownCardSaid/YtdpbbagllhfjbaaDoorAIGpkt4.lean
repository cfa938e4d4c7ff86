import Derived.Test.YtdpbbagllhfjbaaDoorAIGpkt3
import Derived.Test.YtdpbbagllhfjbaaDoorAIGextD
namespace Go.Proofs.YtdpbbagllhfjbaaDoorW.AI.G
open Go Go.Proofs.YtdpbbagllhfjbaaDoorW.AI Go.Proofs.YtdpbbagllhfjbaaDoorW.AI.Oct
set_option maxRecDepth 100000
set_option linter.unusedSimpArgs false
set_option linter.unusedVariables false
set_option linter.unusedSectionVars false
theorem ext_byt {h : AHeap} {x : AV} {F : List (Int × List Int)} (e : ExtAt h x F) : (∀ z ∈ F, Byt z.2) ∧ ∀ z ∈ F, 0 ≤ z.1 ∧ z.1 < 65536 := by
  obtain ⟨b, o, l, r⟩ := e
  constructor <;>
  · intro z hz
    obtain ⟨i, hi⟩ := List.getElem?_of_mem hz
    obtain ⟨h1, _, d, _, h2, _⟩ := r.elt i z.1 z.2 hi
    first | exact h2.1 | exact h1
theorem headP_byt (P : Pk) : Byt (headP P) := layB_byt sizesN _
theorem bodyP_byt {P : Pk} {F : List (Int × List Int)} (h : ∀ z ∈ F, Byt z.2) : Byt (bodyP P F) := (headP_byt P).app (putX_byt h)
theorem bodyP_len {P : Pk} {F : List (Int × List Int)} (h : mayX F = true) : (bodyP P F).length ≤ 48 + 468 * 8 := by
  obtain ⟨h8, hz⟩ := mayX_all h
  have := putX_len (F := F) fun z hz' => (hz z hz').2.1
  unfold bodyP
  rw [List.length_append, headP_len]
  omega
theorem ExtAt.keepE {h h' : AHeap} {x : AV} {F : List (Int × List Int)} (e : ExtAt h x F) (k : Keeps h h' none) : ExtAt h' x F := by
  obtain ⟨b, o, l, r⟩ := e
  exact ⟨b, o, l, r.keep k.2.1 (keepsAll k)⟩
/-- What body answers. -/
def BodyPost (q : Bool) (g : AHeap) (L : List Int) (r : AV × AHeap × List Nat) : Prop := TailAt r.2.1 r.1 L g.length ∧ (q = true → Mn r.1) ∧ Keeps g r.2.1 none ∧ r.2.2 = []
section
variable {P : Pk} {x : AV} {F : List (Int × List Int)} {h : AHeap}
set_option maxHeartbeats 4000000 in
theorem pbody_key (ok : P.Ok) (hm : mayH P.p0 P.p1 P.p2 = true) (hX : mayX F = true) (hxc : x.isCell = true) {g : AHeap} (hg : Good g) (ha : At0 g) (hx : ExtAt g x F) : Wp (xbody (W CP) M42 [.agg (P.l x)] g) (BodyPost true g (bodyP P F)) := by
  have hn := na_slen hx.len
  have hbx := ext_byt hx
  have e1 := put_c (p0 := P.p0) (p1 := P.p1) (p2 := P.p2) (p3 := P.p3) (p4 := P.p4) (p5 := P.p5) (p6 := P.p6) (p7 := P.p7) (p8 := P.p8) (p9 := P.p9) (p10 := P.p10) (p11 := P.p11) (p12 := P.p12) (p15 := P.p15) (p16 := P.p16) (s := P.s) hxc hm ok.a0 ok.a1 ok.a2 ok.a3 ok.b3 ok.a4 ok.b4 ok.a5 ok.b5 ok.a6 ok.b6 ok.a7 ok.b7 ok.a8 ok.b8 ok.a9 ok.b9 ok.a10 ok.b10 ok.a11 ok.b11 ok.a12 ok.b12 (good_app (js := [ABlk.new (.vals (P.l x))]) hg rfl) (ha.app _)
  obtain ⟨H1, hH1⟩ : ∃ H1, (g ++ [ABlk.new (.vals (P.l x))]) ++ putJs ⟨.tip false, .vals (P.l x)⟩ (headV P.p0 P.p1 P.p2 P.p3 P.p4 P.p5 P.p6 P.p7 P.p8 P.p9 P.p10 P.p11 P.p12) ((g ++ [ABlk.new (.vals (P.l x))]).length + 1) = H1 := ⟨_, rfl⟩
  have hG1 : Good H1 := by rw [← hH1]; exact good_app (good_app hg rfl) rfl
  have k1 : Keeps g H1 none := by rw [← hH1]; exact keeps_js (Keeps.app g _ none rfl) _ rfl
  have hl1 : H1.length = g.length + 6 := by rw [← hH1]; simp [putJs]
  have hq : H1[g.length + 5]? = some ⟨.tip false, .ints .u8 (headP P)⟩ := by
    rw [← hH1, List.getElem?_append_right (by simp)]
    simp [putJs, headP]
  have hb : H1[g.length]? = some ⟨.tip false, .vals (P.l x)⟩ := by rw [← hH1, List.append_assoc]; exact end_get _ _ _
  have hx1 : ExtAt H1 x F := hx.keepE k1
  rw [hH1] at e1
  obtain ⟨v, js, e2, gv, hG2, gp, gm⟩ := xput_ok hG1 hx1 hX
  obtain ⟨H2, hH2⟩ : ∃ H2, H1 ++ js = H2 := ⟨_, rfl⟩
  rw [hH2] at e2 gv hG2
  have k2 : Keeps g H2 none := by
    rw [← hH2]
    refine ⟨fun q z e _ _ => ?_, by have := k1.2.1; simp; omega, fun _ => by rw [hH2]; exact hG2⟩
    rw [List.getElem?_append_left (by have := (List.getElem?_eq_some_iff.1 e).1; have := k1.2.1; omega)]
    exact k1.1 q z e (by simp) (by simp)
  have hq2 : H2[g.length + 5]? = some ⟨.tip false, .ints .u8 (headP P)⟩ := by rw [← hH2, List.getElem?_append_left (by omega)]; exact hq
  have hl2 : g.length ≤ H2.length := k2.2.1
  have bv := gsAt_bv gv (putX_byt hbx.1)
  have hnew := bv.new
  have hlv := bv.len
  have hnv := bv.na
  have ht : TailAt H2 (.sl (g.length + 5) 0 (headP P).length (headP P).length) (headP P) g.length := ⟨g.length + 5, by omega, Or.inl ⟨rfl, hq2⟩⟩
  obtain ⟨n, hnl⟩ : ∃ n, (putX F).length = n := ⟨_, rfl⟩
  rw [hnl] at hlv
  have hbl := bodyP_len (P := P) hX
  unfold bodyP at hbl
  rw [List.length_append, headP_len, hnl] at hbl
  obtain ⟨v', H3, ws, ea, t3, w3, k3, m3⟩ := app_tail ht hnl (by rw [headP_len]; omega) hl2
  rw [headP_len] at ea k3
  have kk : Keeps g H3 none := keeps_own hg k2 k3 (fun q e => by cases e; omega)
  have hwa : wadd g.length [] ws = [] := wadd_ge w3
  have na3 := t3.na
  have hlo : g.length < H1.length := by omega
  simp only [List.length_append, List.length_cons, List.length_nil, Nat.add_assoc, Nat.reduceAdd] at e1
  simp (maxDischargeDepth := 9) -implicitDefEqProofs only [push_cast, simprocAttr, M42, nadd1, nadd2, nadd3, nadd4, nadd5, nadd6, nadd7, nadd8, nadd9, nadd10, nadd11, nadd12, Pk.l, hxc, hn, e1, hb, hlo, e2, hnv, hnew, hlv, ea, hwa, na3]
  exact ⟨t3, fun _ => m3 (fun _ _ _ _ h => by cases h), kk, rfl⟩
theorem pbody_c (ok : P.Ok) (hm : mayH P.p0 P.p1 P.p2 = true) (hX : mayX F = true) (hxc : x.isCell = true) (hg : Good h) (ha : At0 h) (hx : ExtAt h x F) :
    ∃ v js, W CP 42 [.agg (P.l x)] h = some (v, h ++ js, []) ∧ TailAt (h ++ js) v (bodyP P F) h.length ∧ Mn v ∧ Good (h ++ js) := by
  obtain ⟨⟨v, h', ws⟩, e, ⟨t, m, k, rfl⟩, hg'⟩ := W_addrH (C := CP) (f := 42) (args := [.agg (P.l x)]) (m := M42) (fun g => Good g ∧ At0 g ∧ ExtAt g x F) (fun g r => BodyPost true g (bodyP P F) r ∧ Good g) (fun _ => rfl) rfl rfl (fun h0 => ⟨glG, at0_gl, pk_gl hx h0⟩) (fun g hi => (pbody_key ok hm hX hxc hi.1 hi.2.1 hi.2.2).mono fun r hr => ⟨hr.1.lt, hr, hi.1⟩) ⟨hg, ha, hx⟩
  simp only at t k m
  obtain ⟨js, rfl⟩ := k.behind
  exact ⟨v, js, e, t, m trivial, k.2.2 hg⟩
end
end Go.Proofs.YtdpbbagllhfjbaaDoorW.AI.G

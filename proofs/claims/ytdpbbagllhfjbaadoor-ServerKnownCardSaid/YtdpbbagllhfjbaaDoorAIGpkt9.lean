import Derived.Test.YtdpbbagllhfjbaaDoorAIGpkt8
import Derived.Test.YtdpbbagllhfjbaaDoorAIGmacA
namespace Go.Proofs.YtdpbbagllhfjbaaDoorW.AI.G
open Go Go.Proofs.YtdpbbagllhfjbaaDoorW.AI Go.Proofs.YtdpbbagllhfjbaaDoorW.AI.Oct
set_option maxRecDepth 100000
set_option linter.unusedSimpArgs false
set_option linter.unusedVariables false
set_option linter.unusedSectionVars false
/-- A function that leaves the heap as it is, and answers what may bear an address that was handed in. -/
theorem W_bothV {C : Cfg} {f : Nat} {m : MFunc} {args : List AV} {v : AV} (I : AHeap → Prop) (hp : ∀ h, C.prim f args h = none) (hm : C.mp f = some m) (ht : m.trim = true) (hg0 : Good C.gl) (hi0 : AV.lts 0 args = true → I C.gl ∧ AV.lt 0 v = true)
    (e : ∀ g, Good g → I g → Wp (xbody (W C) m args g) (Quiet g v)) {h : AHeap} (hg : Good h) (hi : I h) (hv : AV.lt h.length v = true) : W C f args h = some (v, h, []) := by
  cases h0 : AV.lts 0 args with
  | true => exact W_val hp hm h0 (hi0 h0).2 ((e _ hg0 (hi0 h0).1).mono fun r hr => hr.1) h
  | false => exact W_quietP (hp h) hm h0 ht hv hg (e h hg hi)
/-- A packet that is signed. -/
def sgP (P : Pk) (id t : Int) : Pk := { P with s := true, p15 := id, p16 := t }
theorem sgP_ok {P : Pk} (ok : P.Ok) {id t : Int} (i0 : 0 ≤ id) (i1 : id ≤ 4294967295) (t0 : 0 ≤ t) (t1 : t ≤ 18446744073709551615) : (sgP P id t).Ok :=
  ⟨ok.a0, ok.b0, ok.a1, ok.b1, ok.a2, ok.b2, ok.a3, ok.b3, ok.a4, ok.b4, ok.a5, ok.b5, ok.a6, ok.b6, ok.a7, ok.b7, ok.a8, ok.b8, ok.a9, ok.b9, ok.a10, ok.b10, ok.a11, ok.b11, ok.a12, ok.b12, i0, i1, t0, t1⟩
section
variable {P : Pk} {x : AV} {F : List (Int × List Int)} {h : AHeap} {id A B : Int}
set_option maxHeartbeats 8000000 in
theorem psign_bad (ok : P.Ok) (i0 : 0 ≤ id) (i1 : id ≤ 4294967295) (hm : mayP (sgP P id 0) F = false) (hF : F.length < 1000000) (hD : ∀ z ∈ F, z.2.length < 1000000000) (hxc : x.isCell = true) (hg : Good h) (hx : ExtAt h x F) : W CP 21 [.agg (P.l x), .agg [.int .u32 id, .int .u64 A, .int .u64 B]] h = some (.tup [.agg (pk0.l .nils), .int .i64 1], h, []) := by
  refine W_bothH (m := M21) (fun g => ExtAt g x F) (fun _ => rfl) rfl rfl rfl glG (fun h0 => ?_) (fun g hg hx => ?_) hg hx
  · refine pk_gl (P := P) hx ?_
    simp only [AV.lts, AV.lt, Bool.and_eq_true] at h0 ⊢
    exact ⟨h0.1, trivial⟩
  have hn := na_slen hx.len
  have eU := pput_bad (P := sgP P id 0) (h := g ++ [⟨.tip false, .vals ((sgP P id 0).l x)⟩, ⟨.tip false, .vals [.int .u32 id, .int .u64 A, .int .u64 B]⟩, ⟨.tip false, .vals (pk0.l .nils)⟩]) hm hF hD hxc (good_app hg rfl) (hx.app _)
  simp only [pk0, sgP, Pk.l] at eU
  have q1 : ¬ g.length + 1 = g.length := by omega
  simp (maxDischargeDepth := 9) -implicitDefEqProofs only [push_cast, simprocAttr, M21, nadd1, nadd2, nadd3, nadd4, nadd5, nadd6, nadd7, nadd8, nadd9, nadd10, nadd11, nadd12, Pk.l, pk0, hxc, hn, eU, q1, decide_false, Bool.not_false]
  exact quiet_i
theorem psign_long (ok : P.Ok) (i0 : 0 ≤ id) (i1 : id ≤ 4294967295) (hm : mayP (sgP P id 0) F = true) (hl : ¬ (putP (sgP P id 0) F).length ≤ 512) (hxc : x.isCell = true) (hg : Good h) (ha : At0 h) (hx : ExtAt h x F) : W CP 21 [.agg (P.l x), .agg [.int .u32 id, .int .u64 A, .int .u64 B]] h = some (.tup [.agg (pk0.l .nils), .int .i64 3], h, []) := by
  refine W_bothH (m := M21) (fun g => At0 g ∧ ExtAt g x F) (fun _ => rfl) rfl rfl rfl glG (fun h0 => ⟨at0_gl, ?_⟩) (fun g hg hi => ?_) hg ⟨ha, hx⟩
  · refine pk_gl (P := P) hx ?_
    simp only [AV.lts, AV.lt, Bool.and_eq_true] at h0 ⊢
    exact ⟨h0.1, trivial⟩
  obtain ⟨ha, hx⟩ := hi
  have hn := na_slen hx.len
  have eU := pput_long (P := sgP P id 0) (h := g ++ [⟨.tip false, .vals ((sgP P id 0).l x)⟩, ⟨.tip false, .vals [.int .u32 id, .int .u64 A, .int .u64 B]⟩, ⟨.tip false, .vals (pk0.l .nils)⟩]) (sgP_ok ok i0 i1 (by decide) (by decide)) hm hl hxc (good_app hg rfl) (ha.app _) (hx.app _)
  simp only [pk0, sgP, Pk.l] at eU
  have q1 : ¬ g.length + 1 = g.length := by omega
  simp (maxDischargeDepth := 9) -implicitDefEqProofs only [push_cast, simprocAttr, M21, nadd1, nadd2, nadd3, nadd4, nadd5, nadd6, nadd7, nadd8, nadd9, nadd10, nadd11, nadd12, Pk.l, pk0, hxc, hn, eU, q1, decide_false, Bool.not_false]
  exact quiet_i
set_option maxHeartbeats 8000000 in
theorem psign_ok (ok : P.Ok) (i0 : 0 ≤ id) (i1 : id ≤ 4294967295) (hm : mayP (sgP P id 0) F = true) (hl : (putP (sgP P id 0) F).length ≤ 512) (hxc : x.isCell = true) (hg : Good h) (ha : At0 h) (hx : ExtAt h x F) (hxl : x.lt h.length = true) : W CP 21 [.agg (P.l x), .agg [.int .u32 id, .int .u64 A, .int .u64 B]] h = some (.tup [.agg ((sgP P id (tagI A B (bodyP P F))).l x), .int .i64 0], h, []) := by
  refine W_bothV (m := M21) (fun g => At0 g ∧ ExtAt g x F) (fun _ => rfl) rfl rfl glG (fun h0 => ?_) (fun g hg hi => ?_) hg ⟨ha, hx⟩ (by simp [AV.lt, AV.lts, hxl])
  · have h1 : AV.lts 0 [.agg (P.l x)] = true := by
      simp only [AV.lts, AV.lt, Bool.and_eq_true] at h0 ⊢
      exact ⟨h0.1, trivial⟩
    refine ⟨⟨at0_gl, pk_gl (P := P) hx h1⟩, ?_⟩
    simp only [AV.lts, AV.lt, Bool.and_eq_true] at h1
    simp [AV.lt, AV.lts, h1.1.2.2.2.2.2.2.2.2.2.2.2.2.2.1]
  obtain ⟨ha, hx⟩ := hi
  have hn := na_slen hx.len
  have okS := sgP_ok ok i0 i1 (t := 0) (by decide) (by decide)
  obtain ⟨mH, mX, _, _⟩ := mayP_parts hm
  have hbt := ext_byt hx
  have hG0 : Good (g ++ [⟨.tip false, .vals ((sgP P id 0).l x)⟩, ⟨.tip false, .vals [.int .u32 id, .int .u64 A, .int .u64 B]⟩, ⟨.tip false, .vals (pk0.l .nils)⟩]) := good_app hg rfl
  obtain ⟨y, js, eU, ty, _, hG1⟩ := pput_ok okS hm hl hxc hG0 (ha.app _) (hx.app _)
  have hx1 := (hx.app [⟨.tip false, .vals ((sgP P id 0).l x)⟩, ⟨.tip false, .vals [.int .u32 id, .int .u64 A, .int .u64 B]⟩, ⟨.tip false, .vals (pk0.l .nils)⟩]).app js
  have ha1 := (ha.app [⟨.tip false, .vals ((sgP P id 0).l x)⟩, ⟨.tip false, .vals [.int .u32 id, .int .u64 A, .int .u64 B]⟩, ⟨.tip false, .vals (pk0.l .nils)⟩]).app js
  obtain ⟨z, js2, eB, tz, _, hG2⟩ := pbody_c okS mH mX hxc hG1 ha1 hx1
  have ny := ty.na
  have nz := tz.na
  have bz := tz.bv (bodyP_byt hbt.1)
  have hbl := bodyP_len (P := sgP P id 0) mX
  obtain ⟨H1, hH1⟩ : ∃ H1, (g ++ [(⟨.tip false, .vals ((sgP P id 0).l x)⟩ : ABlk), ⟨.tip false, .vals [.int .u32 id, .int .u64 A, .int .u64 B]⟩, ⟨.tip false, .vals (pk0.l .nils)⟩]) ++ js = H1 := ⟨_, rfl⟩
  have k1 : Keeps g H1 none := ⟨fun q w e _ _ => by rw [← hH1, List.append_assoc, List.getElem?_append_left (List.getElem?_eq_some_iff.1 e).1]; exact e, by rw [← hH1]; simp, fun _ => by rw [← hH1]; exact hG1⟩
  have b0 : H1[g.length]? = some ⟨.tip false, .vals ((sgP P id 0).l x)⟩ := by rw [← hH1, List.append_assoc]; exact end_get _ _ _
  have b1 : H1[g.length + 1]? = some ⟨.tip false, .vals [.int .u32 id, .int .u64 A, .int .u64 B]⟩ := by rw [← hH1, List.append_assoc, List.getElem?_append_right (by omega)]; simp
  have b2 : H1[g.length + 2]? = some ⟨.tip false, .vals (pk0.l .nils)⟩ := by rw [← hH1, List.append_assoc, List.getElem?_append_right (by omega)]; simp
  rw [hH1] at eU eB bz hG2
  obtain ⟨H2, hH2⟩ : ∃ H2, H1 ++ js2 = H2 := ⟨_, rfl⟩
  rw [hH2] at eB bz hG2
  have low : ∀ (q : Nat) (w : ABlk), H1[q]? = some w → H2[q]? = some w := fun q w e => by rw [← hH2, List.getElem?_append_left (List.getElem?_eq_some_iff.1 e).1]; exact e
  have k2 : Keeps g H2 none := ⟨fun q w e _ _ => low q w (keepsAll k1 q w e), by have := k1.2.1; rw [← hH2]; simp; omega, fun _ => hG2⟩
  have l0 := (List.getElem?_eq_some_iff.1 b0).1
  have l1 := (List.getElem?_eq_some_iff.1 b1).1
  have l2 := (List.getElem?_eq_some_iff.1 b2).1
  have c0 := low _ _ b0
  have c1 := low _ _ b1
  have c2 := low _ _ b2
  have m0 := (List.getElem?_eq_some_iff.1 c0).1
  have m1 := (List.getElem?_eq_some_iff.1 c1).1
  have m2 := (List.getElem?_eq_some_iff.1 c2).1
  have eT := tag_c (id := id) (A := A) (B := B) (pq := H2.length) (good_app (js := [⟨.tip false, .vals [z]⟩]) hG2 rfl) (end_get _ _ _) (bz.app _) (by omega)
  have eT' : W CP 45 [.agg [.int .u32 id, .int .u64 A, .int .u64 B], .sl H2.length 0 1 1] (H2 ++ [⟨.tip false, .vals [z]⟩]) = some (.int .u64 (tagI A B (bodyP P F)), H2 ++ [⟨.tip false, .vals [z]⟩], []) := eT
  have q1 : ¬ g.length + 1 = g.length := by omega
  have q2 : ¬ g.length + 2 = g.length := by omega
  have q3 : ¬ g.length = g.length + 2 := by omega
  have z1 : ∃ p, z = .sl p 0 (bodyP (sgP P id 0) F).length (bodyP (sgP P id 0) F).length ∨ ∃ mn, z = .gsl p 0 (bodyP (sgP P id 0) F).length 1 mn := by
    obtain ⟨p, _, ⟨e, _⟩ | ⟨o, mn, e, _⟩⟩ := tz
    · exact ⟨p, Or.inl e⟩
    · exact ⟨p, Or.inr ⟨mn, e⟩⟩
  obtain ⟨nb, hnb⟩ : ∃ nb, (bodyP (sgP P id 0) F).length = nb := ⟨_, rfl⟩
  rw [hnb] at z1
  have kfin : ∀ w1 w2 : ABlk, notOld w1 = true → notOld w2 = true → ∃ js, ((H2.set g.length w1).set (g.length + 2) w2) ++ [⟨.tip false, .vals [z]⟩] = g ++ js := fun w1 w2 e1 e2 =>
    (keeps_js (keeps_set (keeps_set k2 (Nat.le_refl _) e1) (by omega) e2) [⟨.tip false, .vals [z]⟩] rfl).behind
  simp only [pk0, sgP, Pk.l] at eU eB b0 b1 b2 c0 c1 c2
  obtain ⟨pz, e | ⟨mn, e⟩⟩ := z1 <;> subst e
  all_goals
    simp (maxDischargeDepth := 9) -implicitDefEqProofs only [push_cast, simprocAttr, M21, nadd1, nadd2, nadd3, nadd4, nadd5, nadd6, nadd7, nadd8, nadd9, nadd10, nadd11, nadd12, Pk.l, pk0, sgP, hxc, hn, eU, ny, nz, eB, eT', c0, c1, c2, b0, b1, b2, l0, l1, l2, m0, m1, m2, q1, q2, q3, decide_false, Bool.not_false]
    exact ⟨rfl, kfin _ _ rfl rfl, rfl⟩
end
end Go.Proofs.YtdpbbagllhfjbaaDoorW.AI.G

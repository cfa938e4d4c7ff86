import Derived.Test.YtdpbbagllhfjbaaDoorAIGpkt5
import Derived.Test.YtdpbbagllhfjbaaDoorAIGnum
namespace Go.Proofs.YtdpbbagllhfjbaaDoorW.AI.G
open Go Go.Proofs.YtdpbbagllhfjbaaDoorW.AI Go.Proofs.YtdpbbagllhfjbaaDoorW.AI.Oct
set_option maxRecDepth 100000
set_option linter.unusedSimpArgs false
set_option linter.unusedVariables false
set_option linter.unusedSectionVars false
section
variable {P : Pk} {x : AV} {F : List (Int × List Int)} {h : AHeap}
theorem pput_ok (ok : P.Ok) (hm : mayP P F = true) (hl : (putP P F).length ≤ 512) (hxc : x.isCell = true) (hg : Good h) (ha : At0 h) (hx : ExtAt h x F) :
    ∃ v js, W CP 24 [.agg (P.l x)] h = some (.tup [v, .int .i64 0], h ++ js, []) ∧ TailAt (h ++ js) v (putP P F) h.length ∧ Mn v ∧ Good (h ++ js) := by
  obtain ⟨⟨v, h', ws⟩, e, ⟨k, rfl, q⟩, _⟩ := W_addrH (C := CP) (f := 24) (args := [.agg (P.l x)]) (m := M24) (fun g => Good g ∧ At0 g ∧ ExtAt g x F) (fun g r => PkPost true g (putP P F) r ∧ Good g) (fun _ => rfl) rfl rfl (fun h0 => ⟨glG, at0_gl, pk_gl hx h0⟩) (fun g hi => (pput_key ok hm hxc hi.1 hi.2.1 hi.2.2).mono fun r hr => ⟨by
      obtain ⟨_, _, ⟨_, v, e, t, _⟩ | ⟨h1, _⟩⟩ := hr
      · rw [e]; simp [AV.lt, AV.lts, t.lt]
      · exact absurd hl h1, hr, hi.1⟩) ⟨hg, ha, hx⟩
  obtain ⟨_, v, rfl, t, m⟩ | ⟨h1, _⟩ := q
  · simp only at t k m
    obtain ⟨js, rfl⟩ := k.behind
    exact ⟨v, js, e, t, m trivial, k.2.2 hg⟩
  · exact absurd hl h1
theorem pput_long (ok : P.Ok) (hm : mayP P F = true) (hl : ¬ (putP P F).length ≤ 512) (hxc : x.isCell = true) (hg : Good h) (ha : At0 h) (hx : ExtAt h x F) : W CP 24 [.agg (P.l x)] h = some (.tup [.nils, .int .i64 3], h, []) := by
  refine W_bothH (m := M24) (fun g => At0 g ∧ ExtAt g x F) (fun _ => rfl) rfl rfl rfl glG (fun h0 => ⟨at0_gl, pk_gl hx h0⟩) (fun g hg hi => ?_) hg ⟨ha, hx⟩
  refine (pput_key ok hm hxc hg hi.1 hi.2).mono fun r hr => ?_
  obtain ⟨k, e, ⟨h1, _⟩ | ⟨_, h2⟩⟩ := hr
  · exact absurd h1 hl
  · exact ⟨h2, k.behind, e⟩
theorem pput_bad (hm : mayP P F = false) (hF : F.length < 1000000) (hD : ∀ z ∈ F, z.2.length < 1000000000) (hxc : x.isCell = true) (hg : Good h) (hx : ExtAt h x F) : W CP 24 [.agg (P.l x)] h = some (.tup [.nils, .int .i64 1], h, []) := by
  refine W_bothH (m := M24) (fun g => ExtAt g x F) (fun _ => rfl) rfl rfl rfl glG (fun h0 => pk_gl hx h0) (fun g hg hx => ?_) hg hx
  have hn := na_slen hx.len
  have eM := pmay_c (P := P) (hx.app [ABlk.new (.vals (P.l x))]) hxc (good_app hg rfl) hF hD
  rw [hm] at eM
  simp (maxDischargeDepth := 9) -implicitDefEqProofs only [push_cast, simprocAttr, M24, nadd1, nadd2, nadd3, nadd4, nadd5, nadd6, nadd7, nadd8, nadd9, nadd10, nadd11, nadd12, Pk.l, hxc, hn, eM]
  exact quiet_i
end
end Go.Proofs.YtdpbbagllhfjbaaDoorW.AI.G

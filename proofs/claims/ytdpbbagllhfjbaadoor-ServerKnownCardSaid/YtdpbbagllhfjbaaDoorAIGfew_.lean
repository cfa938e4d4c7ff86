import Derived.Test.YtdpbbagllhfjbaaDoorAIGextD
namespace Go.Proofs.YtdpbbagllhfjbaaDoorW.AI.G
open Go Go.Proofs.YtdpbbagllhfjbaaDoorW.AI Go.Proofs.YtdpbbagllhfjbaaDoorW.AI.Oct
set_option maxRecDepth 100000
set_option linter.unusedSimpArgs false
set_option linter.unusedVariables false
set_option linter.unusedSectionVars false
/-- A row of fields and its cells. -/
structure RowX (g : AHeap) (v : AV) (F : List (Int × List Int)) (A : List AV) : Prop where
  fl : F.length ≤ 9223372036854775807
  len : A.length = F.length * 2
  sh : (v = .nils ∧ F = []) ∨ ∃ b c st mn, ((v = .sl b 0 F.length c ∧ F.length ≤ c) ∨ v = .gsl b 0 F.length 2 mn) ∧ g[b]? = some ⟨st, .vals A⟩ ∧ Liv st
  el : ∀ (i : Nat) (t : Int) (D : List Int), F[i]? = some (t, D) → (0 ≤ t ∧ t < 65536) ∧ A[i * 2]? = some (.int .u16 t) ∧ ∃ d, A[i * 2 + 1]? = some d ∧ BV g d D ∧ nilOf d ≠ none ∧ D.length ≤ 9223372036854775807
theorem ArgX.row {g : AHeap} {v : AV} {F : List (Int × List Int)} {A : List AV} (a : ArgX g v F A) : RowX g v F A :=
  ⟨a.fl, a.len, a.sh.imp id fun ⟨b, c, e, hc, hb⟩ => ⟨b, c, .ext, false, Or.inl ⟨e, hc⟩, hb, Or.inl rfl⟩, a.el⟩
theorem RowX.keep {g h : AHeap} {v : AV} {F : List (Int × List Int)} {A : List AV} (a : RowX g v F A) (hm : ∀ (q : Nat) (z : ABlk), g[q]? = some z → h[q]? = some z) : RowX h v F A := by
  refine ⟨a.fl, a.len, ?_, fun i t D hi => ?_⟩
  · rcases a.sh with e | ⟨b, c, st, mn, e, hb, hst⟩
    · exact Or.inl e
    · exact Or.inr ⟨b, c, st, mn, e, hm _ _ hb, hst⟩
  · obtain ⟨h1, h2, d, h3, h4, h5⟩ := a.el i t D hi
    exact ⟨h1, h2, d, h3, h4.keep hm, h5⟩
theorem RowX.app {g : AHeap} {v : AV} {F : List (Int × List Int)} {A : List AV} (a : RowX g v F A) (js : AHeap) : RowX (g ++ js) v F A :=
  a.keep fun q z e => by rw [List.getElem?_append_left (List.getElem?_eq_some_iff.1 e).1]; exact e
theorem liv_face {h : AHeap} {b : Nat} {st : BSt} {c : ACells} (e : h[b]? = some ⟨st, c⟩) (hs : Liv st) : faceOk h b = true := by
  unfold faceOk; rw [e]
  rcases hs with rfl | ⟨o, rfl⟩ <;> rfl
theorem RowX.xr {g : AHeap} {v : AV} {F : List (Int × List Int)} {A : List AV} (a : RowX g v F A) : ExtAt g v F := by
  rcases a.sh with ⟨rfl, rfl⟩ | ⟨b, c, st, mn, e, hb, hst⟩
  · exact ExtAt.nil g
  · refine ⟨b, 0, A, ?_, fun g i hi => ?_, fun _ => ⟨cellsAt_of hb hst.nd, liv_face hb hst, (List.getElem?_eq_some_iff.1 hb).1⟩, fun i t D hi => ?_⟩
    · rcases e with ⟨rfl, _⟩ | rfl <;> rfl
    · rcases e with ⟨rfl, _⟩ | rfl
      · simp only [iaV, if_pos hi]
      · simp only [iaV]; rw [if_pos ⟨trivial, hi⟩]
    · obtain ⟨h1, h2, d, h3, h4, h5, _⟩ := a.el i t D hi
      exact ⟨h1, by rw [Nat.zero_add]; exact h2, d, by rw [Nat.zero_add]; exact h3, h4, h5⟩
theorem RowX.gl {h g : AHeap} {x : AV} {F : List (Int × List Int)} {A : List AV} (r : RowX h x F A) (h0 : x.lt 0 = true) : RowX g x F A := by
  obtain ⟨rfl, hn⟩ := slen_nil r.xr.len h0
  obtain rfl : F = [] := List.length_eq_zero_iff.1 hn
  exact ⟨r.fl, r.len, Or.inl ⟨rfl, rfl⟩, fun i t D hi => by simp at hi⟩
end Go.Proofs.YtdpbbagllhfjbaaDoorW.AI.G

import Derived.Test.YtcpiohklljppaaaAIDspanA
import Derived.Test.YtcpiohklljppaaaAIDquo
import Derived.Test.YtcpiohklljppaaaAIDrul
import Derived.Test.YtcpiohklljppaaaAIBig
import Derived.Test.YtcpiohklljppaaaAIInt
namespace Go.Proofs.YtcpiohklljppaaaW.AI.D
open Go Go.Proofs.YtcpiohklljppaaaW.AI
set_option maxRecDepth 100000
set_option linter.unusedSimpArgs false
set_option linter.unusedVariables false
set_option linter.unusedSectionVars false
theorem cgl : Good CP.gl := rfl
theorem fend (h : AHeap) (z : ABlk) (ks : AHeap) : (h ++ z :: ks)[h.length]? = some z := by simp
theorem fend1 (h : AHeap) (y z : ABlk) (ks : AHeap) : (h ++ y :: z :: ks)[h.length + 1]? = some z := by rw [List.getElem?_append_right (by omega)]; simp
theorem set_sameF {h : AHeap} {b : Nat} {x : ABlk} (e : h[b]? = some x) : h.set b x = h := by
  apply List.ext_getElem?
  intro i
  rw [List.getElem?_set]
  by_cases hi : b = i
  · subst hi
    rw [if_pos rfl, if_pos (List.getElem?_eq_some_iff.1 e).1, e]
  · rw [if_neg hi]
/-- A span. -/
abbrev Sp := Int × Int × Int
abbrev spV (s : Sp) : AV := spA s.1 s.2.1 s.2.2
def flat3 (L : List Sp) : List Int := (L.map fun s => [s.1, s.2.1, s.2.2]).flatten
theorem flat3_nil : flat3 [] = [] := rfl
theorem flat3_cons (s : Sp) (L : List Sp) : flat3 (s :: L) = s.1 :: s.2.1 :: s.2.2 :: flat3 L := rfl
theorem flat3_len : ∀ L : List Sp, (flat3 L).length = L.length * 3
  | [] => rfl
  | s :: L => by rw [flat3_cons]; simp only [List.length_cons, flat3_len L]; omega
theorem flat3_get : ∀ {L : List Sp} {i : Nat} {s : Sp}, L[i]? = some s → (flat3 L)[i * 3]? = some s.1 ∧ (flat3 L)[i * 3 + 1]? = some s.2.1 ∧ (flat3 L)[i * 3 + 2]? = some s.2.2
  | [], i, s, h => by simp at h
  | t :: L, 0, s, h => by simp at h; subst h; simp [flat3_cons]
  | t :: L, i + 1, s, h => by
    have := flat3_get (L := L) (i := i) (s := s) (by simpa using h)
    rw [flat3_cons, show (i + 1) * 3 = i * 3 + 1 + 1 + 1 by omega]
    simpa using this
theorem flat3_app (L K : List Sp) : flat3 (L ++ K) = flat3 L ++ flat3 K := by unfold flat3; simp
theorem flat3_take : ∀ (L : List Sp) (m : Nat), (flat3 L).take (m * 3) = flat3 (L.take m)
  | [], m => by simp [flat3_nil]
  | s :: L, 0 => by simp [flat3_nil]
  | s :: L, m + 1 => by
    rw [List.take_succ_cons, flat3_cons, flat3_cons, ← flat3_take L m, show (m + 1) * 3 = m * 3 + 1 + 1 + 1 by omega]
    simp
/-- A slice that says a row of spans. -/
def SV (h : AHeap) (v : AV) (L : List Sp) : Prop := (v = .nils ∧ L = []) ∨ ∃ b c st l mn, h[b]? = some ⟨st, .ints .i64 l⟩ ∧ BLiv st ∧ l.take (L.length * 3) = flat3 L ∧ ((v = .sl b 0 L.length c ∧ L.length ≤ c) ∨ v = .gsl b 0 L.length 3 mn)
section
variable {h h' : AHeap} {v : AV} {L : List Sp}
theorem SV.len (u : SV h v L) : slen v = some L.length := by
  obtain ⟨rfl, rfl⟩ | ⟨b, c, st, l, mn, _, _, _, ⟨rfl, _⟩ | rfl⟩ := u <;> rfl
theorem SV.na (u : SV h v L) : noAny (some v) = some v := na_slen u.len
theorem SV.cell (u : SV h v L) : v.isCell = true := by
  obtain ⟨rfl, rfl⟩ | ⟨b, c, st, l, mn, _, _, _, ⟨rfl, _⟩ | rfl⟩ := u <;> rfl
theorem SV.keep (u : SV h v L) (hm : ∀ (q : Nat) (z : ABlk), h[q]? = some z → (∃ l, z.c = .ints .i64 l) → h'[q]? = some z) : SV h' v L := by
  obtain q | ⟨b, c, st, l, mn, e, r⟩ := u
  · exact Or.inl q
  · exact Or.inr ⟨b, c, st, l, mn, hm _ _ e ⟨l, rfl⟩, r⟩
theorem SV.app (u : SV h v L) (js : AHeap) : SV (h ++ js) v L := u.keep fun q z e _ => by rw [List.getElem?_append_left (List.getElem?_eq_some_iff.1 e).1]; exact e
theorem SV.kept (u : SV h v L) (q : Keeps h h' none) : SV h' v L := u.keep fun p z e _ => keepsN q p z e
theorem SV.down {js : AHeap} (u : SV (h ++ js) v L) (hv : v.lt h.length = true) : SV h v L := by
  obtain q | ⟨b, c, st, l, mn, e, r1, r2, r3⟩ := u
  · exact Or.inl q
  · have hb : b < h.length := by
      rcases r3 with ⟨rfl, _⟩ | rfl <;> simpa [AV.lt] using hv
    rw [List.getElem?_append_left hb] at e
    exact Or.inr ⟨b, c, st, l, mn, e, r1, r2, r3⟩
theorem SV.gl {g : AHeap} (u : SV h v L) (h0 : v.lt 0 = true) : SV g v L := by
  have a : SV ([] ++ h) v L := u
  exact (a.down (h := []) h0).app g
theorem SV.at (u : SV h v L) {i : Nat} {s : Sp} (hs : L[i]? = some s) : ∃ b, (∀ g, uia 3 g i (some v) = some (.ptr b (i * 3), g, [])) ∧ uld (some 3) h (some (.ptr b (i * 3))) = some (spV s, h, []) ∧ b < h.length := by
  obtain ⟨hi, _⟩ := List.getElem?_eq_some_iff.1 hs
  obtain ⟨_, q⟩ | ⟨b, c, st, l, mn, e, hst, ht, hv⟩ := u
  · rw [q] at hs; simp at hs
  · obtain ⟨g1, g2, g3⟩ := flat3_get hs
    have hc : cellsAt h b = some (.ints .i64 l) := by
      rcases hst with rfl | ⟨o, rfl⟩ <;> simp [cellsAt, e]
    have gg : ∀ {k : Nat} {x : Int}, (flat3 L)[k]? = some x → l[k]? = some x := fun {k x} hx => by
      rw [← ht, List.getElem?_take] at hx
      split at hx
      · exact hx
      · cases hx
    refine ⟨b, fun g => ?_, ?_, (List.getElem?_eq_some_iff.1 e).1⟩
    · rcases hv with ⟨rfl, _⟩ | rfl <;> simp [uia, hi]
    · simp [uld, hc, loadA, loadN, ACells.get?, gg g1, gg g2, gg g3]
theorem SV.shape (u : SV h v L) : v = .nils ∨ (∃ b n c, v = .sl b 0 n c) ∨ ∃ b n mn, v = .gsl b 0 n 3 mn := by
  obtain ⟨rfl, rfl⟩ | ⟨b, c, st, l, mn, _, _, _, ⟨rfl, _⟩ | rfl⟩ := u
  · exact Or.inl rfl
  · exact Or.inr (Or.inl ⟨_, _, _, rfl⟩)
  · exact Or.inr (Or.inr ⟨_, _, _, rfl⟩)
end
-- ------------------------------------------------------------------ may
def mayB (s : Sp) : Bool := mayS s.1 s.2.1 s.2.2
def wS (s : Sp) : Int := widS s.1 s.2.1 s.2.2
def mS (s : Sp) : Int := midS s.1 s.2.1 s.2.2
theorem mS_in (s : Sp) : 0 ≤ mS s ∧ mS s ≤ 4611686018427387904 := by
  unfold mS midS
  split
  · rename_i h
    have := mayS_iff.1 h
    omega
  · omega
theorem wS_in (s : Sp) : 0 ≤ wS s ∧ wS s ≤ 4611686018427387904 := by
  unfold wS widS
  split
  · rename_i h
    have := mayS_iff.1 h
    omega
  · omega
theorem may1_c (s : Sp) (h : AHeap) : W CP 80 [spV s] h = some (.bool (!mayB s), h, []) := by
  obtain ⟨x, y, z⟩ := s
  have e := fun g => span_May (a := x) (l := y) (u := z) g
  have hm : mayB (x, y, z) = mayS x y z := rfl
  obtain ⟨b, hb⟩ : ∃ b, mayS x y z = b := ⟨_, rfl⟩
  rw [hm]
  rw [hb] at e ⊢
  refine W_val (m := M80) (fun _ => rfl) rfl rfl rfl ?_ h
  simp (maxDischargeDepth := 9) -implicitDefEqProofs only [push_cast, simprocAttr, M80, e]
/-- The first one that may not be. -/
def fB (i : Nat) : List Sp → Int
  | [] => -1
  | s :: L => if mayB s = true then fB (i + 1) L else (i : Int)
theorem fB_ge : ∀ (L : List Sp) (i : Nat), 0 ≤ fB i L ↔ L.all mayB = false
  | [], i => by simp [fB]
  | s :: L, i => by
    simp only [fB, List.all_cons]
    by_cases c : mayB s = true
    · rw [if_pos c, fB_ge L (i + 1), c, Bool.true_and]
    · rw [if_neg c, show mayB s = false from by simpa using c, Bool.false_and]
      simp
theorem fB_in : ∀ (L : List Sp) (i : Nat), -1 ≤ fB i L
  | [], i => by simp [fB]
  | s :: L, i => by
    simp only [fB]
    split
    · exact fB_in L (i + 1)
    · omega
section
variable {h : AHeap} {v : AV} {L : List Sp}
theorem index_c (hg : Good h) (u : SV h v L) (hl : L.length ≤ 9223372036854775806) : W CP 92 [v, .fn 80 []] h = some (.int .i64 (fB 0 L), h, []) := by
  refine W_bothB (m := M92) (fun g => SV g v L) (fun _ => rfl) rfl rfl rfl cgl (fun h0 => ?_) (fun g hg u => ?_) hg u
  · simp only [AV.lts, Bool.and_eq_true] at h0
    exact u.gl h0.1
  have nv := u.na
  have lv := u.len
  obtain ⟨m, hm⟩ : ∃ m, L.length = m := ⟨_, rfl⟩
  rw [hm] at lv hl
  simp (maxDischargeDepth := 9) -implicitDefEqProofs only [push_cast, simprocAttr, M92, nv, lv]
  refine wp_kRes (wp_kSeq (wp_kBlock ?_))
  refine wp_loop (fun k x h' ws => ∃ i : Nat, k = m - i ∧ i ≤ m ∧ x = [(0, v), (1, .fn 80 []), (7, .int .i64 (m : Int)), (8, .int .i64 (i : Int))] ∧ Keeps g h' none ∧ fB 0 L = fB i (L.drop i) ∧ ws = []) m ?_ ?_
  · refine ⟨0, by omega, by omega, ?_, Keeps.refl _ _, rfl, rfl⟩
    simp (maxDischargeDepth := 9) -implicitDefEqProofs only [push_cast, simprocAttr, nv]; try rfl
  · rintro k xx h' ws ⟨i, rfl, hi, rfl, kh, hfb, rfl⟩
    obtain ⟨js, hj⟩ := kh.behind
    by_cases hlt : i < m
    · have hlt' : (i : Int) < (m : Int) := by omega
      have v1 : IntKind.i64.wrap ((i : Int) + 1) = (i : Int) + 1 := wr_i64 _ (by omega) (by omega)
      obtain ⟨s, hs⟩ : ∃ s, L[i]? = some s := ⟨_, List.getElem?_eq_getElem (by omega)⟩
      obtain ⟨b, x1, x2, x3⟩ := (u.kept kh).at hs
      have hd : L.drop i = s :: L.drop (i + 1) := by
        obtain ⟨h1, h2⟩ := List.getElem?_eq_some_iff.1 hs
        rw [List.drop_eq_getElem_cons h1, h2]
      rw [hd] at hfb
      have eM := fun g => may1_c s g
      by_cases c : mayB s = true
      · rw [c] at eM
        simp only [fB] at hfb
        rw [if_pos c] at hfb
        simp (maxDischargeDepth := 9) -implicitDefEqProofs only [push_cast, simprocAttr, nadd1, nadd2, nadd3, nadd4, nadd5, nadd6, nadd7, nadd8, nadd9, nadd10, nadd11, nadd12, hlt', v1, nv, lv, ↓uia_eq, x1, ↓uld_eq 14, x2, eM]
        refine loop_next (m - (i + 1)) (by omega) ⟨i + 1, rfl, by omega, ?_, kh, hfb, rfl⟩
        simp (maxDischargeDepth := 9) -implicitDefEqProofs only [push_cast, simprocAttr, nv]; try simp
      · rw [show mayB s = false from by simpa using c] at eM
        simp only [fB] at hfb
        rw [if_neg c] at hfb
        rw [hfb]
        simp (maxDischargeDepth := 9) -implicitDefEqProofs only [push_cast, simprocAttr, nadd1, nadd2, nadd3, nadd4, nadd5, nadd6, nadd7, nadd8, nadd9, nadd10, nadd11, nadd12, hlt', nv, lv, ↓uia_eq, x1, ↓uld_eq 14, x2, eM]
        exact ⟨rfl, ⟨js, hj⟩, rfl⟩
    · have hi2 : i = m := by omega
      have hnl : ¬ (i : Int) < (m : Int) := by omega
      rw [List.drop_of_length_le (by omega)] at hfb
      rw [hfb]
      simp (maxDischargeDepth := 9) -implicitDefEqProofs only [push_cast, simprocAttr, nadd1, nadd2, nadd3, nadd4, nadd5, nadd6, nadd7, nadd8, nadd9, nadd10, nadd11, nadd12, hnl]
      exact ⟨rfl, ⟨js, hj⟩, rfl⟩
theorem may_c (hg : Good h) (u : SV h v L) (hl : L.length ≤ 9223372036854775806) : W CP 57 [v] h = some (.bool (L.all mayB), h, []) := by
  refine W_bothB (m := M57) (fun g => SV g v L) (fun _ => rfl) rfl rfl rfl cgl (fun h0 => ?_) (fun g hg u => ?_) hg u
  · simp only [AV.lts, Bool.and_eq_true] at h0
    exact u.gl h0.1
  have nv := u.na
  have eC : W CP 79 [v, .fn 80 []] g = some (.bool (decide (0 ≤ fB 0 L)), g, []) := by
    refine W_bothB (m := M79) (fun g => SV g v L) (fun _ => rfl) rfl rfl rfl cgl (fun h0 => ?_) (fun g hg u => ?_) hg u
    · simp only [AV.lts, Bool.and_eq_true] at h0
      exact u.gl h0.1
    have eI := index_c hg u hl
    obtain ⟨z, hz⟩ : ∃ z, fB 0 L = z := ⟨_, rfl⟩
    rw [hz] at eI ⊢
    simp (maxDischargeDepth := 9) -implicitDefEqProofs only [push_cast, simprocAttr, M79, nv, eI]
    exact quietB
  have hb : (!decide (0 ≤ fB 0 L)) = L.all mayB := by
    have := fB_ge L 0
    by_cases c : 0 ≤ fB 0 L
    · rw [decide_eq_true c, this.1 c]; rfl
    · rw [decide_eq_false c]
      cases hh : L.all mayB with
      | true => rfl
      | false => exact absurd (this.2 hh) c
  obtain ⟨q, hq⟩ : ∃ q, decide (0 ≤ fB 0 L) = q := ⟨_, rfl⟩
  rw [← hb]
  rw [hq] at eC ⊢
  simp (maxDischargeDepth := 9) -implicitDefEqProofs only [push_cast, simprocAttr, M57, nv, eC]
  exact quietB
theorem breadth_c (s : Sp) (h : AHeap) : W CP 67 [spV s] h = some (.int .i64 (wS s + 1), h, []) := by
  have hw := wS_in s
  obtain ⟨x, y, z⟩ := s
  have e := fun g => span_Width (a := x) (l := y) (u := z) g
  have hm : wS (x, y, z) = widS x y z := rfl
  rw [hm] at hw ⊢
  obtain ⟨b, hb⟩ : ∃ b, widS x y z = b := ⟨_, rfl⟩
  rw [hb] at e hw ⊢
  have w1 : IntKind.i64.wrap (b + 1) = b + 1 := wr_i64 _ (by omega) (by omega)
  refine W_val (m := M67) (fun _ => rfl) rfl rfl rfl ?_ h
  simp (maxDischargeDepth := 9) -implicitDefEqProofs only [push_cast, simprocAttr, M67, e, w1]
end
end Go.Proofs.YtcpiohklljppaaaW.AI.D

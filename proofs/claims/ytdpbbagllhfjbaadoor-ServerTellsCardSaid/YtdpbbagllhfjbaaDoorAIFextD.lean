import Derived.Test.YtdpbbagllhfjbaaDoorAIFextC
import Derived.Test.YtdpbbagllhfjbaaDoorAIFoctB
namespace Go.Proofs.YtdpbbagllhfjbaaDoorW.AI.F
open Go Go.Proofs.YtdpbbagllhfjbaaDoorW.AI Go.Proofs.YtdpbbagllhfjbaaDoorW.AI.Oct
set_option maxRecDepth 100000
set_option linter.unusedSimpArgs false
set_option linter.unusedVariables false
set_option linter.unusedSectionVars false
theorem xrefparse_ok {h : AHeap} {x : AV} {D D' : List Int} {F : List (Int × List Int)} (hg : Good h) (hx : BV h x D) (hD : D.length < 1000000000) (hp : parseX 9 [] D = .ok F D') :
    ∃ v rv js, W CP 56 [x] h = some (.tup [v, rv, .int .i64 0], h ++ js, []) ∧ ROk h F D' v rv js ∧ nilOf rv ≠ none := by
  cases h0 : x.lt 0 with
  | true =>
    have hn : x = .nils ∧ D = [] := by
      obtain ⟨_, k | ⟨b, o, c, st, l, mn, _, _, _, _, ⟨rfl, _⟩ | rfl⟩⟩ := hx
      · exact k
      · simp [AV.lt] at h0
      · simp [AV.lt] at h0
    obtain ⟨rfl, rfl⟩ := hn
    rw [parseX_nil] at hp
    cases hp
    refine ⟨.nils, .nils, [], ?_, ⟨[], ⟨rfl, Or.inl ⟨rfl, rfl⟩⟩, fun i t D hi => by simp at hi, fun i t D hi => by simp at hi, by simp [blkOf], BV.nil _, Or.inl rfl, by rw [List.append_nil]; exact hg⟩, by simp [nilOf]⟩
    rw [List.append_nil]
    refine W_val (m := M56) (fun _ => rfl) rfl rfl rfl ?_ h
    refine (refparse_key (g := CP.gl) glG (BV.nil _) hD).mono ?_
    rintro ⟨r1, h', ws⟩ ⟨rfl, k, q⟩
    rw [parseX_nil] at q
    obtain ⟨v, l, rv, rfl, _, _, _, _, _, _, _, e1, e2⟩ := q
    simp only [e1 rfl, e2 rfl]
  | false =>
    have hx0 : AV.lts 0 [x] = false := by simp [AV.lts, h0]
    obtain ⟨⟨r1, h', ws⟩, e, rfl, k, q⟩ := refparse_key hg hx hD
    rw [hp] at q
    obtain ⟨v, l, rv, rfl, g1, g2, g3, g4, g5, g6, g7, g8, g9⟩ := q
    simp only at k g1 g2 g3 g5
    obtain ⟨js, rfl⟩ := k.behind
    cases hl : (AV.tup [v, rv, .int .i64 0]).lt h.length with
    | false =>
      refine ⟨v, rv, js, ?_, ⟨l, g1, g2, g3, g4, g5, g7, k.2.2 hg⟩, g6⟩
      rw [W_body (m := M56) rfl rfl hx0 e, show (M56).trim = true from rfl, if_pos rfl, trim_addr hl]
    | true =>
      simp only [AV.lt, AV.lts, Bool.and_eq_true] at hl
      have hv : v = .nils := lt_blkOf g1.slen g4 hl.1 (by
        rintro b o m c rfl
        rcases g1.2 with ⟨e, _⟩ | ⟨_, _, _, e, _⟩ <;> cases e)
      subst hv
      have hrv : rv = .nils := by
        rcases g7 with e | ⟨p, e, hpl⟩
        · exact e
        · have := hl.2.1
          cases rv <;> simp [blkS] at e <;> simp [AV.lt] at this <;> omega
      subst hrv
      have hF : F = [] := by
        rcases g1.2 with ⟨_, e⟩ | ⟨_, _, _, e, _⟩
        · exact List.length_eq_zero_iff.1 e
        · cases e
      have hD' : D' = [] := by
        obtain ⟨_, ⟨_, e⟩ | ⟨_, _, _, _, _, _, _, _, _, _, ⟨e, _⟩ | e⟩⟩ := g5
        · exact e
        · cases e
        · cases e
      subst hF hD'
      refine ⟨.nils, .nils, [], ?_, ⟨[], ⟨rfl, Or.inl ⟨rfl, rfl⟩⟩, fun i t D hi => by simp at hi, fun i t D hi => by simp at hi, by simp [blkOf], BV.nil _, Or.inl rfl, by rw [List.append_nil]; exact hg⟩, by simp [nilOf]⟩
      rw [List.append_nil]
      exact W_quiet (m := M56) rfl rfl hx0 rfl rfl hg e
theorem xrefparse_err {h : AHeap} {x : AV} {D : List Int} {z : Int} (hg : Good h) (hx : BV h x D) (hD : D.length < 1000000000) (hp : parseX 9 [] D = .err z) : W CP 56 [x] h = some (.tup [.nils, .nils, .int .i64 z], h, []) := by
  refine W_bothH (m := M56) (fun g => BV g x D) (fun _ => rfl) rfl rfl rfl glG (fun h0 => ?_) (fun g hg hx => ?_) hg hx
  · simp only [AV.lts, Bool.and_eq_true] at h0
    exact hx.gl h0.1
  · refine (refparse_key hg hx hD).mono fun r hr => ?_
    obtain ⟨e1, e2, e3⟩ := hr
    rw [hp] at e3
    exact ⟨e3, e2.behind, e1⟩
/-- A row of fields that came in: its cells. -/
structure ArgX (g : AHeap) (v : AV) (F : List (Int × List Int)) (A : List AV) : Prop where
  fl : F.length ≤ 9223372036854775807
  len : A.length = F.length * 2
  sh : (v = .nils ∧ F = []) ∨ ∃ b c, v = .sl b 0 F.length c ∧ F.length ≤ c ∧ g[b]? = some ⟨.ext, .vals A⟩
  el : ∀ (i : Nat) (t : Int) (D : List Int), F[i]? = some (t, D) → (0 ≤ t ∧ t < 65536) ∧ A[i * 2]? = some (.int .u16 t) ∧ ∃ d, A[i * 2 + 1]? = some d ∧ BV g d D ∧ nilOf d ≠ none ∧ D.length ≤ 9223372036854775807
theorem arg_bv {g : AHeap} {v : AV} (hv : Ty g (.sl [.i .u8]) v) : ∃ D, BV g v D ∧ nilOf v ≠ none ∧ D.length ≤ 9223372036854775807 := by
  obtain ⟨es, hs, he⟩ := Ty_sl hv
  have hle := hs.le
  rcases hs with ⟨rfl, rfl⟩ | ⟨b, c, rfl, g1, g2, g3, g4⟩
  · exact ⟨[], BV.nil g, by simp [nilOf], by simp⟩
  · have hl := flat_len (l := [CK.i .u8]) fun e h' => (TyL_lt (he e h')).2.2
    have hl1 : (es.flatten.map toI).length = es.length := by rw [List.length_map, hl]; simp
    refine ⟨es.flatten.map toI, ⟨?_, Or.inr ⟨b, 0, c, .ext, es.flatten.map toI, false, g4, Or.inl rfl, by omega, by rw [List.drop_zero, List.take_length], Or.inl ⟨by rw [hl1], by omega⟩⟩⟩, by simp [nilOf], by omega⟩
    intro x hx
    obtain ⟨a, ha, rfl⟩ := List.mem_map.1 hx
    obtain ⟨e, h1, h2⟩ := List.mem_flatten.1 ha
    have := he e h1
    simp only [TyL, Ty] at this
    obtain ⟨v, vs, rfl, ⟨n, rfl, n1, n2⟩, rfl⟩ := this
    simp only [List.mem_singleton] at h2
    subst h2
    have a : 0 ≤ n := n1
    have b : n ≤ 255 := n2
    exact ⟨a, by show n < 256; omega⟩
theorem ArgX.xr {g : AHeap} {v : AV} {F : List (Int × List Int)} {A : List AV} (a : ArgX g v F A) : ExtAt g v F := by
  rcases a.sh with ⟨rfl, rfl⟩ | ⟨b, c, rfl, hc, hb⟩
  · exact ExtAt.nil g
  · refine ⟨b, 0, A, rfl, fun g i hi => by simp only [iaV, if_pos hi], fun _ => ⟨cellsAt_of hb (by simp), by unfold faceOk; rw [hb], (List.getElem?_eq_some_iff.1 hb).1⟩, fun i t D hi => ?_⟩
    obtain ⟨h1, h2, d, h3, h4, h5, _⟩ := a.el i t D hi
    exact ⟨h1, by rw [Nat.zero_add]; exact h2, d, by rw [Nat.zero_add]; exact h3, h4, h5⟩
theorem ArgX.app {g : AHeap} {v : AV} {F : List (Int × List Int)} {A : List AV} (a : ArgX g v F A) (js : AHeap) : ArgX (g ++ js) v F A := by
  refine ⟨a.fl, a.len, ?_, fun i t D hi => ?_⟩
  · rcases a.sh with e | ⟨b, c, e, hc, hb⟩
    · exact Or.inl e
    · exact Or.inr ⟨b, c, e, hc, by rw [List.getElem?_append_left (List.getElem?_eq_some_iff.1 hb).1]; exact hb⟩
  · obtain ⟨h1, h2, d, h3, h4, h5⟩ := a.el i t D hi
    exact ⟨h1, h2, d, h3, h4.app js, h5⟩
end Go.Proofs.YtdpbbagllhfjbaaDoorW.AI.F
namespace Go.Proofs.YtdpbbagllhfjbaaDoorW.AI.F
open Go Go.Proofs.YtdpbbagllhfjbaaDoorW.AI Go.Proofs.YtdpbbagllhfjbaaDoorW.AI.Oct
set_option maxRecDepth 100000
set_option linter.unusedSimpArgs false
set_option linter.unusedVariables false
set_option linter.unusedSectionVars false
end Go.Proofs.YtdpbbagllhfjbaaDoorW.AI.F
namespace Go.Proofs.YtdpbbagllhfjbaaDoorW.AI.F
open Go Go.Proofs.YtdpbbagllhfjbaaDoorW.AI Go.Proofs.YtdpbbagllhfjbaaDoorW.AI.Oct
set_option linter.unusedVariables false
/-- What is taken is laid again. -/
theorem layB_takeV : ∀ {Ls : List Nat} {D : List Int}, Byt D → Ls.sum ≤ D.length → layB Ls (takeV Ls D) = D.take Ls.sum
  | [], D, _, _ => by simp [layB]
  | s :: Ls, D, hB, hl => by
    simp only [List.sum_cons] at hl ⊢
    have h1 : (D.take s).length = s := by rw [List.length_take]; omega
    have h2 := dg_be (fun z hz => hB z (List.mem_of_mem_take hz) : Byt (D.take s))
    rw [h1] at h2
    simp only [takeV, layB]
    rw [h2, layB_takeV (fun z hz => hB z (List.mem_of_mem_drop hz)) (by rw [List.length_drop]; omega), List.take_add]
end Go.Proofs.YtdpbbagllhfjbaaDoorW.AI.F
namespace Go.Proofs.YtdpbbagllhfjbaaDoorW.AI.F
open Go Go.Proofs.YtdpbbagllhfjbaaDoorW.AI Go.Proofs.YtdpbbagllhfjbaaDoorW.AI.Oct
set_option maxRecDepth 100000
set_option linter.unusedSimpArgs false
set_option linter.unusedVariables false
set_option linter.unusedSectionVars false
theorem GxAt.app {h : AHeap} {v : AV} {n : Nat} {l : List AV} (g : GxAt h v n l) (js : AHeap) : GxAt (h ++ js) v n l := by
  refine ⟨g.1, ?_⟩
  rcases g.2 with e | ⟨p, mn, o, e, hp⟩
  · exact Or.inl e
  · exact Or.inr ⟨p, mn, o, e, by rw [List.getElem?_append_left (List.getElem?_eq_some_iff.1 hp).1]; exact hp⟩
theorem Ents.app {h : AHeap} {v : AV} {l : List AV} {F : List (Int × List Int)} (e : Ents h v l F) (js : AHeap) : Ents (h ++ js) v l F := fun i t D hi => by
  obtain ⟨h1, h2, d, h3, h4, h5, h6⟩ := e i t D hi
  exact ⟨h1, h2, d, h3, h4.app js, h5, h6⟩
theorem gsAt_bv {h : AHeap} {v : AV} {l : List Int} (g : GsAt h v l) (hB : Byt l) : BV h v l := by
  rcases g with ⟨rfl, rfl⟩ | ⟨p, mn, o, rfl, hp⟩
  · exact BV.nil h
  · exact gsl_bv hB rfl hp
-- ---------------------------------------------------------------- plain laws
/-- What is read is laid again. -/
theorem put_parse : ∀ (k : Nat) (F1 F : List (Int × List Int)) (D D' : List Int), Byt D → F1.length + k = 9 → parseX k F1 D = .ok F D' → ∃ F2, F = F1 ++ F2 ∧ D = putX F2 ++ D' ∧ (∀ z ∈ F2, (0 ≤ z.1 ∧ z.1 < 65536) ∧ mayN z.2.length = true) ∧ F.length ≤ 8 ∧ (D'.length = 0 ∨ D'.length = 12)
  | 0, F1, F, D, D', hB, hk, h => by cases h
  | k + 1, F1, F, D, D', hB, hk, h => by
    rw [parseX] at h
    split at h
    · rename_i c0
      cases h
      exact ⟨[], by simp, by simp [putX], by simp, by omega, c0⟩
    · split at h
      · cases h
      · rename_i c0 c1
        split at h
        · cases h
        · rename_i c2
          split at h
          · cases h
          · rename_i c3
            split at h
            · cases h
            · rename_i c4
              have hmI : mayI (lenF D) = true := by simpa using c2
              obtain ⟨m1, m2⟩ := mayI_le hmI
              obtain ⟨n, hn⟩ : ∃ n : Nat, lenF D = (n : Int) := ⟨(lenF D).toNat, by omega⟩
              rw [hn, Int.toNat_natCast] at h
              have hl22 := len22 hB (show 4 ≤ D.length by omega)
              have hBd : Byt (D.drop (4 + n)) := fun z hz => hB z (List.mem_of_mem_drop hz)
              obtain ⟨F2, e1, e2, e3, e4, e5⟩ := put_parse k _ F _ D' hBd (by simp; omega) h
              have hm : mayN n = true := by
                have := hmI
                rw [hn] at this
                simp only [mayI, Int.toNat_natCast, Bool.and_eq_true] at this
                exact this.2
              have hcl : ((D.drop 4).take n).length = n := by rw [List.length_take, List.length_drop]; omega
              refine ⟨(typF D, (D.drop 4).take n) :: F2, by rw [e1]; simp, ?_, ?_, e4, e5⟩
              · have hB2 : Byt (D.take 2) := fun z hz => hB z (List.mem_of_mem_take hz)
                have hB3 : Byt ((D.drop 2).take 2) := fun z hz => hB z (List.mem_of_mem_drop (List.mem_of_mem_take hz))
                have d1 := dg_be hB2
                have d2 := dg_be hB3
                rw [show (D.take 2).length = 2 by rw [List.length_take]; omega] at d1
                rw [show ((D.drop 2).take 2).length = 2 by rw [List.length_take, List.length_drop]; omega] at d2
                have e6 : putX ((typF D, (D.drop 4).take n) :: F2) = D.take 2 ++ ((D.drop 2).take 2 ++ ((D.drop 4).take n ++ putX F2)) := by
                  have h7 : ((n : Int) + 4) = be ((D.drop 2).take 2) := by rw [← hn, lenF]; omega
                  simp only [putX, List.map_cons, List.flatten_cons, putF, hcl, h7, d2]
                  rw [show dg 2 (typF D) = D.take 2 from d1]
                  simp
                rw [e6, List.append_assoc, List.append_assoc, List.append_assoc, ← e2, show (4 + n) = 2 + 2 + n by omega, ← List.drop_drop, ← List.drop_drop]
                rw [show D.drop 4 = (D.drop 2).drop 2 by rw [List.drop_drop], List.take_append_drop, List.take_append_drop, List.take_append_drop]
              · intro z hz
                rcases List.mem_cons.1 hz with rfl | hz
                · exact ⟨hl22.1, by simp only [hcl]; exact hm⟩
                · exact e3 z hz
end Go.Proofs.YtdpbbagllhfjbaaDoorW.AI.F

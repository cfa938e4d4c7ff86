import Derived.Test.YthcjmmngenogmaaAIEfilB
import Derived.Test.YthcjmmngenogmaaAIEspr
namespace Go.Proofs.YthcjmmngenogmaaW.AI.E
open Go Go.Proofs.YthcjmmngenogmaaW.AI
set_option maxRecDepth 100000
set_option linter.unusedSimpArgs false
set_option linter.unusedVariables false
set_option linter.unusedSectionVars false
-- ------------------------------------------------------------------ the document's filter: its row
/-- A row of spans that append has made, behind n. -/
def RW (h : AHeap) (v : AV) (L : List Sp) (n : Nat) : Prop := (v = .nils ∧ L = []) ∨ ∃ b o, n ≤ b ∧ h[b]? = some ⟨.tip o, .ints .i64 (flat3 L)⟩ ∧ v = .gsl b 0 L.length 3 false
section
variable {h h' : AHeap} {v : AV} {L : List Sp} {n : Nat}
theorem RW.nil (h : AHeap) (n : Nat) : RW h .nils [] n := Or.inl ⟨rfl, rfl⟩
theorem RW.len (u : RW h v L n) : slen v = some L.length := by
  obtain ⟨rfl, rfl⟩ | ⟨b, o, _, _, rfl⟩ := u <;> rfl
theorem RW.na (u : RW h v L n) : noAny (some v) = some v := na_slen u.len
theorem RW.cell (u : RW h v L n) : v.isCell = true := by
  obtain ⟨rfl, rfl⟩ | ⟨b, o, _, _, rfl⟩ := u <;> rfl
theorem RW.keep (u : RW h v L n) (hm : ∀ (q : Nat) (z : ABlk), n ≤ q → h[q]? = some z → h'[q]? = some z) : RW h' v L n := by
  obtain q | ⟨b, o, hb, e, r⟩ := u
  · exact Or.inl q
  · exact Or.inr ⟨b, o, hb, hm _ _ hb e, r⟩
theorem RW.kept (u : RW h v L n) (k : Keeps h h' none) : RW h' v L n := u.keep fun q z _ e => keepsN k _ _ e
theorem RW.app (u : RW h v L n) (js : AHeap) : RW (h ++ js) v L n := u.keep fun q z _ e => by rw [List.getElem?_append_left (List.getElem?_eq_some_iff.1 e).1]; exact e
theorem RW.mono (u : RW h v L n) {m : Nat} (hm : m ≤ n) : RW h v L m := by
  obtain q | ⟨b, o, hb, e, r⟩ := u
  · exact Or.inl q
  · exact Or.inr ⟨b, o, by omega, e, r⟩
theorem RW.at (u : RW h v L n) {i : Nat} {s : Sp} (hs : L[i]? = some s) : ∃ b, (∀ g, uia 3 g i (some v) = some (.ptr b (i * 3), g, [])) ∧ uld (some 3) h (some (.ptr b (i * 3))) = some (spV s, h, []) ∧ n ≤ b ∧ b < h.length ∧ ∃ o c, h[b]? = some ⟨.tip o, c⟩ := by
  obtain ⟨rfl, rfl⟩ | ⟨b, o, hb, e, rfl⟩ := u
  · simp at hs
  · have r : RV h (.gsl b 0 L.length 3 false) L n := ⟨b, o, hb, e, Or.inl rfl⟩
    exact r.at hs
/-- The At of one of them. -/
theorem RW.at0 (u : RW h v L n) {i : Nat} {s : Sp} (hs : L[i]? = some s) : ∃ b, (∀ g, uia 3 g i (some v) = some (.ptr b (i * 3), g, [])) ∧ uld none h (some (.ptr b (i * 3))) = some (.int .i64 s.1, h, []) ∧ n ≤ b ∧ b < h.length ∧ ∃ o c, h[b]? = some ⟨.tip o, c⟩ := by
  obtain ⟨g1, g2, g3⟩ := flat3_get hs
  obtain ⟨hi, _⟩ := List.getElem?_eq_some_iff.1 hs
  obtain ⟨rfl, rfl⟩ | ⟨b, o, hb, e, rfl⟩ := u
  · simp at hs
  · have hc : cellsAt h b = some (.ints .i64 (flat3 L)) := by simp [cellsAt, e]
    exact ⟨b, fun g => by simp [uia, hi], by simp [uld, hc, loadA, ACells.get?, g1], hb, (List.getElem?_eq_some_iff.1 e).1, _, _, e⟩
theorem RW.shape (u : RW h v L n) : v = .nils ∨ ∃ b k, v = .gsl b 0 k 3 false := by
  obtain ⟨rfl, rfl⟩ | ⟨b, o, _, _, rfl⟩ := u
  · exact Or.inl rfl
  · exact Or.inr ⟨_, _, rfl⟩
end
theorem flat3_app (L K : List Sp) : flat3 (L ++ K) = flat3 L ++ flat3 K := by unfold flat3; simp
theorem flat3_drop1 : ∀ L : List Sp, (flat3 L).drop 3 = flat3 (L.drop 1)
  | [] => rfl
  | s :: L => rfl
/-- One span behind a row. -/
theorem appW {H : AHeap} {v : AV} {L : List Sp} {s : Sp} {n : Nat} (t : RW H v L n) (hl : L.length < 1000) (hn : n ≤ H.length) :
    ∃ v' H' ws, aappend H (.ints .i64 [0, 0, 0]) 24 v (.ints .i64 [s.1, s.2.1, s.2.2]) 1 = some (v', H', ws) ∧ RW H' v' (L ++ [s]) n ∧ (∀ b ∈ ws, n ≤ b) ∧ Keeps H H' (blkU v) ∧ (v'.isCell = true) := by
  have hf := flat3_len L
  have hfe : flat3 (L ++ [s]) = flat3 L ++ [s.1, s.2.1, s.2.2] := by rw [flat3_app]; rfl
  have hr : room (L.length + 1) 24 = true := by simp only [room, decide_eq_true_eq]; omega
  obtain ⟨rfl, rfl⟩ | ⟨p, o, hp, e, rfl⟩ := t
  · refine ⟨.gsl H.length 0 1 3 false, H ++ [⟨.tip false, .ints .i64 [s.1, s.2.1, s.2.2]⟩], [], ?_, Or.inr ⟨H.length, false, hn, by simp [flat3_cons, flat3_nil], rfl⟩, by simp, Keeps.app _ _ _ rfl, rfl⟩
    have hr1 : room 1 24 = true := by decide
    simp [aappend, hr1, ACells.len]
  · have hpl := (List.getElem?_eq_some_iff.1 e).1
    refine ⟨.gsl H.length 0 (L.length + 1) 3 false, ((if o then reTip p H.length H else H).set p ⟨.old H.length, .ints .i64 (flat3 L)⟩) ++ [⟨.tip true, .ints .i64 (flat3 L ++ [s.1, s.2.1, s.2.2])⟩], [p], ?_, Or.inr ⟨H.length, true, hn, ?_, by simp⟩, by simpa using hp, ?_, rfl⟩
    · have hsub : (ACells.ints .i64 (flat3 L)).sub 0 (L.length * 3) = .ints .i64 (flat3 L) := by
        simp only [ACells.sub, List.drop_zero]
        rw [← hf, List.take_length]
      simp only [aappend, ACells.len, List.length_cons, List.length_nil, e]
      simp only [Nat.zero_add, Nat.reduceAdd, if_true, hf, hsub, ACells.app, Option.bind_some, hr]
      try simp
    · rw [hfe, List.getElem?_append_right (by cases o <;> simp [len_reTip])]
      cases o <;> simp [len_reTip]
    · refine ⟨fun q' x hq hx hne => ?_, by cases o <;> simp [len_reTip], fun hg => ?_⟩
      · have hpq : p ≠ q' := fun e => hne (by rw [e]; rfl)
        rw [List.getElem?_append_left (by cases o <;> simp [len_reTip] <;> exact (List.getElem?_eq_some_iff.1 hq).1), List.getElem?_set_ne hpq]
        cases o
        · exact hq
        · exact reTip_keeps hq (hx p rfl)
      · cases o
        · exact good_set_old (y := ⟨.tip true, .ints .i64 (flat3 L ++ [s.1, s.2.1, s.2.2])⟩) hg hpl
        · exact good_reTip (y := ⟨.tip true, .ints .i64 (flat3 L ++ [s.1, s.2.1, s.2.2])⟩) hg hpl
/-- A row copied by append to nil. -/
theorem newW {H : AHeap} {v : AV} {L : List Sp} {n : Nat} (t : RW H v L n) : newCells H (.ints .i64 [0, 0, 0]) v = some (.ints .i64 (flat3 L)) := by
  have hf := flat3_len L
  obtain ⟨rfl, rfl⟩ | ⟨p, o, hp, e, rfl⟩ := t
  · rfl
  · simp [newCells, sliceCells, cellsAt, e, ACells.len, ACells.sub, hf]
    rw [← hf, List.take_length]
/-- All but the first. -/
theorem newW1 {H : AHeap} {p k : Nat} {o : Bool} {L : List Sp} (e : H[p]? = some ⟨.tip o, .ints .i64 (flat3 L)⟩) (hk : L.length = k + 1) : newCells H (.ints .i64 [0, 0, 0]) (.gsl p 3 k 3 false) = some (.ints .i64 (flat3 (L.drop 1))) := by
  have hf := flat3_len L
  have hd := flat3_drop1 L
  have hl : (flat3 (L.drop 1)).length = k * 3 := by rw [flat3_len, List.length_drop, hk]; simp
  have hc : cellsAt H p = some (.ints .i64 (flat3 L)) := by simp [cellsAt, e]
  have hs : sliceCells H 3 (.gsl p 3 k 3 false) = some (.ints .i64 (flat3 (L.drop 1))) := by
    simp only [sliceCells, if_true, hc, Option.bind_some, ACells.len, hf, hk, ACells.sub]
    rw [if_pos (by omega), hd, ← hl, List.take_length]
  exact hs
theorem newS {H : AHeap} {q : Nat} {s : Sp} (e : H[q]? = some ⟨.tip false, .ints .i64 [s.1, s.2.1, s.2.2]⟩) : newCells H (.ints .i64 [0, 0, 0]) (.sl q 0 1 1) = some (.ints .i64 [s.1, s.2.1, s.2.2]) := by
  simp [newCells, sliceCells, cellsAt, e, ACells.len, ACells.sub]
-- ------------------------------------------------------------------ the filter
structure RefAt (h : AHeap) (p : Nat) (F : FS) (q : Nat) (v : AV) (n : Nat) : Prop where
  blk : h[p]? = some ⟨.tip false, .vals [.ptr q 0, v, .int .i64 F.used, .bool F.held]⟩
  row : RW h v F.L.reverse n
  le : F.L.length ≤ 8
  rul : RulR h q F.t F.f
theorem RulR.kept {h h' : AHeap} {p : Nat} {t f : Int} (r : RulR h p t f) (k : Keeps h h' none) : RulR h' p t f := by
  obtain ⟨h1, h2, h3⟩ := r
  exact ⟨keepsN k _ _ h1, by have := k.2.1; omega, h3⟩
theorem RefAt.kept {h h' : AHeap} {p q : Nat} {F : FS} {v : AV} {n : Nat} (a : RefAt h p F q v n) (k : Keeps h h' none) : RefAt h' p F q v n :=
  ⟨keepsN k _ _ a.blk, a.row.kept k, a.le, a.rul.kept k⟩
theorem RefAt.app {h : AHeap} {p q : Nat} {F : FS} {v : AV} {n : Nat} (a : RefAt h p F q v n) (js : AHeap) : RefAt (h ++ js) p F q v n :=
  ⟨by rw [List.getElem?_append_left (List.getElem?_eq_some_iff.1 a.blk).1]; exact a.blk, a.row.app js, a.le, a.rul.app js⟩
theorem RefNew_ok {t f : Int} (h1 : 1 ≤ t) (h2 : t ≤ 1000000000) (h3 : 0 ≤ f) (h4 : f ≤ 500000) (h : AHeap) :
    W CP 44 [.int .i64 t, .int .i64 f] h = some (.tup [.ptr (h.length + 1) 0, .int .i64 0], h ++ [⟨.tip false, .ints .i64 [t, f]⟩, ⟨.tip false, .vals [.ptr h.length 0, .nils, .int .i64 (-1), .bool false]⟩], []) := by
  have eN := fun g => ref_New h1 h2 h3 h4 g
  have hb : ∀ h : AHeap, xbody (W CP) M44 [.int .i64 t, .int .i64 f] h = some (.tup [.ptr (h.length + 1) 0, .int .i64 0], h ++ [⟨.tip false, .ints .i64 [t, f]⟩, ⟨.tip false, .vals [.ptr h.length 0, .nils, .int .i64 (-1), .bool false]⟩], []) := by
    intro h
    simp (maxDischargeDepth := 9) -implicitDefEqProofs only [push_cast, simprocAttr, M44, eN]
    try rfl
  rw [W_made (m := M44) rfl rfl rfl (hb _) (by simp [AV.lt, AV.lts]) (hb h)]
  have : M44.trim = true := rfl
  rw [this, if_pos rfl, trim_addr (by simp [AV.lt, AV.lts])]
theorem RefNew_bad {t f : Int} (hb : t < 1 ∨ 1000000000 < t ∨ f < 0 ∨ 500000 < f) (h : AHeap) : W CP 44 [.int .i64 t, .int .i64 f] h = some (.tup [.nilp, .int .i64 1], h, []) := by
  have eN := fun g => ref_New_bad hb g
  refine W_val (m := M44) (fun _ => rfl) rfl rfl rfl ?_ h
  simp (maxDischargeDepth := 9) -implicitDefEqProofs only [push_cast, simprocAttr, M44, eN]
theorem refApart_c (s t : Sp) (h : AHeap) : W CP 87 [spV s, spV t] h = some (.int .i64 (apS s t), h, []) := by
  have h1 := mS_in s
  have h2 := mS_in t
  have e1 := fun g => ref_Mid (a := s.1) (l := s.2.1) (u := s.2.2) g
  have e2 := fun g => ref_Mid (a := t.1) (l := t.2.1) (u := t.2.2) g
  unfold apS
  unfold mS at h1 h2 ⊢
  obtain ⟨m1, hm1⟩ : ∃ w, midS s.1 s.2.1 s.2.2 = w := ⟨_, rfl⟩
  obtain ⟨m2, hm2⟩ : ∃ w, midS t.1 t.2.1 t.2.2 = w := ⟨_, rfl⟩
  rw [hm1] at e1 h1 ⊢
  rw [hm2] at e2 h2 ⊢
  have w1 : IntKind.i64.wrap (m1 - m2) = m1 - m2 := wr_i64 _ (by omega) (by omega)
  obtain ⟨x, y, z⟩ := s
  obtain ⟨x', y', z'⟩ := t
  simp only at e1 e2
  refine W_val (m := M87) (fun _ => rfl) rfl rfl rfl ?_ h
  obtain ⟨d, hd⟩ : ∃ d, m1 - m2 = d := ⟨_, rfl⟩
  have w1' : IntKind.i64.wrap (m1 - m2) = d := by rw [w1, hd]
  rw [hd]
  by_cases c : d < 0
  · have w2 : IntKind.i64.wrap (0 - d) = (d.natAbs : Int) := by rw [wr_i64 _ (by omega) (by omega)]; omega
    obtain ⟨q, hq⟩ : ∃ q, ((d.natAbs : Nat) : Int) = q := ⟨_, rfl⟩
    rw [hq] at w2 ⊢
    simp (maxDischargeDepth := 9) -implicitDefEqProofs only [push_cast, simprocAttr, M87, nadd1, nadd2, nadd3, nadd4, nadd5, nadd6, nadd7, nadd8, nadd9, nadd10, nadd11, nadd12, e1, e2, w1', w2, c, decide_false, Bool.not_false, Bool.and_true]
  · have hq : ((d.natAbs : Nat) : Int) = d := by omega
    rw [hq]
    simp (maxDischargeDepth := 9) -implicitDefEqProofs only [push_cast, simprocAttr, M87, nadd1, nadd2, nadd3, nadd4, nadd5, nadd6, nadd7, nadd8, nadd9, nadd10, nadd11, nadd12, e1, e2, w1', c, decide_false, Bool.not_false, Bool.and_true]
-- ------------------------------------------------------------------ the best one
def rb (A : List Sp) : Nat → Int × Sp
  | 0 => (-1, (0, 0, 0))
  | i + 1 => match A[i]? with
    | some s => if (rb A i).1 < 0 ∨ s.2.2 - s.2.1 ≤ (rb A i).2.2.2 - (rb A i).2.2.1 then ((i : Int), s) else rb A i
    | none => rb A i
/-- What it has found. -/
theorem rb_at {A : List Sp} : ∀ {i : Nat}, 0 < i → i ≤ A.length → ∃ k s, k < i ∧ A[k]? = some s ∧ rb A i = ((k : Int), s) ∧ (∀ j t, j < i → A[j]? = some t → s.2.2 - s.2.1 ≤ t.2.2 - t.2.1) ∧ (∀ j t, k < j → j < i → A[j]? = some t → s.2.2 - s.2.1 < t.2.2 - t.2.1)
  | 0, h, _ => by omega
  | i + 1, _, hi => by
    obtain ⟨s, hs⟩ : ∃ s, A[i]? = some s := ⟨_, List.getElem?_eq_getElem (by omega)⟩
    have e : rb A (i + 1) = if (rb A i).1 < 0 ∨ s.2.2 - s.2.1 ≤ (rb A i).2.2.2 - (rb A i).2.2.1 then ((i : Int), s) else rb A i := by simp only [rb, hs]
    rw [e]
    by_cases h0 : 0 < i
    · obtain ⟨k, u, hk, hu, hr, h1, h2⟩ := rb_at (A := A) h0 (by omega)
      rw [hr]
      simp only
      by_cases c : s.2.2 - s.2.1 ≤ u.2.2 - u.2.1
      · rw [if_pos (Or.inr c)]
        refine ⟨i, s, by omega, hs, rfl, fun j t hj ht => ?_, fun j t hj hj2 ht => by omega⟩
        by_cases hji : j = i
        · subst hji; rw [hs] at ht; cases ht; exact Int.le_refl _
        · have := h1 j t (by omega) ht; omega
      · rw [if_neg (by omega)]
        refine ⟨k, u, by omega, hu, rfl, fun j t hj ht => ?_, fun j t hj hj2 ht => ?_⟩
        · by_cases hji : j = i
          · subst hji; rw [hs] at ht; cases ht; omega
          · exact h1 j t (by omega) ht
        · by_cases hji : j = i
          · subst hji; rw [hs] at ht; cases ht; omega
          · exact h2 j t hj (by omega) ht
    · obtain rfl : i = 0 := by omega
      rw [if_pos (Or.inl (by simp [rb]))]
      refine ⟨0, s, by omega, hs, rfl, fun j t hj ht => ?_, fun j t hj hj2 ht => by omega⟩
      obtain rfl : j = 0 := by omega
      rw [hs] at ht; cases ht; exact Int.le_refl _
theorem bestN_min {A : List Sp} : ∀ {i : Nat}, 0 < i → (∀ j, j < i → wAt A (bestN A i) ≤ wAt A j) ∧ (∀ j, j < bestN A i → wAt A (bestN A i) < wAt A j)
  | 0, h => by omega
  | i + 1, _ => by
    by_cases h0 : 0 < i
    · obtain ⟨h1, h2⟩ := bestN_min (A := A) h0
      simp only [bestN]
      by_cases c : wAt A i < wAt A (bestN A i)
      · rw [if_pos c]
        refine ⟨fun j hj => ?_, fun j hj => ?_⟩
        · by_cases hji : j = i
          · rw [hji]; exact Int.le_refl _
          · have := h1 j (by omega); omega
        · have := h1 j hj; omega
      · rw [if_neg c]
        refine ⟨fun j hj => ?_, h2⟩
        by_cases hji : j = i
        · rw [hji]; omega
        · exact h1 j (by omega)
    · obtain rfl : i = 0 := by omega
      simp only [bestN]
      refine ⟨fun j hj => ?_, fun j hj => ?_⟩
      · obtain rfl : j = 0 := by omega
        simp
      · simp at hj
/-- The last of the narrowest ones in the one row is the first in the other. -/
theorem rb_best {A : List Sp} (hw : ∀ s ∈ A, wS s = s.2.2 - s.2.1) (hA : A ≠ []) : rb A.reverse A.length = (((A.length - 1 - bestN A A.length : Nat) : Int), bestS A) := by
  have h0 : 0 < A.length := List.length_pos_iff.2 hA
  obtain ⟨k, s, hk, hs, hr, h1, h2⟩ := rb_at (A := A.reverse) h0 (by simp)
  obtain ⟨m1, m2⟩ := bestN_min (A := A) h0
  have hb := bestN_lt (L := A) h0 A.length (Nat.le_refl _)
  have hrev : ∀ j, j < A.length → A.reverse[A.length - 1 - j]? = A[j]? := fun j hj => by
    rw [List.getElem?_reverse (by omega)]
    congr 1
    omega
  have hrev2 : A[A.length - 1 - k]? = some s := by rw [← hrev _ (by omega), show A.length - 1 - (A.length - 1 - k) = k by omega]; exact hs
  have hwj : ∀ j t, A[j]? = some t → wAt A j = t.2.2 - t.2.1 := fun j t ht => by
    unfold wAt
    rw [ht]
    exact hw t (List.mem_of_getElem? ht)
  have hat := bestS_at hA
  have hkey : bestN A A.length = A.length - 1 - k := by
    have a1 := hwj _ _ hat
    have a2 := hwj _ _ hrev2
    rcases Nat.lt_trichotomy (bestN A A.length) (A.length - 1 - k) with c | c | c
    · exfalso
      have := h2 (A.length - 1 - bestN A A.length) (bestS A) (by omega) (by omega) (by rw [hrev _ hb]; exact hat)
      have := m1 (A.length - 1 - k) (by omega)
      omega
    · exact c
    · exfalso
      have := m2 (A.length - 1 - k) c
      have := h1 (A.length - 1 - bestN A A.length) (bestS A) (by omega) (by rw [hrev _ hb]; exact hat)
      omega
  rw [hr]
  refine Prod.ext ?_ ?_
  · show (k : Int) = _
    omega
  · show s = bestS A
    rw [← hkey, hat] at hrev2
    cases hrev2
    rfl
end Go.Proofs.YthcjmmngenogmaaW.AI.E
namespace Go.Proofs.YthcjmmngenogmaaW.AI.E
open Go Go.Proofs.YthcjmmngenogmaaW.AI
set_option maxRecDepth 100000
set_option linter.unusedSimpArgs false
set_option linter.unusedVariables false
set_option linter.unusedSectionVars false
theorem bro_mono {a b : Int} (h : a ≤ b) : bro a ≤ bro b := by
  unfold bro clamp
  repeat' split
  all_goals omega
/-- An aged span may be. -/
theorem age_ok {t f raw : Int} {s : Sp} (t1 : 1 ≤ t) (t2 : t ≤ 1000000000) (f1 : 0 ≤ f) (f2 : f ≤ 500000) (hc : canA raw s) : mayS (age1 t f raw s).1 (age1 t f raw s).2.1 (age1 t f raw s).2.2 = true ∧ (age1 t f raw s).2.1 ≤ (age1 t f raw s).2.2 := by
  obtain ⟨h1, h2, h3⟩ := hc
  have hm := mayS_iff.1 h1
  have hdu : downV t f (raw - s.1) ≤ upV t f (raw - s.1) := by
    obtain ⟨v, ev, v1, v2, _⟩ := downV_char t1 t2 f1 f2 (x := raw - s.1) (by omega) (by omega)
    by_cases c : raw - s.1 ≤ 4000000000000000000
    · obtain ⟨u, eu, u1, u2, u3, u4⟩ := upV_char t1 t2 f1 f2 (x := raw - s.1) (by omega) c
      rw [ev, eu]; omega
    · rw [ev]
      unfold upV
      have hb : bro (raw - s.1) = raw - s.1 := bro_id (by omega) (by omega)
      simp only [hb]
      split
      · have : raw - s.1 ≤ mdv true (raw - s.1 + t + 1) 1000000000 (1000000000 - f) := by
          unfold mdv
          simp only [if_true]
          have : (raw - s.1) * (1000000000 - f) ≤ (raw - s.1 + t + 1) * 1000000000 := by
            have e1 : (raw - s.1) * (1000000000 - f) ≤ (raw - s.1) * 1000000000 := Int.mul_le_mul_of_nonneg_left (by omega) (by omega)
            have e2 : (raw - s.1) * 1000000000 ≤ (raw - s.1 + t + 1) * 1000000000 := Int.mul_le_mul_of_nonneg_right (by omega) (by omega)
            omega
          have h5 := Int.le_ediv_of_mul_le (show (0 : Int) < 1000000000 - f by omega) this
          have h6 : (raw - s.1 + t + 1) * 1000000000 / (1000000000 - f) ≤ -(-((raw - s.1 + t + 1) * 1000000000) / (1000000000 - f)) := by
            have a1 := Int.mul_ediv_self_le (x := (raw - s.1 + t + 1) * 1000000000) (k := 1000000000 - f) (by omega)
            have a2 := Int.mul_ediv_self_le (x := -((raw - s.1 + t + 1) * 1000000000)) (k := 1000000000 - f) (by omega)
            have a3 : (1000000000 - f) * ((raw - s.1 + t + 1) * 1000000000 / (1000000000 - f) + -((raw - s.1 + t + 1) * 1000000000) / (1000000000 - f)) ≤ (1000000000 - f) * 0 := by
              rw [Int.mul_add]; omega
            have := Int.le_of_mul_le_mul_left a3 (by omega)
            omega
          omega
        have h7 := bro_mono this
        rw [hb] at h7
        omega
      · omega
  have e1 := bro_in (s.2.1 + downV t f (raw - s.1))
  have e2 := bro_in (s.2.2 + upV t f (raw - s.1))
  have e3 : bro (s.2.1 + downV t f (raw - s.1)) ≤ bro (s.2.2 + upV t f (raw - s.1)) := bro_mono (by omega)
  unfold age1
  exact ⟨mayS_iff.2 ⟨⟨by omega, h3⟩, e1.1, e3, e2.2⟩, e3⟩
theorem age_wS {t f raw : Int} {s : Sp} (t1 : 1 ≤ t) (t2 : t ≤ 1000000000) (f1 : 0 ≤ f) (f2 : f ≤ 500000) (hc : canA raw s) : wS (age1 t f raw s) = (age1 t f raw s).2.2 - (age1 t f raw s).2.1 := by
  unfold wS widS
  rw [if_pos (age_ok t1 t2 f1 f2 hc).1]
/-- What the document's Best tells of the place. -/
def atR (F : FS) (raw : Int) : Int := ((F.L.length - 1 - bestN (ageL F raw) F.L.length : Nat) : Int)
open Classical in
noncomputable def atO (F : FS) (raw : Int) : Int := if canL F raw then atR F raw else -1
section
variable {h : AHeap} {p q : Nat} {F : FS} {v : AV} {n : Nat}
theorem refRev (F : FS) (raw : Int) : (F.L.reverse).map (age1 F.t F.f raw) = (ageL F raw).reverse := by rw [List.map_reverse]
theorem rb_in {A : List Sp} (hA : ∀ s ∈ A, (0 ≤ s.2.1 ∧ s.2.1 ≤ 4611686018427387904) ∧ (0 ≤ s.2.2 ∧ s.2.2 ≤ 4611686018427387904)) : ∀ i : Nat, (0 ≤ (rb A i).2.2.1 ∧ (rb A i).2.2.1 ≤ 4611686018427387904) ∧ (0 ≤ (rb A i).2.2.2 ∧ (rb A i).2.2.2 ≤ 4611686018427387904)
  | 0 => by simp [rb]
  | i + 1 => by
    have ih := rb_in hA i
    simp only [rb]
    split
    · rename_i s hs
      split
      · exact hA s (List.mem_of_getElem? hs)
      · exact ih
    · exact ih
theorem rb_fst (A : List Sp) : ∀ i : Nat, (rb A i).1 = -1 ∨ ∃ k : Nat, (rb A i).1 = (k : Int) ∧ k < i
  | 0 => Or.inl rfl
  | i + 1 => by
    simp only [rb]
    split
    · split
      · exact Or.inr ⟨i, rfl, by omega⟩
      · rcases rb_fst A i with h | ⟨k, h, hk⟩
        · exact Or.inl h
        · exact Or.inr ⟨k, h, by omega⟩
    · rcases rb_fst A i with h | ⟨k, h, hk⟩
      · exact Or.inl h
      · exact Or.inr ⟨k, h, by omega⟩
set_option maxHeartbeats 8000000 in
theorem refBest_walk (hg : Good h) (a : RefAt h p F q v n) (raw : Int) : Wp (xbody (W CP) M48 [.ptr p 0, .int .i64 raw] h) fun r =>
    ((∀ s ∈ F.L, canA raw s) → r.1 = .tup [spV (rb (ageL F raw).reverse F.L.length).2, .int .i64 (rb (ageL F raw).reverse F.L.length).1]) ∧ (¬ (∀ s ∈ F.L, canA raw s) → r.1 = .tup [spA 0 0 0, .int .i64 (-1)]) ∧ (∃ js, r.2.1 = h ++ js) ∧ r.2.2 = [] := by
  have b := a.blk
  have l := (List.getElem?_eq_some_iff.1 b).1
  have hle := a.le
  have hlr : F.L.reverse.length = F.L.length := List.length_reverse
  obtain ⟨m, hm⟩ : ∃ m, F.L.length = m := ⟨_, rfl⟩
  rw [hm] at hle hlr ⊢
  have rin : ∀ x : Sp, (0 ≤ (age1 F.t F.f raw x).2.1 ∧ (age1 F.t F.f raw x).2.1 ≤ 4611686018427387904) ∧ (0 ≤ (age1 F.t F.f raw x).2.2 ∧ (age1 F.t F.f raw x).2.2 ≤ 4611686018427387904) := fun x => ⟨bro_in _, bro_in _⟩
  have hrb := rb_in (A := (ageL F raw).reverse) fun s hs => by
    rw [List.mem_reverse] at hs
    obtain ⟨x, _, rfl⟩ := List.mem_map.1 hs
    exact rin x
  obtain ⟨Y, hY⟩ : ∃ Y, h ++ [ABlk.new (.ints .i64 [0, 0, 0]), ABlk.new (.ints .i64 [0, 0, 0])] = Y := ⟨_, rfl⟩
  have kY : Keeps h Y none := by rw [← hY]; exact Keeps.app h [⟨.tip false, .ints .i64 [0, 0, 0]⟩, ⟨.tip false, .ints .i64 [0, 0, 0]⟩] none rfl
  have bY : Y[h.length]? = some ⟨.tip false, .ints .i64 [0, 0, 0]⟩ := by rw [← hY]; exact fend _ _ _
  have cY : Y[h.length + 1]? = some ⟨.tip false, .ints .i64 [0, 0, 0]⟩ := by rw [← hY]; exact fend1 _ _ _ _
  simp (maxDischargeDepth := 9) -implicitDefEqProofs only [push_cast, simprocAttr, M48, nadd1, nadd2, nadd3, nadd4, nadd5, nadd6, nadd7, nadd8, nadd9, nadd10, nadd11, nadd12, hY]
  refine wp_kRes (wp_kSeq (wp_kBlock ?_))
  refine wp_loop (fun k x h' ws => ∃ (i : Nat) (at_ : Int) (o1 o2 o3 : Int), k = m - i ∧ i ≤ m ∧ x = [(0, .ptr p 0), (1, .int .i64 raw), (4, .ptr h.length 0), (6, .int .i64 at_), (7, .ptr (h.length + 1) 0), (8, .int .i64 (i : Int))] ∧
    rb (ageL F raw).reverse i = (at_, (o1, o2, o3)) ∧ h'[h.length]? = some ⟨.tip false, .ints .i64 [0, 0, 0]⟩ ∧ h'[h.length + 1]? = some ⟨.tip false, .ints .i64 [o1, o2, o3]⟩ ∧ Keeps h h' none ∧ (∀ s ∈ F.L.reverse.take i, canA raw s) ∧ ws = []) m ?_ ?_
  · refine ⟨0, -1, 0, 0, 0, by omega, by omega, ?_, rfl, bY, cY, kY, by simp, rfl⟩
    simp (maxDischargeDepth := 9) -implicitDefEqProofs only [push_cast, simprocAttr]; try rfl
  · rintro k xx h' ws ⟨i, at_, o1, o2, o3, rfl, hi, rfl, hri, b4, b7, kh, hcan, rfl⟩
    have hgh := kh.2.2 hg
    have v1 : IntKind.i64.wrap ((i : Int) + 1) = (i : Int) + 1 := wr_i64 _ (by omega) (by omega)
    have d1 := keepsN kh _ _ b
    have d1l := (List.getElem?_eq_some_iff.1 d1).1
    have l4 := (List.getElem?_eq_some_iff.1 b4).1
    have l7 := (List.getElem?_eq_some_iff.1 b7).1
    have rw' := (a.kept kh).row
    have lv := rw'.len
    rw [hlr] at lv
    have nv := rw'.na
    by_cases hlt : i < m
    · have hlt' : (i : Int) < (m : Int) := by omega
      obtain ⟨s, hs⟩ : ∃ s, F.L.reverse[i]? = some s := ⟨_, List.getElem?_eq_getElem (by omega)⟩
      have hsm : s ∈ F.L := List.mem_reverse.1 (List.mem_of_getElem? hs)
      obtain ⟨bb, x1, x2, x3, x4, oo, cc, x5⟩ := rw'.at hs
      have hAi : (ageL F raw).reverse[i]? = some (age1 F.t F.f raw s) := by rw [← refRev, List.getElem?_map, hs]; rfl
      have hnext : rb (ageL F raw).reverse (i + 1) = if at_ < 0 ∨ (age1 F.t F.f raw s).2.2 - (age1 F.t F.f raw s).2.1 ≤ o3 - o2 then ((i : Int), age1 F.t F.f raw s) else (at_, (o1, o2, o3)) := by simp only [rb, hAi, hri]
      have hin := hrb i
      rw [hri] at hin
      simp only at hin
      have hri2 := rin s
      have eA := ref_Age (a := s.1) (l := s.2.1) (u := s.2.2) (raw := raw) hgh ((a.kept kh).rul)
      obtain ⟨x, y, z⟩ := s
      simp only at eA
      obtain ⟨Y1, hY1⟩ : ∃ Y, h' ++ [ABlk.new (.ints .i64 [0, 0, 0])] = Y := ⟨_, rfl⟩
      have kY1 : Keeps h' Y1 none := by rw [← hY1]; exact Keeps.app h' [⟨.tip false, .ints .i64 [0, 0, 0]⟩] none rfl
      have bY1 : Y1[h'.length]? = some ⟨.tip false, .ints .i64 [0, 0, 0]⟩ := by rw [← hY1]; exact fend _ _ _
      have lY1 := (List.getElem?_eq_some_iff.1 bY1).1
      have hlo : ¬ h'.length < h.length := by have := kh.2.1; omega
      have hlo2 : ¬ h'.length ≤ bb := by omega
      have hlo3 : ¬ h'.length ≤ p := by omega
      by_cases hc : canA raw (x, y, z)
      · have hc' : mayS x y z = true ∧ x ≤ raw ∧ raw ≤ 4611686018427387904 := hc
        rw [if_pos hc'] at eA
        have hage : age1 F.t F.f raw (x, y, z) = (raw, bro (y + downV F.t F.f (raw - x)), bro (z + upV F.t F.f (raw - x))) := rfl
        obtain ⟨A1, hA1⟩ : ∃ w, bro (y + downV F.t F.f (raw - x)) = w := ⟨_, rfl⟩
        obtain ⟨A2, hA2⟩ : ∃ w, bro (z + upV F.t F.f (raw - x)) = w := ⟨_, rfl⟩
        rw [hA1, hA2] at eA hage
        rw [hage] at hnext hri2
        simp only at hnext hri2
        obtain ⟨H1, hH1⟩ : ∃ H, Y1.set h'.length ⟨.tip false, .ints .i64 [raw, A1, A2]⟩ = H := ⟨_, rfl⟩
        have kH1 : Keeps h' H1 none := by rw [← hH1]; exact keepsS kY1 (Nat.le_refl _) rfl
        have bH1 : H1[h'.length]? = some ⟨.tip false, .ints .i64 [raw, A1, A2]⟩ := by rw [← hH1]; exact List.getElem?_set_self lY1
        have lH1 := (List.getElem?_eq_some_iff.1 bH1).1
        have c4 := keepsN kH1 _ _ b4
        have c7 := keepsN kH1 _ _ b7
        have c4l := (List.getElem?_eq_some_iff.1 c4).1
        have c7l := (List.getElem?_eq_some_iff.1 c7).1
        have hne : h.length + 1 ≠ h.length := by omega
        have hne' : h.length ≠ h.length + 1 := by omega
        have w1 : IntKind.i64.wrap (A2 - A1) = A2 - A1 := wr_i64 _ (by omega) (by omega)
        have w2 : IntKind.i64.wrap (o3 - o2) = o3 - o2 := wr_i64 _ (by omega) (by omega)
        obtain ⟨D1, hD1⟩ : ∃ D, A2 - A1 = D := ⟨_, rfl⟩
        obtain ⟨D2, hD2⟩ : ∃ D, o3 - o2 = D := ⟨_, rfl⟩
        have w1' : IntKind.i64.wrap (A2 - A1) = D1 := by rw [w1, hD1]
        have w2' : IntKind.i64.wrap (o3 - o2) = D2 := by rw [w2, hD2]
        rw [hD1, hD2] at hnext
        have hcan' : ∀ s ∈ F.L.reverse.take (i + 1), canA raw s := by
          intro s hs'
          rw [List.take_add_one, hs] at hs'
          rcases List.mem_append.1 hs' with h | h
          · exact hcan s h
          · simp at h
            subst h
            exact hc
        have hb1 : ¬ h.length + 1 < h.length := by omega
        obtain ⟨H2, hH2⟩ : ∃ H, H1.set (h.length + 1) ⟨.tip false, .ints .i64 [raw, A1, A2]⟩ = H := ⟨_, rfl⟩
        have kH2 : Keeps h H2 none := by rw [← hH2]; exact keepsS (keepsT kh kH1) (by omega) rfl
        have e4 : H2[h.length]? = some ⟨.tip false, .ints .i64 [0, 0, 0]⟩ := by rw [← hH2, List.getElem?_set_ne hne]; exact c4
        have e7 : H2[h.length + 1]? = some ⟨.tip false, .ints .i64 [raw, A1, A2]⟩ := by rw [← hH2]; exact List.getElem?_set_self c7l
        by_cases t1 : at_ < 0
        · rw [if_pos (Or.inl t1)] at hnext
          simp (maxDischargeDepth := 9) -implicitDefEqProofs only [push_cast, simprocAttr, nadd1, nadd2, nadd3, nadd4, nadd5, nadd6, nadd7, nadd8, nadd9, nadd10, nadd11, nadd12, hlt', v1, d1, d1l, nv, lv, ↓uia_eq, x1, ↓uld_eq 30, x2, eA, hY1, bY1, lY1, hH1, bH1, lH1, c7, c7l, t1, hlo, hlo2, hlo3, hb1, hH2, decide_false, Bool.not_false, Bool.and_true]
          refine loop_next (m - (i + 1)) (by omega) ⟨i + 1, i, raw, A1, A2, rfl, by omega, ?_, hnext, e4, e7, kH2, hcan', rfl⟩
          simp (maxDischargeDepth := 9) -implicitDefEqProofs only [push_cast, simprocAttr]; try simp
        · by_cases t2 : D1 ≤ D2
          · rw [if_pos (Or.inr t2)] at hnext
            simp (maxDischargeDepth := 9) -implicitDefEqProofs only [push_cast, simprocAttr, nadd1, nadd2, nadd3, nadd4, nadd5, nadd6, nadd7, nadd8, nadd9, nadd10, nadd11, nadd12, hlt', v1, d1, d1l, nv, lv, ↓uia_eq, x1, ↓uld_eq 30, x2, eA, hY1, bY1, lY1, hH1, bH1, lH1, c7, c7l, t1, w1', w2', t2, hlo, hlo2, hlo3, hb1, hH2, decide_false, Bool.not_false, Bool.and_true]
            refine loop_next (m - (i + 1)) (by omega) ⟨i + 1, i, raw, A1, A2, rfl, by omega, ?_, hnext, e4, e7, kH2, hcan', rfl⟩
            simp (maxDischargeDepth := 9) -implicitDefEqProofs only [push_cast, simprocAttr]; try simp
          · rw [if_neg (fun e => e.elim t1 t2)] at hnext
            simp (maxDischargeDepth := 9) -implicitDefEqProofs only [push_cast, simprocAttr, nadd1, nadd2, nadd3, nadd4, nadd5, nadd6, nadd7, nadd8, nadd9, nadd10, nadd11, nadd12, hlt', v1, d1, d1l, nv, lv, ↓uia_eq, x1, ↓uld_eq 30, x2, eA, hY1, bY1, lY1, hH1, bH1, lH1, c7, c7l, t1, w1', w2', t2, hlo, hlo2, hlo3, hb1, decide_false, Bool.not_false, Bool.and_true]
            refine loop_next (m - (i + 1)) (by omega) ⟨i + 1, at_, o1, o2, o3, rfl, by omega, ?_, hnext, c4, c7, keepsT kh kH1, hcan', rfl⟩
            simp (maxDischargeDepth := 9) -implicitDefEqProofs only [push_cast, simprocAttr]; try simp
      · have hc' : ¬ (mayS x y z = true ∧ x ≤ raw ∧ raw ≤ 4611686018427387904) := hc
        rw [if_neg hc'] at eA
        obtain ⟨H1, hH1⟩ : ∃ H, Y1.set h'.length ⟨.tip false, .ints .i64 [0, 0, 0]⟩ = H := ⟨_, rfl⟩
        have kH1 : Keeps h' H1 none := by rw [← hH1]; exact keepsS kY1 (Nat.le_refl _) rfl
        have c4 := keepsN kH1 _ _ b4
        have c4l := (List.getElem?_eq_some_iff.1 c4).1
        have hno : ¬ ∀ s ∈ F.L, canA raw s := fun e => hc (e _ hsm)
        obtain ⟨H2, hH2⟩ : ∃ H, H1.set h.length ⟨.tip false, .ints .i64 [0, 0, 0]⟩ = H := ⟨_, rfl⟩
        have kH2 : Keeps h H2 none := by rw [← hH2]; exact keepsS (keepsT kh kH1) (Nat.le_refl _) rfl
        have e4 : H2[h.length]? = some ⟨.tip false, .ints .i64 [0, 0, 0]⟩ := by rw [← hH2]; exact List.getElem?_set_self c4l
        obtain ⟨js, hj⟩ := kH2.behind
        have e4l := (List.getElem?_eq_some_iff.1 e4).1
        simp (maxDischargeDepth := 9) -implicitDefEqProofs only [push_cast, simprocAttr, nadd1, nadd2, nadd3, nadd4, nadd5, nadd6, nadd7, nadd8, nadd9, nadd10, nadd11, nadd12, hlt', v1, d1, d1l, nv, lv, ↓uia_eq, x1, ↓uld_eq 30, x2, eA, hY1, bY1, lY1, hH1, c4, c4l, hlo, hlo2, hlo3, hH2, e4, e4l, decide_false, Bool.not_false, Bool.and_true]
        exact ⟨fun e => absurd e hno, fun _ => trivial, ⟨js, hj⟩⟩
    · have hi2 : i = m := by omega
      subst hi2
      have hnl : ¬ (i : Int) < (i : Int) := by omega
      have hyes : ∀ s ∈ F.L, canA raw s := fun s hs => hcan s (by rw [List.take_of_length_le (by omega)]; exact List.mem_reverse.2 hs)
      obtain ⟨H2, hH2⟩ : ∃ H, h'.set h.length ⟨.tip false, .ints .i64 [o1, o2, o3]⟩ = H := ⟨_, rfl⟩
      have kH2 : Keeps h H2 none := by rw [← hH2]; exact keepsS kh (Nat.le_refl _) rfl
      have e4 : H2[h.length]? = some ⟨.tip false, .ints .i64 [o1, o2, o3]⟩ := by rw [← hH2]; exact List.getElem?_set_self l4
      have e4l := (List.getElem?_eq_some_iff.1 e4).1
      obtain ⟨js, hj⟩ := kH2.behind
      rw [hri]
      simp (maxDischargeDepth := 9) -implicitDefEqProofs only [push_cast, simprocAttr, nadd1, nadd2, nadd3, nadd4, nadd5, nadd6, nadd7, nadd8, nadd9, nadd10, nadd11, nadd12, hnl, d1, d1l, nv, lv, b4, l4, b7, l7, hH2, e4, e4l]
      exact ⟨fun _ => trivial, fun e => absurd hyes e, ⟨js, hj⟩⟩
theorem ageL_wS (t1 : 1 ≤ F.t) (t2 : F.t ≤ 1000000000) (f1 : 0 ≤ F.f) (f2 : F.f ≤ 500000) {raw : Int} (hc : ∀ s ∈ F.L, canA raw s) : ∀ s ∈ ageL F raw, wS s = s.2.2 - s.2.1 := by
  intro s hs
  obtain ⟨x, hx, rfl⟩ := List.mem_map.1 hs
  exact age_wS t1 t2 f1 f2 (hc x hx)
theorem refBest_c {raw : Int} (hg : Good h) (a : RefAt h p F q v n) : W CP 48 [.ptr p 0, .int .i64 raw] h = some (.tup [spV (bestO F raw).1, .int .i64 (atO F raw)], h, []) := by
  refine W_quietP (m := M48) rfl rfl (by simp [AV.lts, AV.lt]) rfl rfl hg ?_
  refine (refBest_walk hg a raw).mono ?_
  rintro ⟨x, h', ws⟩ ⟨k1, k2, k3, k4⟩
  refine ⟨?_, k3, k4⟩
  simp only at k1 k2 ⊢
  obtain ⟨_, _, r3, r4, r5, r6⟩ := a.rul
  unfold bestO atO
  by_cases c : ∀ s ∈ F.L, canA raw s
  · rw [k1 c]
    by_cases c0 : F.L = []
    · have hn : ¬ canL F raw := fun e => e.1 c0
      have hl : F.L.length = 0 := by rw [c0]; rfl
      rw [if_neg hn, if_neg hn, hl]
      rfl
    · have hy : canL F raw := ⟨c0, c⟩
      rw [if_pos hy, if_pos hy]
      have hne : ageL F raw ≠ [] := fun e => c0 (List.map_eq_nil_iff.1 e)
      have e := rb_best (A := ageL F raw) (ageL_wS r3 r4 r5 r6 c) hne
      rw [ageL_len] at e
      rw [e]
      rfl
  · have hn : ¬ canL F raw := fun e => c e.2
    rw [k2 c, if_neg hn, if_neg hn]
end
end Go.Proofs.YthcjmmngenogmaaW.AI.E

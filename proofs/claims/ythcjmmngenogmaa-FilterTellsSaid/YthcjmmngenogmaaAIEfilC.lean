import Derived.Test.YthcjmmngenogmaaAIEfilB
import Derived.Test.YthcjmmngenogmaaAIEspr
namespace Go.Proofs.YthcjmmngenogmaaW.AI.E
open Go Go.Proofs.YthcjmmngenogmaaW.AI
set_option maxRecDepth 100000
set_option linter.unusedSimpArgs false
set_option linter.unusedVariables false
set_option linter.unusedSectionVars false
-- ------------------------------------------------------------------ the document's filter: its row
/-- A row of spans that append has made, behind n. -/
def RW (h : AHeap) (v : AV) (L : List Sp) (n : Nat) : Prop := (v = .nils ∧ L = []) ∨ ∃ b o, n ≤ b ∧ h[b]? = some ⟨.tip o, .ints .i64 (flat3 L)⟩ ∧ v = .gsl b 0 L.length 3 false
section
variable {h h' : AHeap} {v : AV} {L : List Sp} {n : Nat}
theorem RW.nil (h : AHeap) (n : Nat) : RW h .nils [] n := Or.inl ⟨rfl, rfl⟩
theorem RW.len (u : RW h v L n) : slen v = some L.length := by
  obtain ⟨rfl, rfl⟩ | ⟨b, o, _, _, rfl⟩ := u <;> rfl
theorem RW.na (u : RW h v L n) : noAny (some v) = some v := na_slen u.len
theorem RW.cell (u : RW h v L n) : v.isCell = true := by
  obtain ⟨rfl, rfl⟩ | ⟨b, o, _, _, rfl⟩ := u <;> rfl
theorem RW.keep (u : RW h v L n) (hm : ∀ (q : Nat) (z : ABlk), n ≤ q → h[q]? = some z → h'[q]? = some z) : RW h' v L n := by
  obtain q | ⟨b, o, hb, e, r⟩ := u
  · exact Or.inl q
  · exact Or.inr ⟨b, o, hb, hm _ _ hb e, r⟩
theorem RW.kept (u : RW h v L n) (k : Keeps h h' none) : RW h' v L n := u.keep fun q z _ e => keepsN k _ _ e
theorem RW.app (u : RW h v L n) (js : AHeap) : RW (h ++ js) v L n := u.keep fun q z _ e => by rw [List.getElem?_append_left (List.getElem?_eq_some_iff.1 e).1]; exact e
theorem RW.mono (u : RW h v L n) {m : Nat} (hm : m ≤ n) : RW h v L m := by
  obtain q | ⟨b, o, hb, e, r⟩ := u
  · exact Or.inl q
  · exact Or.inr ⟨b, o, by omega, e, r⟩
theorem RW.at (u : RW h v L n) {i : Nat} {s : Sp} (hs : L[i]? = some s) : ∃ b, (∀ g, uia 3 g i (some v) = some (.ptr b (i * 3), g, [])) ∧ uld (some 3) h (some (.ptr b (i * 3))) = some (spV s, h, []) ∧ n ≤ b ∧ b < h.length ∧ ∃ o c, h[b]? = some ⟨.tip o, c⟩ := by
  obtain ⟨rfl, rfl⟩ | ⟨b, o, hb, e, rfl⟩ := u
  · simp at hs
  · have r : RV h (.gsl b 0 L.length 3 false) L n := ⟨b, o, hb, e, Or.inl rfl⟩
    exact r.at hs
/-- The At of one of them. -/
theorem RW.at0 (u : RW h v L n) {i : Nat} {s : Sp} (hs : L[i]? = some s) : ∃ b, (∀ g, uia 3 g i (some v) = some (.ptr b (i * 3), g, [])) ∧ uld none h (some (.ptr b (i * 3))) = some (.int .i64 s.1, h, []) ∧ n ≤ b ∧ b < h.length ∧ ∃ o c, h[b]? = some ⟨.tip o, c⟩ := by
  obtain ⟨g1, g2, g3⟩ := flat3_get hs
  obtain ⟨hi, _⟩ := List.getElem?_eq_some_iff.1 hs
  obtain ⟨rfl, rfl⟩ | ⟨b, o, hb, e, rfl⟩ := u
  · simp at hs
  · have hc : cellsAt h b = some (.ints .i64 (flat3 L)) := by simp [cellsAt, e]
    exact ⟨b, fun g => by simp [uia, hi], by simp [uld, hc, loadA, ACells.get?, g1], hb, (List.getElem?_eq_some_iff.1 e).1, _, _, e⟩
theorem RW.shape (u : RW h v L n) : v = .nils ∨ ∃ b k, v = .gsl b 0 k 3 false := by
  obtain ⟨rfl, rfl⟩ | ⟨b, o, _, _, rfl⟩ := u
  · exact Or.inl rfl
  · exact Or.inr ⟨_, _, rfl⟩
end
theorem flat3_app (L K : List Sp) : flat3 (L ++ K) = flat3 L ++ flat3 K := by unfold flat3; simp
theorem flat3_drop1 : ∀ L : List Sp, (flat3 L).drop 3 = flat3 (L.drop 1)
  | [] => rfl
  | s :: L => rfl
/-- One span behind a row. -/
theorem appW {H : AHeap} {v : AV} {L : List Sp} {s : Sp} {n : Nat} (t : RW H v L n) (hl : L.length < 1000) (hn : n ≤ H.length) :
    ∃ v' H' ws, aappend H (.ints .i64 [0, 0, 0]) 24 v (.ints .i64 [s.1, s.2.1, s.2.2]) 1 = some (v', H', ws) ∧ RW H' v' (L ++ [s]) n ∧ (∀ b ∈ ws, n ≤ b) ∧ Keeps H H' (blkU v) ∧ (v'.isCell = true) := by
  have hf := flat3_len L
  have hfe : flat3 (L ++ [s]) = flat3 L ++ [s.1, s.2.1, s.2.2] := by rw [flat3_app]; rfl
  have hr : room (L.length + 1) 24 = true := by simp only [room, decide_eq_true_eq]; omega
  obtain ⟨rfl, rfl⟩ | ⟨p, o, hp, e, rfl⟩ := t
  · refine ⟨.gsl H.length 0 1 3 false, H ++ [⟨.tip false, .ints .i64 [s.1, s.2.1, s.2.2]⟩], [], ?_, Or.inr ⟨H.length, false, hn, by simp [flat3_cons, flat3_nil], rfl⟩, by simp, Keeps.app _ _ _ rfl, rfl⟩
    have hr1 : room 1 24 = true := by decide
    simp [aappend, hr1, ACells.len]
  · have hpl := (List.getElem?_eq_some_iff.1 e).1
    refine ⟨.gsl H.length 0 (L.length + 1) 3 false, ((if o then reTip p H.length H else H).set p ⟨.old H.length, .ints .i64 (flat3 L)⟩) ++ [⟨.tip true, .ints .i64 (flat3 L ++ [s.1, s.2.1, s.2.2])⟩], [p], ?_, Or.inr ⟨H.length, true, hn, ?_, by simp⟩, by simpa using hp, ?_, rfl⟩
    · have hsub : (ACells.ints .i64 (flat3 L)).sub 0 (L.length * 3) = .ints .i64 (flat3 L) := by
        simp only [ACells.sub, List.drop_zero]
        rw [← hf, List.take_length]
      simp only [aappend, ACells.len, List.length_cons, List.length_nil, e]
      simp only [Nat.zero_add, Nat.reduceAdd, if_true, hf, hsub, ACells.app, Option.bind_some, hr]
      try simp
    · rw [hfe, List.getElem?_append_right (by cases o <;> simp [len_reTip])]
      cases o <;> simp [len_reTip]
    · refine ⟨fun q' x hq hx hne => ?_, by cases o <;> simp [len_reTip], fun hg => ?_⟩
      · have hpq : p ≠ q' := fun e => hne (by rw [e]; rfl)
        rw [List.getElem?_append_left (by cases o <;> simp [len_reTip] <;> exact (List.getElem?_eq_some_iff.1 hq).1), List.getElem?_set_ne hpq]
        cases o
        · exact hq
        · exact reTip_keeps hq (hx p rfl)
      · cases o
        · exact good_set_old (y := ⟨.tip true, .ints .i64 (flat3 L ++ [s.1, s.2.1, s.2.2])⟩) hg hpl
        · exact good_reTip (y := ⟨.tip true, .ints .i64 (flat3 L ++ [s.1, s.2.1, s.2.2])⟩) hg hpl
/-- A row copied by append to nil. -/
theorem newW {H : AHeap} {v : AV} {L : List Sp} {n : Nat} (t : RW H v L n) : newCells H (.ints .i64 [0, 0, 0]) v = some (.ints .i64 (flat3 L)) := by
  have hf := flat3_len L
  obtain ⟨rfl, rfl⟩ | ⟨p, o, hp, e, rfl⟩ := t
  · rfl
  · simp [newCells, sliceCells, cellsAt, e, ACells.len, ACells.sub, hf]
    rw [← hf, List.take_length]
/-- All but the first. -/
theorem newW1 {H : AHeap} {p k : Nat} {o : Bool} {L : List Sp} (e : H[p]? = some ⟨.tip o, .ints .i64 (flat3 L)⟩) (hk : L.length = k + 1) : newCells H (.ints .i64 [0, 0, 0]) (.gsl p 3 k 3 false) = some (.ints .i64 (flat3 (L.drop 1))) := by
  have hf := flat3_len L
  have hd := flat3_drop1 L
  have hl : (flat3 (L.drop 1)).length = k * 3 := by rw [flat3_len, List.length_drop, hk]; simp
  have hc : cellsAt H p = some (.ints .i64 (flat3 L)) := by simp [cellsAt, e]
  have hs : sliceCells H 3 (.gsl p 3 k 3 false) = some (.ints .i64 (flat3 (L.drop 1))) := by
    simp only [sliceCells, if_true, hc, Option.bind_some, ACells.len, hf, hk, ACells.sub]
    rw [if_pos (by omega), hd, ← hl, List.take_length]
  exact hs
theorem newS {H : AHeap} {q : Nat} {s : Sp} (e : H[q]? = some ⟨.tip false, .ints .i64 [s.1, s.2.1, s.2.2]⟩) : newCells H (.ints .i64 [0, 0, 0]) (.sl q 0 1 1) = some (.ints .i64 [s.1, s.2.1, s.2.2]) := by
  simp [newCells, sliceCells, cellsAt, e, ACells.len, ACells.sub]
-- ------------------------------------------------------------------ the filter
structure RefAt (h : AHeap) (p : Nat) (F : FS) (q : Nat) (v : AV) (n : Nat) : Prop where
  blk : h[p]? = some ⟨.tip false, .vals [.ptr q 0, v, .int .i64 F.used, .bool F.held]⟩
  row : RW h v F.L.reverse n
  le : F.L.length ≤ 8
  rul : RulR h q F.t F.f
theorem RulR.kept {h h' : AHeap} {p : Nat} {t f : Int} (r : RulR h p t f) (k : Keeps h h' none) : RulR h' p t f := by
  obtain ⟨h1, h2, h3⟩ := r
  exact ⟨keepsN k _ _ h1, by have := k.2.1; omega, h3⟩
theorem RefAt.kept {h h' : AHeap} {p q : Nat} {F : FS} {v : AV} {n : Nat} (a : RefAt h p F q v n) (k : Keeps h h' none) : RefAt h' p F q v n :=
  ⟨keepsN k _ _ a.blk, a.row.kept k, a.le, a.rul.kept k⟩
theorem RefAt.app {h : AHeap} {p q : Nat} {F : FS} {v : AV} {n : Nat} (a : RefAt h p F q v n) (js : AHeap) : RefAt (h ++ js) p F q v n :=
  ⟨by rw [List.getElem?_append_left (List.getElem?_eq_some_iff.1 a.blk).1]; exact a.blk, a.row.app js, a.le, a.rul.app js⟩
theorem RefNew_ok {t f : Int} (h1 : 1 ≤ t) (h2 : t ≤ 1000000000) (h3 : 0 ≤ f) (h4 : f ≤ 500000) (h : AHeap) :
    W CP 44 [.int .i64 t, .int .i64 f] h = some (.tup [.ptr (h.length + 1) 0, .int .i64 0], h ++ [⟨.tip false, .ints .i64 [t, f]⟩, ⟨.tip false, .vals [.ptr h.length 0, .nils, .int .i64 (-1), .bool false]⟩], []) := by
  have eN := fun g => ref_New h1 h2 h3 h4 g
  have hb : ∀ h : AHeap, xbody (W CP) M44 [.int .i64 t, .int .i64 f] h = some (.tup [.ptr (h.length + 1) 0, .int .i64 0], h ++ [⟨.tip false, .ints .i64 [t, f]⟩, ⟨.tip false, .vals [.ptr h.length 0, .nils, .int .i64 (-1), .bool false]⟩], []) := by
    intro h
    simp (maxDischargeDepth := 9) -implicitDefEqProofs only [push_cast, simprocAttr, M44, eN]
    try rfl
  rw [W_made (m := M44) rfl rfl rfl (hb _) (by simp [AV.lt, AV.lts]) (hb h)]
  have : M44.trim = true := rfl
  rw [this, if_pos rfl, trim_addr (by simp [AV.lt, AV.lts])]
theorem RefNew_bad {t f : Int} (hb : t < 1 ∨ 1000000000 < t ∨ f < 0 ∨ 500000 < f) (h : AHeap) : W CP 44 [.int .i64 t, .int .i64 f] h = some (.tup [.nilp, .int .i64 1], h, []) := by
  have eN := fun g => ref_New_bad hb g
  refine W_val (m := M44) (fun _ => rfl) rfl rfl rfl ?_ h
  simp (maxDischargeDepth := 9) -implicitDefEqProofs only [push_cast, simprocAttr, M44, eN]
theorem refApart_c (s t : Sp) (h : AHeap) : W CP 87 [spV s, spV t] h = some (.int .i64 (apS s t), h, []) := by
  have h1 := mS_in s
  have h2 := mS_in t
  have e1 := fun g => ref_Mid (a := s.1) (l := s.2.1) (u := s.2.2) g
  have e2 := fun g => ref_Mid (a := t.1) (l := t.2.1) (u := t.2.2) g
  unfold apS
  unfold mS at h1 h2 ⊢
  obtain ⟨m1, hm1⟩ : ∃ w, midS s.1 s.2.1 s.2.2 = w := ⟨_, rfl⟩
  obtain ⟨m2, hm2⟩ : ∃ w, midS t.1 t.2.1 t.2.2 = w := ⟨_, rfl⟩
  rw [hm1] at e1 h1 ⊢
  rw [hm2] at e2 h2 ⊢
  have w1 : IntKind.i64.wrap (m1 - m2) = m1 - m2 := wr_i64 _ (by omega) (by omega)
  obtain ⟨x, y, z⟩ := s
  obtain ⟨x', y', z'⟩ := t
  simp only at e1 e2
  refine W_val (m := M87) (fun _ => rfl) rfl rfl rfl ?_ h
  obtain ⟨d, hd⟩ : ∃ d, m1 - m2 = d := ⟨_, rfl⟩
  have w1' : IntKind.i64.wrap (m1 - m2) = d := by rw [w1, hd]
  rw [hd]
  by_cases c : d < 0
  · have w2 : IntKind.i64.wrap (0 - d) = (d.natAbs : Int) := by rw [wr_i64 _ (by omega) (by omega)]; omega
    obtain ⟨q, hq⟩ : ∃ q, ((d.natAbs : Nat) : Int) = q := ⟨_, rfl⟩
    rw [hq] at w2 ⊢
    simp (maxDischargeDepth := 9) -implicitDefEqProofs only [push_cast, simprocAttr, M87, nadd1, nadd2, nadd3, nadd4, nadd5, nadd6, nadd7, nadd8, nadd9, nadd10, nadd11, nadd12, e1, e2, w1', w2, c, decide_false, Bool.not_false, Bool.and_true]
  · have hq : ((d.natAbs : Nat) : Int) = d := by omega
    rw [hq]
    simp (maxDischargeDepth := 9) -implicitDefEqProofs only [push_cast, simprocAttr, M87, nadd1, nadd2, nadd3, nadd4, nadd5, nadd6, nadd7, nadd8, nadd9, nadd10, nadd11, nadd12, e1, e2, w1', c, decide_false, Bool.not_false, Bool.and_true]
-- ------------------------------------------------------------------ the best one
def rb (A : List Sp) : Nat → Int × Sp
  | 0 => (-1, (0, 0, 0))
  | i + 1 => match A[i]? with
    | some s => if (rb A i).1 < 0 ∨ s.2.2 - s.2.1 ≤ (rb A i).2.2.2 - (rb A i).2.2.1 then ((i : Int), s) else rb A i
    | none => rb A i
/-- What it has found. -/
theorem rb_at {A : List Sp} : ∀ {i : Nat}, 0 < i → i ≤ A.length → ∃ k s, k < i ∧ A[k]? = some s ∧ rb A i = ((k : Int), s) ∧ (∀ j t, j < i → A[j]? = some t → s.2.2 - s.2.1 ≤ t.2.2 - t.2.1) ∧ (∀ j t, k < j → j < i → A[j]? = some t → s.2.2 - s.2.1 < t.2.2 - t.2.1)
  | 0, h, _ => by omega
  | i + 1, _, hi => by
    obtain ⟨s, hs⟩ : ∃ s, A[i]? = some s := ⟨_, List.getElem?_eq_getElem (by omega)⟩
    have e : rb A (i + 1) = if (rb A i).1 < 0 ∨ s.2.2 - s.2.1 ≤ (rb A i).2.2.2 - (rb A i).2.2.1 then ((i : Int), s) else rb A i := by simp only [rb, hs]
    rw [e]
    by_cases h0 : 0 < i
    · obtain ⟨k, u, hk, hu, hr, h1, h2⟩ := rb_at (A := A) h0 (by omega)
      rw [hr]
      simp only
      by_cases c : s.2.2 - s.2.1 ≤ u.2.2 - u.2.1
      · rw [if_pos (Or.inr c)]
        refine ⟨i, s, by omega, hs, rfl, fun j t hj ht => ?_, fun j t hj hj2 ht => by omega⟩
        by_cases hji : j = i
        · subst hji; rw [hs] at ht; cases ht; exact Int.le_refl _
        · have := h1 j t (by omega) ht; omega
      · rw [if_neg (by omega)]
        refine ⟨k, u, by omega, hu, rfl, fun j t hj ht => ?_, fun j t hj hj2 ht => ?_⟩
        · by_cases hji : j = i
          · subst hji; rw [hs] at ht; cases ht; omega
          · exact h1 j t (by omega) ht
        · by_cases hji : j = i
          · subst hji; rw [hs] at ht; cases ht; omega
          · exact h2 j t hj (by omega) ht
    · obtain rfl : i = 0 := by omega
      rw [if_pos (Or.inl (by simp [rb]))]
      refine ⟨0, s, by omega, hs, rfl, fun j t hj ht => ?_, fun j t hj hj2 ht => by omega⟩
      obtain rfl : j = 0 := by omega
      rw [hs] at ht; cases ht; exact Int.le_refl _
theorem bestN_min {A : List Sp} : ∀ {i : Nat}, 0 < i → (∀ j, j < i → wAt A (bestN A i) ≤ wAt A j) ∧ (∀ j, j < bestN A i → wAt A (bestN A i) < wAt A j)
  | 0, h => by omega
  | i + 1, _ => by
    by_cases h0 : 0 < i
    · obtain ⟨h1, h2⟩ := bestN_min (A := A) h0
      simp only [bestN]
      by_cases c : wAt A i < wAt A (bestN A i)
      · rw [if_pos c]
        refine ⟨fun j hj => ?_, fun j hj => ?_⟩
        · by_cases hji : j = i
          · rw [hji]; exact Int.le_refl _
          · have := h1 j (by omega); omega
        · have := h1 j hj; omega
      · rw [if_neg c]
        refine ⟨fun j hj => ?_, h2⟩
        by_cases hji : j = i
        · rw [hji]; omega
        · exact h1 j (by omega)
    · obtain rfl : i = 0 := by omega
      simp only [bestN]
      refine ⟨fun j hj => ?_, fun j hj => ?_⟩
      · obtain rfl : j = 0 := by omega
        simp
      · simp at hj
/-- The last of the narrowest ones in the one row is the first in the other. -/
theorem rb_best {A : List Sp} (hw : ∀ s ∈ A, wS s = s.2.2 - s.2.1) (hA : A ≠ []) : rb A.reverse A.length = (((A.length - 1 - bestN A A.length : Nat) : Int), bestS A) := by
  have h0 : 0 < A.length := List.length_pos_iff.2 hA
  obtain ⟨k, s, hk, hs, hr, h1, h2⟩ := rb_at (A := A.reverse) h0 (by simp)
  obtain ⟨m1, m2⟩ := bestN_min (A := A) h0
  have hb := bestN_lt (L := A) h0 A.length (Nat.le_refl _)
  have hrev : ∀ j, j < A.length → A.reverse[A.length - 1 - j]? = A[j]? := fun j hj => by
    rw [List.getElem?_reverse (by omega)]
    congr 1
    omega
  have hrev2 : A[A.length - 1 - k]? = some s := by rw [← hrev _ (by omega), show A.length - 1 - (A.length - 1 - k) = k by omega]; exact hs
  have hwj : ∀ j t, A[j]? = some t → wAt A j = t.2.2 - t.2.1 := fun j t ht => by
    unfold wAt
    rw [ht]
    exact hw t (List.mem_of_getElem? ht)
  have hat := bestS_at hA
  have hkey : bestN A A.length = A.length - 1 - k := by
    have a1 := hwj _ _ hat
    have a2 := hwj _ _ hrev2
    rcases Nat.lt_trichotomy (bestN A A.length) (A.length - 1 - k) with c | c | c
    · exfalso
      have := h2 (A.length - 1 - bestN A A.length) (bestS A) (by omega) (by omega) (by rw [hrev _ hb]; exact hat)
      have := m1 (A.length - 1 - k) (by omega)
      omega
    · exact c
    · exfalso
      have := m2 (A.length - 1 - k) c
      have := h1 (A.length - 1 - bestN A A.length) (bestS A) (by omega) (by rw [hrev _ hb]; exact hat)
      omega
  rw [hr]
  refine Prod.ext ?_ ?_
  · show (k : Int) = _
    omega
  · show s = bestS A
    rw [← hkey, hat] at hrev2
    cases hrev2
    rfl
end Go.Proofs.YthcjmmngenogmaaW.AI.E
namespace Go.Proofs.YthcjmmngenogmaaW.AI.E
open Go Go.Proofs.YthcjmmngenogmaaW.AI
set_option maxRecDepth 100000
set_option linter.unusedSimpArgs false
set_option linter.unusedVariables false
set_option linter.unusedSectionVars false
theorem bro_mono {a b : Int} (h : a ≤ b) : bro a ≤ bro b := by
  unfold bro clamp
  repeat' split
  all_goals omega
/-- An aged span may be. -/
theorem age_ok {t f raw : Int} {s : Sp} (t1 : 1 ≤ t) (t2 : t ≤ 1000000000) (f1 : 0 ≤ f) (f2 : f ≤ 500000) (hc : canA raw s) : mayS (age1 t f raw s).1 (age1 t f raw s).2.1 (age1 t f raw s).2.2 = true ∧ (age1 t f raw s).2.1 ≤ (age1 t f raw s).2.2 := by
  obtain ⟨h1, h2, h3⟩ := hc
  have hm := mayS_iff.1 h1
  have hdu : downV t f (raw - s.1) ≤ upV t f (raw - s.1) := by
    obtain ⟨v, ev, v1, v2, _⟩ := downV_char t1 t2 f1 f2 (x := raw - s.1) (by omega) (by omega)
    by_cases c : raw - s.1 ≤ 4000000000000000000
    · obtain ⟨u, eu, u1, u2, u3, u4⟩ := upV_char t1 t2 f1 f2 (x := raw - s.1) (by omega) c
      rw [ev, eu]; omega
    · rw [ev]
      unfold upV
      have hb : bro (raw - s.1) = raw - s.1 := bro_id (by omega) (by omega)
      simp only [hb]
      split
      · have : raw - s.1 ≤ mdv true (raw - s.1 + t + 1) 1000000000 (1000000000 - f) := by
          unfold mdv
          simp only [if_true]
          have : (raw - s.1) * (1000000000 - f) ≤ (raw - s.1 + t + 1) * 1000000000 := by
            have e1 : (raw - s.1) * (1000000000 - f) ≤ (raw - s.1) * 1000000000 := Int.mul_le_mul_of_nonneg_left (by omega) (by omega)
            have e2 : (raw - s.1) * 1000000000 ≤ (raw - s.1 + t + 1) * 1000000000 := Int.mul_le_mul_of_nonneg_right (by omega) (by omega)
            omega
          have h5 := Int.le_ediv_of_mul_le (show (0 : Int) < 1000000000 - f by omega) this
          have h6 : (raw - s.1 + t + 1) * 1000000000 / (1000000000 - f) ≤ -(-((raw - s.1 + t + 1) * 1000000000) / (1000000000 - f)) := by
            have a1 := Int.mul_ediv_self_le (x := (raw - s.1 + t + 1) * 1000000000) (k := 1000000000 - f) (by omega)
            have a2 := Int.mul_ediv_self_le (x := -((raw - s.1 + t + 1) * 1000000000)) (k := 1000000000 - f) (by omega)
            have a3 : (1000000000 - f) * ((raw - s.1 + t + 1) * 1000000000 / (1000000000 - f) + -((raw - s.1 + t + 1) * 1000000000) / (1000000000 - f)) ≤ (1000000000 - f) * 0 := by
              rw [Int.mul_add]; omega
            have := Int.le_of_mul_le_mul_left a3 (by omega)
            omega
          omega
        have h7 := bro_mono this
        rw [hb] at h7
        omega
      · omega
  have e1 := bro_in (s.2.1 + downV t f (raw - s.1))
  have e2 := bro_in (s.2.2 + upV t f (raw - s.1))
  have e3 : bro (s.2.1 + downV t f (raw - s.1)) ≤ bro (s.2.2 + upV t f (raw - s.1)) := bro_mono (by omega)
  unfold age1
  exact ⟨mayS_iff.2 ⟨⟨by omega, h3⟩, e1.1, e3, e2.2⟩, e3⟩
theorem age_wS {t f raw : Int} {s : Sp} (t1 : 1 ≤ t) (t2 : t ≤ 1000000000) (f1 : 0 ≤ f) (f2 : f ≤ 500000) (hc : canA raw s) : wS (age1 t f raw s) = (age1 t f raw s).2.2 - (age1 t f raw s).2.1 := by
  unfold wS widS
  rw [if_pos (age_ok t1 t2 f1 f2 hc).1]
/-- What the document's Best tells of the place. -/
def atR (F : FS) (raw : Int) : Int := ((F.L.length - 1 - bestN (ageL F raw) F.L.length : Nat) : Int)
open Classical in
noncomputable def atO (F : FS) (raw : Int) : Int := if canL F raw then atR F raw else -1
section
variable {h : AHeap} {p q : Nat} {F : FS} {v : AV} {n : Nat}
theorem refRev (F : FS) (raw : Int) : (F.L.reverse).map (age1 F.t F.f raw) = (ageL F raw).reverse := by rw [List.map_reverse]
theorem rb_in {A : List Sp} (hA : ∀ s ∈ A, (0 ≤ s.2.1 ∧ s.2.1 ≤ 4611686018427387904) ∧ (0 ≤ s.2.2 ∧ s.2.2 ≤ 4611686018427387904)) : ∀ i : Nat, (0 ≤ (rb A i).2.2.1 ∧ (rb A i).2.2.1 ≤ 4611686018427387904) ∧ (0 ≤ (rb A i).2.2.2 ∧ (rb A i).2.2.2 ≤ 4611686018427387904)
  | 0 => by simp [rb]
  | i + 1 => by
    have ih := rb_in hA i
    simp only [rb]
    split
    · rename_i s hs
      split
      · exact hA s (List.mem_of_getElem? hs)
      · exact ih
    · exact ih
theorem rb_fst (A : List Sp) : ∀ i : Nat, (rb A i).1 = -1 ∨ ∃ k : Nat, (rb A i).1 = (k : Int) ∧ k < i
  | 0 => Or.inl rfl
  | i + 1 => by
    simp only [rb]
    split
    · split
      · exact Or.inr ⟨i, rfl, by omega⟩
      · rcases rb_fst A i with h | ⟨k, h, hk⟩
        · exact Or.inl h
        · exact Or.inr ⟨k, h, by omega⟩
    · rcases rb_fst A i with h | ⟨k, h, hk⟩
      · exact Or.inl h
      · exact Or.inr ⟨k, h, by omega⟩
set_option maxHeartbeats 8000000 in
theorem refBest_walk (hg : Good h) (a : RefAt h p F q v n) (raw : Int) : Wp (xbody (W CP) M48 [.ptr p 0, .int .i64 raw] h) fun r =>
    ((∀ s ∈ F.L, canA raw s) → r.1 = .tup [spV (rb (ageL F raw).reverse F.L.length).2, .int .i64 (rb (ageL F raw).reverse F.L.length).1]) ∧ (¬ (∀ s ∈ F.L, canA raw s) → r.1 = .tup [spA 0 0 0, .int .i64 (-1)]) ∧ (∃ js, r.2.1 = h ++ js) ∧ r.2.2 = [] := by
  have b := a.blk
  have l := (List.getElem?_eq_some_iff.1 b).1
  have hle := a.le
  have hlr : F.L.reverse.length = F.L.length := List.length_reverse
  obtain ⟨m, hm⟩ : ∃ m, F.L.length = m := ⟨_, rfl⟩
  rw [hm] at hle hlr ⊢
  have rin : ∀ x : Sp, (0 ≤ (age1 F.t F.f raw x).2.1 ∧ (age1 F.t F.f raw x).2.1 ≤ 4611686018427387904) ∧ (0 ≤ (age1 F.t F.f raw x).2.2 ∧ (age1 F.t F.f raw x).2.2 ≤ 4611686018427387904) := fun x => ⟨bro_in _, bro_in _⟩
  have hrb := rb_in (A := (ageL F raw).reverse) fun s hs => by
    rw [List.mem_reverse] at hs
    obtain ⟨x, _, rfl⟩ := List.mem_map.1 hs
    exact rin x
  obtain ⟨Y, hY⟩ : ∃ Y, h ++ [ABlk.new (.ints .i64 [0, 0, 0]), ABlk.new (.ints .i64 [0, 0, 0])] = Y := ⟨_, rfl⟩
  have kY : Keeps h Y none := by rw [← hY]; exact Keeps.app h [⟨.tip false, .ints .i64 [0, 0, 0]⟩, ⟨.tip false, .ints .i64 [0, 0, 0]⟩] none rfl
  have bY : Y[h.length]? = some ⟨.tip false, .ints .i64 [0, 0, 0]⟩ := by rw [← hY]; exact fend _ _ _
  have cY : Y[h.length + 1]? = some ⟨.tip false, .ints .i64 [0, 0, 0]⟩ := by rw [← hY]; exact fend1 _ _ _ _
  simp (maxDischargeDepth := 9) -implicitDefEqProofs only [push_cast, simprocAttr, M48, nadd1, nadd2, nadd3, nadd4, nadd5, nadd6, nadd7, nadd8, nadd9, nadd10, nadd11, nadd12, hY]
  refine wp_kRes (wp_kSeq (wp_kBlock ?_))
  refine wp_loop (fun k x h' ws => ∃ (i : Nat) (at_ : Int) (o1 o2 o3 : Int), k = m - i ∧ i ≤ m ∧ x = [(0, .ptr p 0), (1, .int .i64 raw), (4, .ptr h.length 0), (6, .int .i64 at_), (7, .ptr (h.length + 1) 0), (8, .int .i64 (i : Int))] ∧
    rb (ageL F raw).reverse i = (at_, (o1, o2, o3)) ∧ h'[h.length]? = some ⟨.tip false, .ints .i64 [0, 0, 0]⟩ ∧ h'[h.length + 1]? = some ⟨.tip false, .ints .i64 [o1, o2, o3]⟩ ∧ Keeps h h' none ∧ (∀ s ∈ F.L.reverse.take i, canA raw s) ∧ ws = []) m ?_ ?_
  · refine ⟨0, -1, 0, 0, 0, by omega, by omega, ?_, rfl, bY, cY, kY, by simp, rfl⟩
    simp (maxDischargeDepth := 9) -implicitDefEqProofs only [push_cast, simprocAttr]; try rfl
  · rintro k xx h' ws ⟨i, at_, o1, o2, o3, rfl, hi, rfl, hri, b4, b7, kh, hcan, rfl⟩
    have hgh := kh.2.2 hg
    have v1 : IntKind.i64.wrap ((i : Int) + 1) = (i : Int) + 1 := wr_i64 _ (by omega) (by omega)
    have d1 := keepsN kh _ _ b
    have d1l := (List.getElem?_eq_some_iff.1 d1).1
    have l4 := (List.getElem?_eq_some_iff.1 b4).1
    have l7 := (List.getElem?_eq_some_iff.1 b7).1
    have rw' := (a.kept kh).row
    have lv := rw'.len
    rw [hlr] at lv
    have nv := rw'.na
    by_cases hlt : i < m
    · have hlt' : (i : Int) < (m : Int) := by omega
      obtain ⟨s, hs⟩ : ∃ s, F.L.reverse[i]? = some s := ⟨_, List.getElem?_eq_getElem (by omega)⟩
      have hsm : s ∈ F.L := List.mem_reverse.1 (List.mem_of_getElem? hs)
      obtain ⟨bb, x1, x2, x3, x4, oo, cc, x5⟩ := rw'.at hs
      have hAi : (ageL F raw).reverse[i]? = some (age1 F.t F.f raw s) := by rw [← refRev, List.getElem?_map, hs]; rfl
      have hnext : rb (ageL F raw).reverse (i + 1) = if at_ < 0 ∨ (age1 F.t F.f raw s).2.2 - (age1 F.t F.f raw s).2.1 ≤ o3 - o2 then ((i : Int), age1 F.t F.f raw s) else (at_, (o1, o2, o3)) := by simp only [rb, hAi, hri]
      have hin := hrb i
      rw [hri] at hin
      simp only at hin
      have hri2 := rin s
      have eA := ref_Age (a := s.1) (l := s.2.1) (u := s.2.2) (raw := raw) hgh ((a.kept kh).rul)
      obtain ⟨x, y, z⟩ := s
      simp only at eA
      obtain ⟨Y1, hY1⟩ : ∃ Y, h' ++ [ABlk.new (.ints .i64 [0, 0, 0])] = Y := ⟨_, rfl⟩
      have kY1 : Keeps h' Y1 none := by rw [← hY1]; exact Keeps.app h' [⟨.tip false, .ints .i64 [0, 0, 0]⟩] none rfl
      have bY1 : Y1[h'.length]? = some ⟨.tip false, .ints .i64 [0, 0, 0]⟩ := by rw [← hY1]; exact fend _ _ _
      have lY1 := (List.getElem?_eq_some_iff.1 bY1).1
      have hlo : ¬ h'.length < h.length := by have := kh.2.1; omega
      have hlo2 : ¬ h'.length ≤ bb := by omega
      have hlo3 : ¬ h'.length ≤ p := by omega
      by_cases hc : canA raw (x, y, z)
      · have hc' : mayS x y z = true ∧ x ≤ raw ∧ raw ≤ 4611686018427387904 := hc
        rw [if_pos hc'] at eA
        have hage : age1 F.t F.f raw (x, y, z) = (raw, bro (y + downV F.t F.f (raw - x)), bro (z + upV F.t F.f (raw - x))) := rfl
        obtain ⟨A1, hA1⟩ : ∃ w, bro (y + downV F.t F.f (raw - x)) = w := ⟨_, rfl⟩
        obtain ⟨A2, hA2⟩ : ∃ w, bro (z + upV F.t F.f (raw - x)) = w := ⟨_, rfl⟩
        rw [hA1, hA2] at eA hage
        rw [hage] at hnext hri2
        simp only at hnext hri2
        obtain ⟨H1, hH1⟩ : ∃ H, Y1.set h'.length ⟨.tip false, .ints .i64 [raw, A1, A2]⟩ = H := ⟨_, rfl⟩
        have kH1 : Keeps h' H1 none := by rw [← hH1]; exact keepsS kY1 (Nat.le_refl _) rfl
        have bH1 : H1[h'.length]? = some ⟨.tip false, .ints .i64 [raw, A1, A2]⟩ := by rw [← hH1]; exact List.getElem?_set_self lY1
        have lH1 := (List.getElem?_eq_some_iff.1 bH1).1
        have c4 := keepsN kH1 _ _ b4
        have c7 := keepsN kH1 _ _ b7
        have c4l := (List.getElem?_eq_some_iff.1 c4).1
        have c7l := (List.getElem?_eq_some_iff.1 c7).1
        have hne : h.length + 1 ≠ h.length := by omega
        have hne' : h.length ≠ h.length + 1 := by omega
        have w1 : IntKind.i64.wrap (A2 - A1) = A2 - A1 := wr_i64 _ (by omega) (by omega)
        have w2 : IntKind.i64.wrap (o3 - o2) = o3 - o2 := wr_i64 _ (by omega) (by omega)
        obtain ⟨D1, hD1⟩ : ∃ D, A2 - A1 = D := ⟨_, rfl⟩
        obtain ⟨D2, hD2⟩ : ∃ D, o3 - o2 = D := ⟨_, rfl⟩
        have w1' : IntKind.i64.wrap (A2 - A1) = D1 := by rw [w1, hD1]
        have w2' : IntKind.i64.wrap (o3 - o2) = D2 := by rw [w2, hD2]
        rw [hD1, hD2] at hnext
        have hcan' : ∀ s ∈ F.L.reverse.take (i + 1), canA raw s := by
          intro s hs'
          rw [List.take_add_one, hs] at hs'
          rcases List.mem_append.1 hs' with h | h
          · exact hcan s h
          · simp at h
            subst h
            exact hc
        have hb1 : ¬ h.length + 1 < h.length := by omega
        obtain ⟨H2, hH2⟩ : ∃ H, H1.set (h.length + 1) ⟨.tip false, .ints .i64 [raw, A1, A2]⟩ = H := ⟨_, rfl⟩
        have kH2 : Keeps h H2 none := by rw [← hH2]; exact keepsS (keepsT kh kH1) (by omega) rfl
        have e4 : H2[h.length]? = some ⟨.tip false, .ints .i64 [0, 0, 0]⟩ := by rw [← hH2, List.getElem?_set_ne hne]; exact c4
        have e7 : H2[h.length + 1]? = some ⟨.tip false, .ints .i64 [raw, A1, A2]⟩ := by rw [← hH2]; exact List.getElem?_set_self c7l
        by_cases t1 : at_ < 0
        · rw [if_pos (Or.inl t1)] at hnext
          simp (maxDischargeDepth := 9) -implicitDefEqProofs only [push_cast, simprocAttr, nadd1, nadd2, nadd3, nadd4, nadd5, nadd6, nadd7, nadd8, nadd9, nadd10, nadd11, nadd12, hlt', v1, d1, d1l, nv, lv, ↓uia_eq, x1, ↓uld_eq 30, x2, eA, hY1, bY1, lY1, hH1, bH1, lH1, c7, c7l, t1, hlo, hlo2, hlo3, hb1, hH2, decide_false, Bool.not_false, Bool.and_true]
          refine loop_next (m - (i + 1)) (by omega) ⟨i + 1, i, raw, A1, A2, rfl, by omega, ?_, hnext, e4, e7, kH2, hcan', rfl⟩
          simp (maxDischargeDepth := 9) -implicitDefEqProofs only [push_cast, simprocAttr]; try simp
        · by_cases t2 : D1 ≤ D2
          · rw [if_pos (Or.inr t2)] at hnext
            simp (maxDischargeDepth := 9) -implicitDefEqProofs only [push_cast, simprocAttr, nadd1, nadd2, nadd3, nadd4, nadd5, nadd6, nadd7, nadd8, nadd9, nadd10, nadd11, nadd12, hlt', v1, d1, d1l, nv, lv, ↓uia_eq, x1, ↓uld_eq 30, x2, eA, hY1, bY1, lY1, hH1, bH1, lH1, c7, c7l, t1, w1', w2', t2, hlo, hlo2, hlo3, hb1, hH2, decide_false, Bool.not_false, Bool.and_true]
            refine loop_next (m - (i + 1)) (by omega) ⟨i + 1, i, raw, A1, A2, rfl, by omega, ?_, hnext, e4, e7, kH2, hcan', rfl⟩
            simp (maxDischargeDepth := 9) -implicitDefEqProofs only [push_cast, simprocAttr]; try simp
          · rw [if_neg (fun e => e.elim t1 t2)] at hnext
            simp (maxDischargeDepth := 9) -implicitDefEqProofs only [push_cast, simprocAttr, nadd1, nadd2, nadd3, nadd4, nadd5, nadd6, nadd7, nadd8, nadd9, nadd10, nadd11, nadd12, hlt', v1, d1, d1l, nv, lv, ↓uia_eq, x1, ↓uld_eq 30, x2, eA, hY1, bY1, lY1, hH1, bH1, lH1, c7, c7l, t1, w1', w2', t2, hlo, hlo2, hlo3, hb1, decide_false, Bool.not_false, Bool.and_true]
            refine loop_next (m - (i + 1)) (by omega) ⟨i + 1, at_, o1, o2, o3, rfl, by omega, ?_, hnext, c4, c7, keepsT kh kH1, hcan', rfl⟩
            simp (maxDischargeDepth := 9) -implicitDefEqProofs only [push_cast, simprocAttr]; try simp
      · have hc' : ¬ (mayS x y z = true ∧ x ≤ raw ∧ raw ≤ 4611686018427387904) := hc
        rw [if_neg hc'] at eA
        obtain ⟨H1, hH1⟩ : ∃ H, Y1.set h'.length ⟨.tip false, .ints .i64 [0, 0, 0]⟩ = H := ⟨_, rfl⟩
        have kH1 : Keeps h' H1 none := by rw [← hH1]; exact keepsS kY1 (Nat.le_refl _) rfl
        have c4 := keepsN kH1 _ _ b4
        have c4l := (List.getElem?_eq_some_iff.1 c4).1
        have hno : ¬ ∀ s ∈ F.L, canA raw s := fun e => hc (e _ hsm)
        obtain ⟨H2, hH2⟩ : ∃ H, H1.set h.length ⟨.tip false, .ints .i64 [0, 0, 0]⟩ = H := ⟨_, rfl⟩
        have kH2 : Keeps h H2 none := by rw [← hH2]; exact keepsS (keepsT kh kH1) (Nat.le_refl _) rfl
        have e4 : H2[h.length]? = some ⟨.tip false, .ints .i64 [0, 0, 0]⟩ := by rw [← hH2]; exact List.getElem?_set_self c4l
        obtain ⟨js, hj⟩ := kH2.behind
        have e4l := (List.getElem?_eq_some_iff.1 e4).1
        simp (maxDischargeDepth := 9) -implicitDefEqProofs only [push_cast, simprocAttr, nadd1, nadd2, nadd3, nadd4, nadd5, nadd6, nadd7, nadd8, nadd9, nadd10, nadd11, nadd12, hlt', v1, d1, d1l, nv, lv, ↓uia_eq, x1, ↓uld_eq 30, x2, eA, hY1, bY1, lY1, hH1, c4, c4l, hlo, hlo2, hlo3, hH2, e4, e4l, decide_false, Bool.not_false, Bool.and_true]
        exact ⟨fun e => absurd e hno, fun _ => trivial, ⟨js, hj⟩⟩
    · have hi2 : i = m := by omega
      subst hi2
      have hnl : ¬ (i : Int) < (i : Int) := by omega
      have hyes : ∀ s ∈ F.L, canA raw s := fun s hs => hcan s (by rw [List.take_of_length_le (by omega)]; exact List.mem_reverse.2 hs)
      obtain ⟨H2, hH2⟩ : ∃ H, h'.set h.length ⟨.tip false, .ints .i64 [o1, o2, o3]⟩ = H := ⟨_, rfl⟩
      have kH2 : Keeps h H2 none := by rw [← hH2]; exact keepsS kh (Nat.le_refl _) rfl
      have e4 : H2[h.length]? = some ⟨.tip false, .ints .i64 [o1, o2, o3]⟩ := by rw [← hH2]; exact List.getElem?_set_self l4
      have e4l := (List.getElem?_eq_some_iff.1 e4).1
      obtain ⟨js, hj⟩ := kH2.behind
      rw [hri]
      simp (maxDischargeDepth := 9) -implicitDefEqProofs only [push_cast, simprocAttr, nadd1, nadd2, nadd3, nadd4, nadd5, nadd6, nadd7, nadd8, nadd9, nadd10, nadd11, nadd12, hnl, d1, d1l, nv, lv, b4, l4, b7, l7, hH2, e4, e4l]
      exact ⟨fun _ => trivial, fun e => absurd hyes e, ⟨js, hj⟩⟩
theorem ageL_wS (t1 : 1 ≤ F.t) (t2 : F.t ≤ 1000000000) (f1 : 0 ≤ F.f) (f2 : F.f ≤ 500000) {raw : Int} (hc : ∀ s ∈ F.L, canA raw s) : ∀ s ∈ ageL F raw, wS s = s.2.2 - s.2.1 := by
  intro s hs
  obtain ⟨x, hx, rfl⟩ := List.mem_map.1 hs
  exact age_wS t1 t2 f1 f2 (hc x hx)
theorem refBest_c {raw : Int} (hg : Good h) (a : RefAt h p F q v n) : W CP 48 [.ptr p 0, .int .i64 raw] h = some (.tup [spV (bestO F raw).1, .int .i64 (atO F raw)], h, []) := by
  refine W_quietP (m := M48) rfl rfl (by simp [AV.lts, AV.lt]) rfl rfl hg ?_
  refine (refBest_walk hg a raw).mono ?_
  rintro ⟨x, h', ws⟩ ⟨k1, k2, k3, k4⟩
  refine ⟨?_, k3, k4⟩
  simp only at k1 k2 ⊢
  obtain ⟨_, _, r3, r4, r5, r6⟩ := a.rul
  unfold bestO atO
  by_cases c : ∀ s ∈ F.L, canA raw s
  · rw [k1 c]
    by_cases c0 : F.L = []
    · have hn : ¬ canL F raw := fun e => e.1 c0
      have hl : F.L.length = 0 := by rw [c0]; rfl
      rw [if_neg hn, if_neg hn, hl]
      rfl
    · have hy : canL F raw := ⟨c0, c⟩
      rw [if_pos hy, if_pos hy]
      have hne : ageL F raw ≠ [] := fun e => c0 (List.map_eq_nil_iff.1 e)
      have e := rb_best (A := ageL F raw) (ageL_wS r3 r4 r5 r6 c) hne
      rw [ageL_len] at e
      rw [e]
      rfl
  · have hn : ¬ canL F raw := fun e => c e.2
    rw [k2 c, if_neg hn, if_neg hn]
end
end Go.Proofs.YthcjmmngenogmaaW.AI.E
namespace Go.Proofs.YthcjmmngenogmaaW.AI.E
open Go Go.Proofs.YthcjmmngenogmaaW.AI
set_option maxRecDepth 100000
set_option linter.unusedSimpArgs false
set_option linter.unusedVariables false
set_option linter.unusedSectionVars false
theorem sum_rev : ∀ l : List Int, l.reverse.sum = l.sum
  | [] => rfl
  | x :: l => by
    rw [List.reverse_cons, List.sum_append, sum_rev l]
    simp only [List.sum_cons, List.sum_nil]
    omega
section
variable {h : AHeap} {p q : Nat} {F : FS} {v : AV} {n : Nat}
theorem refJit_no {raw : Int} (hg : Good h) (a : RefAt h p F q v n) (hc : ¬ canL F raw ∨ F.L.length < 2) : W CP 49 [.ptr p 0, .int .i64 raw] h = some (.int .i64 0, h, []) := by
  have eB := refBest_c (raw := raw) hg a
  have b := a.blk
  have l := (List.getElem?_eq_some_iff.1 b).1
  have lv := a.row.len
  have nv := a.row.na
  rw [List.length_reverse] at lv
  obtain ⟨B, hB⟩ : ∃ B, (bestO F raw).1 = B := ⟨_, rfl⟩
  rw [hB] at eB
  obtain ⟨bx, by', bz⟩ := B
  refine W_quietP (m := M49) rfl rfl (by simp [AV.lts, AV.lt]) rfl rfl hg ?_
  by_cases c : canL F raw
  · have h2 : F.L.length < 2 := by rcases hc with h | h; exact absurd c h; exact h
    have hat : atO F raw = atR F raw := if_pos c
    have hn0 : ¬ atR F raw < 0 := by unfold atR; omega
    rw [hat] at eB
    have h2' : (F.L.length : Int) < 2 := by omega
    obtain ⟨Y, hY⟩ : ∃ Y, h ++ [(⟨.tip false, .ints .i64 [bx, by', bz]⟩ : ABlk)] = Y := ⟨_, rfl⟩
    have kY : Keeps h Y none := by rw [← hY]; exact Keeps.app h [⟨.tip false, .ints .i64 [bx, by', bz]⟩] none rfl
    have bY := keepsN kY _ _ b
    have lY := (List.getElem?_eq_some_iff.1 bY).1
    simp (maxDischargeDepth := 9) -implicitDefEqProofs only [push_cast, simprocAttr, M49, ABlk.new, eB, hn0, hY, bY, lY, nv, lv, h2']
    exact ⟨rfl, ⟨_, hY.symm⟩, rfl⟩
  · have hat : atO F raw = -1 := if_neg c
    rw [hat] at eB
    simp (maxDischargeDepth := 9) -implicitDefEqProofs only [push_cast, simprocAttr, M49, eB]
    exact quiet_i
set_option maxHeartbeats 16000000 in
theorem refJit_ok {raw : Int} (hg : Good h) (a : RefAt h p F q v n) (hc : canL F raw) (h2 : 2 ≤ F.L.length) : W CP 49 [.ptr p 0, .int .i64 raw] h = some (.int .i64 (jitS (ageL F raw)), h, []) := by
  have eB := refBest_c (raw := raw) hg a
  have b := a.blk
  have l := (List.getElem?_eq_some_iff.1 b).1
  have hle := a.le
  have hlr : F.L.reverse.length = F.L.length := List.length_reverse
  have hat : atO F raw = atR F raw := if_pos hc
  have hbo : bestO F raw = (bestS (ageL F raw), true) := if_pos hc
  have hn0 : ¬ atR F raw < 0 := by unfold atR; omega
  rw [hat, hbo] at eB
  have hA0 : ageL F raw ≠ [] := ageL_ne hc
  have hds := dist_sum hA0
  have hdp : ∀ d ∈ distL (ageL F raw), 0 ≤ d := fun d hd => by
    obtain ⟨s, _, rfl⟩ := List.mem_map.1 hd
    exact (apS_in _ _).1
  have hdp2 : ∀ d ∈ (distL (ageL F raw)).reverse, 0 ≤ d ∧ d ≤ 4611686018427387904 := fun d hd => by
    obtain ⟨s, _, rfl⟩ := List.mem_map.1 (List.mem_reverse.1 hd)
    exact apS_in _ _
  have hjin := jitS_in (A := ageL F raw) (by rw [ageL_len]; exact h2)
  have hjit : jitS (ageL F raw) = (distL (ageL F raw)).sum / (((ageL F raw).length : Int) - 1) := rfl
  rw [ageL_len] at hjit hds
  obtain ⟨m, hm⟩ : ∃ m, F.L.length = m := ⟨_, rfl⟩
  rw [hm] at hle hlr hjit hds h2
  obtain ⟨n1, hn1⟩ : ∃ n1, m = n1 + 1 := ⟨m - 1, by omega⟩
  have w1 : IntKind.i64.wrap ((m : Int) - 1) = (n1 : Int) := by rw [wr_i64 _ (by omega) (by omega)]; omega
  rw [show (m : Int) - 1 = (n1 : Int) by omega] at hjit hds
  have hm2 : ¬ (m : Int) < 2 := by omega
  have hDR : (ageL F raw).reverse.map (fun s => apS s (bestS (ageL F raw))) = (distL (ageL F raw)).reverse := by unfold distL; rw [List.map_reverse]
  obtain ⟨DR, hDr⟩ : ∃ DR, (distL (ageL F raw)).reverse = DR := ⟨_, rfl⟩
  have hDsum : DR.sum = (distL (ageL F raw)).sum := by rw [← hDr, sum_rev]
  have hDlen : DR.length = m := by rw [← hDr, List.length_reverse]; unfold distL; rw [List.length_map, ageL_len, hm]
  rw [hDr] at hDR hdp2
  obtain ⟨B, hB⟩ : ∃ B, bestS (ageL F raw) = B := ⟨_, rfl⟩
  rw [hB] at eB hDR
  obtain ⟨b1, b2, b3⟩ := B
  refine W_quietP (m := M49) rfl rfl (by simp [AV.lts, AV.lt]) rfl rfl hg ?_
  obtain ⟨Y0, hY0⟩ : ∃ Y, h ++ [(⟨.tip false, .ints .i64 [b1, b2, b3]⟩ : ABlk)] = Y := ⟨_, rfl⟩
  have kY0 : Keeps h Y0 none := by rw [← hY0]; exact Keeps.app h [⟨.tip false, .ints .i64 [b1, b2, b3]⟩] none rfl
  have bY0 := keepsN kY0 _ _ b
  have lY0 := (List.getElem?_eq_some_iff.1 bY0).1
  have cY0 : Y0[h.length]? = some ⟨.tip false, .ints .i64 [b1, b2, b3]⟩ := by rw [← hY0]; exact fend _ _ _
  have hYl : Y0.length = h.length + 1 := by rw [← hY0]; simp
  obtain ⟨Y, hY⟩ : ∃ Y, Y0 ++ [(⟨.tip false, .vals [.bool false, .nils]⟩ : ABlk)] = Y := ⟨_, rfl⟩
  have kY : Keeps h Y none := by rw [← hY]; exact keepsT kY0 (Keeps.app Y0 [⟨.tip false, .vals [.bool false, .nils]⟩] none rfl)
  have bY : Y[h.length]? = some ⟨.tip false, .ints .i64 [b1, b2, b3]⟩ := by rw [← hY, List.getElem?_append_left (by omega)]; exact cY0
  have cY : Y[h.length + 1]? = some ⟨.tip false, .vals [.bool false, .nils]⟩ := by rw [← hY, ← hYl]; exact fend _ _ _
  have lv := a.row.len
  have nv := a.row.na
  rw [hlr] at lv
  simp (maxDischargeDepth := 9) -implicitDefEqProofs only [push_cast, simprocAttr, M49, nadd1, nadd2, nadd3, nadd4, nadd5, nadd6, nadd7, nadd8, nadd9, nadd10, nadd11, nadd12, ABlk.new, eB, hn0, hY0, bY0, lY0, nv, lv, hm2, hYl, hY]
  refine wp_kRes (wp_kSeq (wp_kBlock ?_))
  refine wp_loop (fun k x h' ws => ∃ (i : Nat) (u : AV) (L : List Int), k = m - i ∧ i ≤ m ∧ x = [(0, .ptr p 0), (1, .int .i64 raw), (5, .ptr h.length 0), (7, .ptr (h.length + 1) 0), (8, .int .i64 (i : Int))] ∧
    h'[h.length]? = some ⟨.tip false, .ints .i64 [b1, b2, b3]⟩ ∧ h'[h.length + 1]? = some ⟨.tip false, .vals [.bool false, u]⟩ ∧ UV h' u L ∧ val L = (DR.take i).sum ∧ Can L ∧ L.length ≤ 4 + i ∧ Keeps h h' none ∧ ws = []) m ?_ ?_
  · refine ⟨0, .nils, [], by omega, by omega, ?_, bY, cY, UV.nil _, by simp [val], can_nil, by simp, kY, rfl⟩
    simp (maxDischargeDepth := 9) -implicitDefEqProofs only [push_cast, simprocAttr]; try rfl
  · rintro k xx h' ws ⟨i, u, L, rfl, hi, rfl, c5, c7, uv, vL, cL, lL, kh, rfl⟩
    have hgh := kh.2.2 hg
    have v1 : IntKind.i64.wrap ((i : Int) + 1) = (i : Int) + 1 := wr_i64 _ (by omega) (by omega)
    have d1 := keepsN kh _ _ b
    have d1l := (List.getElem?_eq_some_iff.1 d1).1
    have l5 := (List.getElem?_eq_some_iff.1 c5).1
    have l7 := (List.getElem?_eq_some_iff.1 c7).1
    have rw' := (a.kept kh).row
    have nu := uv.na
    have cu := uv.cell
    have hS0 := (sum_take (D := DR) (fun d hd => (hdp2 d hd).1) i).1
    obtain ⟨S, hS⟩ : ∃ S, (DR.take i).sum = S := ⟨_, rfl⟩
    rw [hS] at vL hS0
    by_cases hlt : i < m
    · have hlt' : (i : Int) < (m : Int) := by omega
      obtain ⟨s, hs⟩ : ∃ s, F.L.reverse[i]? = some s := ⟨_, List.getElem?_eq_getElem (by omega)⟩
      have hsm : s ∈ F.L := List.mem_reverse.1 (List.mem_of_getElem? hs)
      obtain ⟨bb, x1, x2, x3, x4, oo, cc, x5⟩ := rw'.at hs
      have hAi : (ageL F raw).reverse[i]? = some (age1 F.t F.f raw s) := by rw [← refRev, List.getElem?_map, hs]; rfl
      have hDi : DR[i]? = some (apS (age1 F.t F.f raw s) (b1, b2, b3)) := by rw [← hDR, List.getElem?_map, hAi]; rfl
      have hdin := hdp2 _ (List.mem_of_getElem? hDi)
      have eP := fun g => refApart_c (age1 F.t F.f raw s) (b1, b2, b3) g
      obtain ⟨D, hD⟩ : ∃ D, apS (age1 F.t F.f raw s) (b1, b2, b3) = D := ⟨_, rfl⟩
      rw [hD] at hDi hdin eP
      have htk : (DR.take (i + 1)).sum = S + D := by rw [List.take_add_one, hDi, List.sum_append, hS]; simp
      have eA := ref_Age (a := s.1) (l := s.2.1) (u := s.2.2) (raw := raw) hgh ((a.kept kh).rul)
      have hcs := hc.2 s hsm
      obtain ⟨x, y, z⟩ := s
      simp only at eA
      have hc' : mayS x y z = true ∧ x ≤ raw ∧ raw ≤ 4611686018427387904 := hcs
      rw [if_pos hc'] at eA
      have hage : age1 F.t F.f raw (x, y, z) = (raw, bro (y + downV F.t F.f (raw - x)), bro (z + upV F.t F.f (raw - x))) := rfl
      rw [hage] at eP
      obtain ⟨A1, hA1⟩ : ∃ w, bro (y + downV F.t F.f (raw - x)) = w := ⟨_, rfl⟩
      obtain ⟨A2, hA2⟩ : ∃ w, bro (z + upV F.t F.f (raw - x)) = w := ⟨_, rfl⟩
      rw [hA1, hA2] at eA eP
      clear hage hAi
      obtain ⟨Y1, hY1⟩ : ∃ Y, h' ++ [(⟨.tip false, .ints .i64 [0, 0, 0]⟩ : ABlk)] = Y := ⟨_, rfl⟩
      have kY1 : Keeps h' Y1 none := by rw [← hY1]; exact Keeps.app h' [⟨.tip false, .ints .i64 [0, 0, 0]⟩] none rfl
      have bY1 : Y1[h'.length]? = some ⟨.tip false, .ints .i64 [0, 0, 0]⟩ := by rw [← hY1]; exact fend _ _ _
      have lY1 := (List.getElem?_eq_some_iff.1 bY1).1
      have hlo : ¬ h'.length < h.length := by have := kh.2.1; omega
      have hlo2 : ¬ h'.length ≤ bb := by omega
      have hlo3 : ¬ h'.length ≤ p := by omega
      obtain ⟨H1, hH1⟩ : ∃ H, Y1.set h'.length ⟨.tip false, .ints .i64 [raw, A1, A2]⟩ = H := ⟨_, rfl⟩
      have kH1 : Keeps h' H1 none := by rw [← hH1]; exact keepsS kY1 (Nat.le_refl _) rfl
      have bH1 : H1[h'.length]? = some ⟨.tip false, .ints .i64 [raw, A1, A2]⟩ := by rw [← hH1]; exact List.getElem?_set_self lY1
      have lH1 := (List.getElem?_eq_some_iff.1 bH1).1
      have e5 := keepsN kH1 _ _ c5
      have e7 := keepsN kH1 _ _ c7
      have e5l := (List.getElem?_eq_some_iff.1 e5).1
      have e7l := (List.getElem?_eq_some_iff.1 e7).1
      have uvH := uv.keep (keepsN kH1)
      have hgH := kH1.2.2 hgh
      obtain ⟨r1, j1, eO, bb1, hG1, _⟩ := Of_c (z := D) (by omega) (by omega) hgH
      have k1 : Keeps H1 (H1 ++ j1) none := keepsG hG1
      obtain ⟨H2, hH2⟩ : ∃ H, H1 ++ j1 = H := ⟨_, rfl⟩
      rw [hH2] at eO bb1 hG1 k1
      have uv2 := uvH.keep (keepsN k1)
      have hSd : decide (S < 0) = false := decide_eq_false (by omega)
      have hDd : decide (D < 0) = false := decide_eq_false (by omega)
      have hSD : decide (S + D < 0) = false := decide_eq_false (by omega)
      have haS : aN S = S := if_neg (by omega)
      have haD : aN D = D := if_neg (by omega)
      have haSD : aN (S + D) = S + D := if_neg (by omega)
      obtain ⟨r2, j2, ePl, bb2, hG2, _⟩ := Plus_c hG1 (⟨u, L, by rw [hSd], uv2, by rw [haS]; exact vL, cL, lL⟩ : BigS S (4 + i) H2 (.agg [.bool false, u])) (bb1 : BigS D 4 H2 r1) (by omega) (by decide)
      have k2 : Keeps H2 (H2 ++ j2) none := keepsG hG2
      obtain ⟨H3, hH3⟩ : ∃ H, H2 ++ j2 = H := ⟨_, rfl⟩
      rw [hH3] at ePl bb2 hG2 k2
      obtain ⟨y1, L1, rfl, u1, _⟩ := bb1
      obtain ⟨y2, L2, rfl, u2, w2, c2, l2⟩ := bb2
      rw [hDd] at eO ePl
      rw [hSD] at ePl
      rw [haSD] at w2
      have n1' := u1.na
      have i1 := u1.cell
      have n2 := u2.na
      have i2 := u2.cell
      have f5 := keepsN k2 _ _ (keepsN k1 _ _ e5)
      have f7 := keepsN k2 _ _ (keepsN k1 _ _ e7)
      have f7l := (List.getElem?_eq_some_iff.1 f7).1
      have hlo4 : ¬ H1.length ≤ h.length + 1 := by omega
      obtain ⟨H4, hH4⟩ : ∃ H, H3.set (h.length + 1) ⟨.tip false, .vals [.bool false, y2]⟩ = H := ⟨_, rfl⟩
      have g7 : H4[h.length + 1]? = some ⟨.tip false, .vals [.bool false, y2]⟩ := by rw [← hH4]; exact List.getElem?_set_self f7l
      have g5 : H4[h.length]? = some ⟨.tip false, .ints .i64 [b1, b2, b3]⟩ := by rw [← hH4, List.getElem?_set_ne (by omega)]; exact f5
      have u4 : UV H4 y2 L2 := by rw [← hH4]; exact UV.setv f7 u2
      have k4 : Keeps h H4 none := by rw [← hH4]; exact keepsS (keepsT kh (keepsT kH1 (keepsT k1 k2))) (by omega) rfl
      have hb1 : ¬ h.length + 1 < h.length := by omega
      simp (maxDischargeDepth := 9) -implicitDefEqProofs only [push_cast, simprocAttr, nadd1, nadd2, nadd3, nadd4, nadd5, nadd6, nadd7, nadd8, nadd9, nadd10, nadd11, nadd12, ABlk.new, hlt', v1, d1, d1l, nv, lv, ↓uia_eq, x1, ↓uld_eq 50, x2, eA, hY1, bY1, lY1, hH1, bH1, lH1, e5, e5l, e7, e7l, eP, nu, cu, eO, n1', i1, ePl, n2, i2, f7, f7l, hlo, hlo2, hlo3, hlo4, hb1, hH4, decide_false, Bool.not_false, Bool.and_true]
      refine loop_next (m - (i + 1)) (by omega) ⟨i + 1, y2, L2, rfl, by omega, ?_, g5, g7, u4, by rw [htk]; exact w2, c2, by omega, k4, rfl⟩
      simp (maxDischargeDepth := 9) -implicitDefEqProofs only [push_cast, simprocAttr]; try simp
    · have hi2 : i = m := by omega
      subst hi2
      have hnl : ¬ (i : Int) < (i : Int) := by omega
      have hfull : S = (distL (ageL F raw)).sum := by rw [← hS, ← hDlen, List.take_length, hDsum]
      obtain ⟨r1, j1, eO, bb1, hG1, _⟩ := Of_c (z := (n1 : Int)) (by omega) (by omega) hgh
      have k1 : Keeps h' (h' ++ j1) none := keepsG hG1
      obtain ⟨H2, hH2⟩ : ∃ H, h' ++ j1 = H := ⟨_, rfl⟩
      rw [hH2] at eO bb1 hG1 k1
      obtain ⟨y1, L1, rfl, u1, w1', C1, l1⟩ := bb1
      have hnd : decide ((n1 : Int) < 0) = false := decide_eq_false (by omega)
      rw [hnd] at eO
      rw [if_neg (by omega)] at w1'
      have uv2 := uv.keep (keepsN k1)
      obtain ⟨r2, j2, eQ, bb2, hG2, _⟩ := Over_c hG1 uv2 u1 C1 (by rw [w1']; omega) (by omega) (by omega)
      have k2 : Keeps H2 (H2 ++ j2) none := keepsG hG2
      obtain ⟨H3, hH3⟩ : ∃ H, H2 ++ j2 = H := ⟨_, rfl⟩
      rw [hH3] at eQ bb2 hG2 k2
      obtain ⟨Qv, Q, Tv, T, rfl, uQ, uT, vQ, vT, CQ, CT, lQ, lT⟩ := bb2
      rw [vL, w1', hfull, ← hjit] at vQ
      have eI := Int_c (s := false) hG2 uQ (by omega)
      rw [vQ] at eI
      obtain ⟨J, hJ⟩ : ∃ J, jitS (ageL F raw) = J := ⟨_, rfl⟩
      rw [hJ] at eI hjin ⊢
      have eR : intR false J = true := by simp only [intR, Bool.false_and, Bool.false_eq_true, if_false]; exact decide_eq_true (by omega)
      have eZ : sgn false J = J := rfl
      rw [intZ_ok hjin.1 eR, eZ, eR] at eI
      have n1' := u1.na
      have i1 := u1.cell
      have nQ := uQ.na
      have iQ := uQ.cell
      have nT := uT.na
      have hlo4 : ¬ h'.length ≤ h.length + 1 := by omega
      obtain ⟨js, hj⟩ := (keepsT kh (keepsT k1 k2)).behind
      rcases uQ.shape with rfl | ⟨_, _, _, rfl⟩ | ⟨_, _, _, rfl⟩
      all_goals
        simp (maxDischargeDepth := 9) -implicitDefEqProofs only [push_cast, simprocAttr, nadd1, nadd2, nadd3, nadd4, nadd5, nadd6, nadd7, nadd8, nadd9, nadd10, nadd11, nadd12, hnl, d1, d1l, nv, lv, c7, l7, nu, cu, w1, eO, n1', i1, eQ, nQ, iQ, nT, eI, hlo4, decide_false, Bool.not_false, Bool.and_true]
        exact ⟨rfl, ⟨js, hj⟩, rfl⟩
theorem refJit_c {raw : Int} (hg : Good h) (a : RefAt h p F q v n) : W CP 49 [.ptr p 0, .int .i64 raw] h = some (.int .i64 (jitO F raw), h, []) := by
  unfold jitO
  by_cases c : canL F raw
  · rw [if_pos c]
    unfold jitF
    by_cases c2 : F.L.length < 2
    · rw [if_pos c2]; exact refJit_no hg a (Or.inr c2)
    · rw [if_neg c2]; exact refJit_ok hg a c (by omega)
  · rw [if_neg c]
    exact refJit_no hg a (Or.inl c)
end
end Go.Proofs.YthcjmmngenogmaaW.AI.E

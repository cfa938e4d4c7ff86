import Derived.Test.YtdbdmnhnijpdcaaDoorAICextD
namespace Go.Proofs.YtdbdmnhnijpdcaaDoorW.AI.C
open Go Go.Proofs.YtdbdmnhnijpdcaaDoorW.AI Go.Proofs.YtdbdmnhnijpdcaaDoorW.AI.Oct
set_option maxRecDepth 100000
set_option linter.unusedSimpArgs false
set_option linter.unusedVariables false
set_option linter.unusedSectionVars false
/-- A row of fields and its cells. -/
structure RowX (g : AHeap) (v : AV) (F : List (Int × List Int)) (A : List AV) : Prop where
  fl : F.length ≤ 9223372036854775807
  len : A.length = F.length * 2
  sh : (v = .nils ∧ F = []) ∨ ∃ b c st mn, ((v = .sl b 0 F.length c ∧ F.length ≤ c) ∨ v = .gsl b 0 F.length 2 mn) ∧ g[b]? = some ⟨st, .vals A⟩ ∧ Liv st
  el : ∀ (i : Nat) (t : Int) (D : List Int), F[i]? = some (t, D) → (0 ≤ t ∧ t < 65536) ∧ A[i * 2]? = some (.int .u16 t) ∧ ∃ d, A[i * 2 + 1]? = some d ∧ BV g d D ∧ nilOf d ≠ none ∧ D.length ≤ 9223372036854775807
theorem ArgX.row {g : AHeap} {v : AV} {F : List (Int × List Int)} {A : List AV} (a : ArgX g v F A) : RowX g v F A :=
  ⟨a.fl, a.len, a.sh.imp id fun ⟨b, c, e, hc, hb⟩ => ⟨b, c, .ext, false, Or.inl ⟨e, hc⟩, hb, Or.inl rfl⟩, a.el⟩
theorem RowX.keep {g h : AHeap} {v : AV} {F : List (Int × List Int)} {A : List AV} (a : RowX g v F A) (hm : ∀ (q : Nat) (z : ABlk), g[q]? = some z → h[q]? = some z) : RowX h v F A := by
  refine ⟨a.fl, a.len, ?_, fun i t D hi => ?_⟩
  · rcases a.sh with e | ⟨b, c, st, mn, e, hb, hst⟩
    · exact Or.inl e
    · exact Or.inr ⟨b, c, st, mn, e, hm _ _ hb, hst⟩
  · obtain ⟨h1, h2, d, h3, h4, h5⟩ := a.el i t D hi
    exact ⟨h1, h2, d, h3, h4.keep hm, h5⟩
theorem RowX.app {g : AHeap} {v : AV} {F : List (Int × List Int)} {A : List AV} (a : RowX g v F A) (js : AHeap) : RowX (g ++ js) v F A :=
  a.keep fun q z e => by rw [List.getElem?_append_left (List.getElem?_eq_some_iff.1 e).1]; exact e
theorem liv_face {h : AHeap} {b : Nat} {st : BSt} {c : ACells} (e : h[b]? = some ⟨st, c⟩) (hs : Liv st) : faceOk h b = true := by
  unfold faceOk; rw [e]
  rcases hs with rfl | ⟨o, rfl⟩ <;> rfl
theorem RowX.xr {g : AHeap} {v : AV} {F : List (Int × List Int)} {A : List AV} (a : RowX g v F A) : ExtAt g v F := by
  rcases a.sh with ⟨rfl, rfl⟩ | ⟨b, c, st, mn, e, hb, hst⟩
  · exact ExtAt.nil g
  · refine ⟨b, 0, A, ?_, fun g i hi => ?_, fun _ => ⟨cellsAt_of hb hst.nd, liv_face hb hst, (List.getElem?_eq_some_iff.1 hb).1⟩, fun i t D hi => ?_⟩
    · rcases e with ⟨rfl, _⟩ | rfl <;> rfl
    · rcases e with ⟨rfl, _⟩ | rfl
      · simp only [iaV, if_pos hi]
      · simp only [iaV]; rw [if_pos ⟨trivial, hi⟩]
    · obtain ⟨h1, h2, d, h3, h4, h5, _⟩ := a.el i t D hi
      exact ⟨h1, by rw [Nat.zero_add]; exact h2, d, by rw [Nat.zero_add]; exact h3, h4, h5⟩
theorem RowX.gl {h g : AHeap} {x : AV} {F : List (Int × List Int)} {A : List AV} (r : RowX h x F A) (h0 : x.lt 0 = true) : RowX g x F A := by
  obtain ⟨rfl, hn⟩ := slen_nil r.xr.len h0
  obtain rfl : F = [] := List.length_eq_zero_iff.1 hn
  exact ⟨r.fl, r.len, Or.inl ⟨rfl, rfl⟩, fun i t D hi => by simp at hi⟩
/-- What ref05.Find answers: what lies there. -/
def vOf (l : List AV) (o : Nat) (F : List (Int × List Int)) (u : Int) : AV := match F.findIdx? (fun z => decide (z.1 = u)) with
  | some i => (l[o + i * 2 + 1]?).getD .nils
  | none => .nils
theorem vOf_bv {h : AHeap} {x : AV} {F : List (Int × List Int)} {b o : Nat} {l : List AV} (r : XR h x F b o l) (u : Int) : BV h (vOf l o F u) ((findX F u).getD []) := by
  unfold vOf
  cases hi : F.findIdx? (fun z => decide (z.1 = u)) with
  | none =>
    rw [List.findIdx?_eq_none_iff] at hi
    rw [findX_none fun k y hy => by simpa using hi y (List.mem_of_getElem? hy)]
    exact BV.nil h
  | some i =>
    rw [List.findIdx?_eq_some_iff_getElem] at hi
    obtain ⟨hl, h1, h2⟩ := hi
    have hz := List.getElem?_eq_getElem hl
    obtain ⟨_, _, d, l2, hd, _⟩ := r.elt i F[i].1 F[i].2 hz
    rw [findX_first hz (by simpa using h1) fun k y hk hy => by
      obtain ⟨hk', rfl⟩ := List.getElem?_eq_some_iff.1 hy
      simpa using h2 k hk]
    show BV h ((l[o + i * 2 + 1]?).getD .nils) F[i].2
    rw [l2]
    exact hd
def fewX (F : List (Int × List Int)) : List (Int × List Int) := (F.take 12).map fun z => (z.1, z.2.take 600)
theorem fewX_len (F : List (Int × List Int)) : (fewX F).length = min 12 F.length := by simp [fewX]
theorem fewX_lens (F : List (Int × List Int)) : ∀ z ∈ fewX F, z.2.length ≤ 600 := by
  intro z hz
  obtain ⟨y, _, rfl⟩ := List.mem_map.1 hz
  simp only [List.length_take]; omega
theorem fewX_twice (F : List (Int × List Int)) : fewX (fewX F) = fewX F := by
  unfold fewX
  rw [List.take_of_length_le (by rw [List.length_map, List.length_take]; omega), List.map_map]
  refine List.map_congr_left fun z _ => ?_
  simp [List.take_take]
theorem fewX_at {F : List (Int × List Int)} {i : Nat} {t : Int} {D : List Int} (h : (fewX F)[i]? = some (t, D)) : ∃ E, F[i]? = some (t, E) ∧ D = E.take 600 ∧ i < 12 := by
  have hi := (List.getElem?_eq_some_iff.1 h).1
  rw [fewX_len] at hi
  simp only [fewX, List.getElem?_map, List.getElem?_take, Option.map_eq_some_iff] at h
  obtain ⟨z, hz, e⟩ := h
  rw [if_pos (by omega)] at hz
  cases e
  exact ⟨z.2, hz, rfl, by omega⟩
theorem nil_cut {d : AV} {k q : Nat} (hn : nilOf d ≠ none) (hl : slen d = some k) (hq : q = 0 → k = 0) : nilOf (cutX d q) ≠ none := by
  cases d with
  | gsl b o n e m =>
    simp only [slen, Option.some.injEq] at hl
    subst hl
    simp only [cutX, nilOf] at hn ⊢
    cases m with
    | false => simp
    | true =>
      by_cases h0 : q = 0
      · have := hq h0
        subst this
        simp at hn
      · simp [h0]
  | _ => exact hn
def few1 : MCode := .seq (.reg [⟨some 15, .bin .lss [] (.t 14) (.t 13), none⟩])
 (.seq (.cond (.t 15)
 (.skip)
 (.exit 0))
 (.seq (.block 1 [3, 13, 14]
 (.seq (.reg [⟨some 16, .mv (.t 14), none⟩,
  ⟨some 4, .mv (.t 16), none⟩])
 (.regd [(0, ⟨some 17, .mv (.t 3), none⟩),
  (1, ⟨some 18, .mv (.t 4), none⟩),
  (2, ⟨some 19, .mv (.t 3), none⟩),
  (3, ⟨some 20, .mv (.t 4), none⟩),
  (4, ⟨some 21, .ia none 2 (.t 19) (.t 20), none⟩),
  (5, ⟨some 22, .fa 1 (.t 21), none⟩),
  (6, ⟨some 23, .ld none (.t 22), none⟩),
  (7, ⟨some 24, .mv (.t 3), none⟩),
  (8, ⟨some 25, .mv (.t 4), none⟩),
  (9, ⟨some 26, .ia none 2 (.t 24) (.t 25), none⟩),
  (10, ⟨some 27, .fa 1 (.t 26), none⟩),
  (11, ⟨some 28, .ld none (.t 27), none⟩),
  (12, ⟨some 29, .len none (.t 28), none⟩),
  (13, ⟨some 30, .mnx false [(.t 29), (.c (.int .i64 600))], none⟩),
  (14, ⟨some 31, .slc none 1 (.t 23) none (some (.t 30)) none, none⟩),
  (15, ⟨some 32, .ia none 2 (.t 17) (.t 18), none⟩),
  (16, ⟨some 33, .fa 1 (.t 32), none⟩),
  (17, ⟨none, .st 1 (.t 33) (.t 31), none⟩)] [])))
 (.reg [⟨some 34, .bin .add [] (.t 14) (.c (.int .i64 1)), none⟩,
  ⟨some 14, .mv (.t 34), none⟩])))
theorem few_parts : M56 = ⟨.seq (.reg [⟨some 2, .mv (.c .nils), none⟩])
 (.seq (.reg [⟨some 5, .bsl (.vals [(.int .u16 0), .nils]) 0 2 [], none⟩,
  ⟨some 6, .mv (.t 0), none⟩,
  ⟨some 7, .mv (.t 0), none⟩,
  ⟨some 8, .len none (.t 7), none⟩,
  ⟨some 9, .mnx false [(.t 8), (.c (.int .i64 12))], none⟩,
  ⟨some 10, .slc none 2 (.t 6) none (some (.t 9)) none, none⟩,
  ⟨some 11, .app (.vals [(.int .u16 0), .nils]) 32 (.t 5) (.t 10), none⟩,
  ⟨some 3, .mv (.t 11), none⟩])
 (.seq (.seq (.reg [⟨some 12, .mv (.t 3), none⟩,
  ⟨some 13, .len none (.t 12), none⟩,
  ⟨some 14, .mv (.c (.int .i64 0)), none⟩])
 (.block 0 [3]
 (.loop [3, 13, 14]
 (few1))))
 (.seq (.reg [⟨some 35, .mv (.t 3), none⟩,
  ⟨some 2, .mv (.t 35), none⟩])
 (.ret)))),
 [.tmp 2], true⟩ := rfl
/-- What Few answers. -/
def FewPost (g : AHeap) (F : List (Int × List Int)) (r : AV × AHeap × List Nat) : Prop := r.1.lt g.length = false ∧ ∃ v js A, r = (v, g ++ js, []) ∧ RowX (g ++ js) v F A ∧ js.all notOld = true ∧ ∃ p, blkS v = some p ∧ g.length ≤ p
theorem emptyRow (g : AHeap) : FewPost g [] (.sl g.length 0 0 0, g ++ [⟨.tip false, .vals []⟩], []) :=
  ⟨by simp [AV.lt], _, [⟨.tip false, .vals []⟩], [], rfl, ⟨by simp, rfl, Or.inr ⟨g.length, 0, .tip false, false, Or.inl ⟨rfl, by simp⟩, end_get _ _ _, Or.inr ⟨false, rfl⟩⟩, fun i t D hi => by simp at hi⟩, rfl, g.length, rfl, Nat.le_refl _⟩
theorem app_row0 (g : AHeap) : aappend (g ++ [⟨.tip false, .vals []⟩]) (.vals [.int .u16 0, .nils]) 32 (.sl g.length 0 0 0) (.vals []) 0 = some (.sl g.length 0 0 0, g ++ [⟨.tip false, .vals []⟩], [g.length]) := by
  have e0 : (g ++ [(⟨.tip false, .vals []⟩ : ABlk)])[g.length]? = some ⟨.tip false, .vals []⟩ := by simp
  simp [aappend, change, storeL, ACells.list, e0]
theorem app_row1 (g : AHeap) {C : List AV} {m : Nat} (hm : 0 < m) (h12 : m ≤ 12) : aappend (g ++ [⟨.tip false, .vals []⟩]) (.vals [.int .u16 0, .nils]) 32 (.sl g.length 0 0 0) (.vals C) m = some (.gsl (g.length + 1) 0 m 2 false, g ++ [⟨.tip false, .vals []⟩, ⟨.tip false, .vals C⟩], []) := by
  have e0 : (g ++ [(⟨.tip false, .vals []⟩ : ABlk)])[g.length]? = some ⟨.tip false, .vals []⟩ := by simp
  have hp : ¬ 0 + m ≤ 0 := by omega
  have e1 : sliceCells (g ++ [(⟨.tip false, .vals []⟩ : ABlk)]) (ACells.vals [.int .u16 0, .nils]).len (.sl g.length 0 0 0) = some (.vals []) := by
    simp [sliceCells, cellsAt, e0, ACells.len, ACells.sub]
  have hr : room (0 + m) 32 = true := by simp only [room, decide_eq_true_eq]; omega
  simp only [aappend, if_neg hp, e1, Option.bind_some, ACells.app, hr, if_true]
  simp [ACells.len]
set_option maxHeartbeats 8000000 in
theorem few_key {g : AHeap} {x : AV} {F : List (Int × List Int)} {A : List AV} (hg : Good g) (hx : RowX g x F A) : Wp (xbody (W CP) M56 [x] g) (FewPost g (fewX F)) := by
  obtain ⟨n, hn⟩ : ∃ n, F.length = n := ⟨_, rfl⟩
  have hnl := hx.fl
  rw [hn] at hnl
  obtain ⟨m, hm, hmin⟩ : ∃ m : Nat, m = min 12 n ∧ (if (12 : Int) < (n : Int) then (12 : Int) else (n : Int)) = (m : Int) := by
    by_cases hc : 12 < n
    · exact ⟨12, by omega, by rw [if_pos (by omega)]; rfl⟩
    · exact ⟨n, by omega, by rw [if_neg (by omega)]⟩
  have hfl : (fewX F).length = m := by rw [fewX_len, hn, hm]
  have hgl : ¬ g.length < g.length := by omega
  have hgl1 : ¬ g.length + 1 < g.length := by omega
  by_cases h0 : m = 0
  · subst h0
    have hF : fewX F = [] := List.length_eq_zero_iff.1 hfl
    rw [hF]
    have ea := app_row0 g
    have quick : ∀ (st : Step) (b : Nat), True := fun _ _ => trivial
    have hn0 : n = 0 := by omega
    subst hn0
    have hFn : F = [] := List.length_eq_zero_iff.1 hn
    subst hFn
    have hnew : ∀ y, (y = .nils ∨ ∃ b c st mn, (y = .sl b 0 0 c ∨ y = .gsl b 0 0 2 mn) ∧ (g ++ [(⟨.tip false, .vals []⟩ : ABlk)])[b]? = some ⟨st, .vals A⟩ ∧ Liv st) → newCells (g ++ [⟨.tip false, .vals []⟩]) (.vals [.int .u16 0, .nils]) y = some (.vals []) := by
      rintro y (rfl | ⟨b, c, st, mn, hy, hb, hst⟩)
      · rfl
      · rcases hy with rfl | rfl
        · simp only [newCells, sliceCells, cellsAt_of hb hst.nd, Option.bind_some, ACells.len, ACells.sub]; simp
        · simp only [newCells, sliceCells, cellsAt_of hb hst.nd, Option.bind_some, ACells.len, ACells.sub]; simp
    have post := emptyRow g
    rcases hx.sh with ⟨rfl, _⟩ | ⟨b, c, st, mn, hxx, hb, hst⟩
    · have hq := hnew .nils (Or.inl rfl)
      simp (maxDischargeDepth := 9) -implicitDefEqProofs only [push_cast, simprocAttr, M56, nadd1, nadd2, nadd3, nadd4, nadd5, nadd6, nadd7, nadd8, nadd9, nadd10, nadd11, nadd12, hq, ea]
      refine wp_kRes (wp_kSeq (wp_kBlock ?_))
      refine wp_loop (fun k aa h' ws => aa = [(3, .sl g.length 0 0 0), (13, .int .i64 0), (14, .int .i64 0)] ∧ h' = g ++ [⟨.tip false, .vals []⟩] ∧ ws = []) 1 ?_ ?_
      · refine ⟨?_, rfl, rfl⟩
        simp (maxDischargeDepth := 9) -implicitDefEqProofs only [push_cast, simprocAttr]
      · rintro k aa h' ws ⟨rfl, rfl, rfl⟩
        simp (maxDischargeDepth := 9) -implicitDefEqProofs only [push_cast, simprocAttr]
        exact post
    · have hb' : (g ++ [(⟨.tip false, .vals []⟩ : ABlk)])[b]? = some ⟨st, .vals A⟩ := by rw [List.getElem?_append_left (List.getElem?_eq_some_iff.1 hb).1]; exact hb
      have hz : ([] : List (Int × List Int)).length = 0 := rfl
      rw [hz] at hxx
      rcases hxx with ⟨rfl, hcc⟩ | rfl
      · have hq := hnew (.sl b 0 0 c) (Or.inr ⟨b, c, st, mn, Or.inl rfl, hb', hst⟩)
        simp (maxDischargeDepth := 9) -implicitDefEqProofs only [push_cast, simprocAttr, M56, nadd1, nadd2, nadd3, nadd4, nadd5, nadd6, nadd7, nadd8, nadd9, nadd10, nadd11, nadd12, hq, ea]
        refine wp_kRes (wp_kSeq (wp_kBlock ?_))
        refine wp_loop (fun k aa h' ws => aa = [(3, .sl g.length 0 0 0), (13, .int .i64 0), (14, .int .i64 0)] ∧ h' = g ++ [⟨.tip false, .vals []⟩] ∧ ws = []) 1 ?_ ?_
        · refine ⟨?_, rfl, rfl⟩
          simp (maxDischargeDepth := 9) -implicitDefEqProofs only [push_cast, simprocAttr]
        · rintro k aa h' ws ⟨rfl, rfl, rfl⟩
          simp (maxDischargeDepth := 9) -implicitDefEqProofs only [push_cast, simprocAttr]
          exact post
      · have hq := hnew (.gsl b 0 0 2 mn) (Or.inr ⟨b, c, st, mn, Or.inr rfl, hb', hst⟩)
        simp (maxDischargeDepth := 9) -implicitDefEqProofs only [push_cast, simprocAttr, M56, nadd1, nadd2, nadd3, nadd4, nadd5, nadd6, nadd7, nadd8, nadd9, nadd10, nadd11, nadd12, hq, ea]
        refine wp_kRes (wp_kSeq (wp_kBlock ?_))
        refine wp_loop (fun k aa h' ws => aa = [(3, .sl g.length 0 0 0), (13, .int .i64 0), (14, .int .i64 0)] ∧ h' = g ++ [⟨.tip false, .vals []⟩] ∧ ws = []) 1 ?_ ?_
        · refine ⟨?_, rfl, rfl⟩
          simp (maxDischargeDepth := 9) -implicitDefEqProofs only [push_cast, simprocAttr]
        · rintro k aa h' ws ⟨rfl, rfl, rfl⟩
          simp (maxDischargeDepth := 9) -implicitDefEqProofs only [push_cast, simprocAttr]
          exact post
  · have hm0 : 0 < m := by omega
    have hmn : m ≤ n := by omega
    have hmI : ((m : Int) ≤ (n : Int)) := by omega
    obtain ⟨C, hC⟩ : ∃ C, A.take (m * 2) = C := ⟨_, rfl⟩
    have hCl : C.length = m * 2 := by rw [← hC, List.length_take, hx.len, hn]; omega
    have ea := app_row1 g (C := C) hm0 (by omega)
    have goL : ∀ a : Acts, look a 3 = some (.gsl (g.length + 1) 0 m 2 false) → look a 13 = some (.int .i64 (m : Int)) → look a 14 = some (.int .i64 0) → Wp (xexec (W CP) g.length (.loop [3, 13, 14] few1) a (g ++ [⟨.tip false, .vals []⟩, ⟨.tip false, .vals C⟩]) []) (fun o => ∃ a h', o = (.exit 0, a, h', []) ∧ look a 3 = some (.gsl (g.length + 1) 0 m 2 false) ∧ ∃ C', h' = g ++ [⟨.tip false, .vals []⟩, ⟨.tip false, .vals C'⟩] ∧ C'.length = m * 2 ∧
        ∀ (j : Nat) (t : Int) (D : List Int), j < m → F[j]? = some (t, D) → C'[j * 2]? = some (.int .u16 t) ∧ ∃ d, A[j * 2 + 1]? = some d ∧ C'[j * 2 + 1]? = some (cutX d (min D.length 600))) := by
      intro a a3 a13 a14
      rw [w_loop]
      refine wp_loop (fun k aa h' ws => ∃ i : Nat, k = m - i ∧ i ≤ m ∧ aa = [(3, .gsl (g.length + 1) 0 m 2 false), (13, .int .i64 (m : Int)), (14, .int .i64 (i : Int))] ∧ (∃ C', h' = g ++ [⟨.tip false, .vals []⟩, ⟨.tip false, .vals C'⟩] ∧ C'.length = m * 2 ∧
        ∀ (j : Nat) (t : Int) (D : List Int), j < m → F[j]? = some (t, D) → C'[j * 2]? = some (.int .u16 t) ∧ ∃ d, A[j * 2 + 1]? = some d ∧ C'[j * 2 + 1]? = some (if j < i then cutX d (min D.length 600) else d)) ∧ ws = []) m ?_ ?_
      · refine ⟨0, by omega, by omega, ?_, ⟨C, rfl, hCl, fun j t D hj hz => ?_⟩, rfl⟩
        · simp (maxDischargeDepth := 9) -implicitDefEqProofs only [push_cast, simprocAttr, a3, a13, a14]
        · obtain ⟨_, a1, d, a2, _⟩ := hx.el j t D hz
          refine ⟨by rw [← hC, List.getElem?_take, if_pos (by omega)]; exact a1, d, a2, ?_⟩
          rw [← hC, List.getElem?_take, if_pos (by omega), if_neg (by omega)]; exact a2
      · rintro k aa h' ws ⟨i, rfl, hi, rfl, ⟨C', rfl, hC', hel⟩, rfl⟩
        have v1 : IntKind.i64.wrap ((i : Int) + 1) = (i : Int) + 1 := wr_i64 _ (by omega) (by omega)
        by_cases hlt : i < m
        · have hlt' : (i : Int) < (m : Int) := by omega
          obtain ⟨⟨t, D⟩, hz⟩ : ∃ z, F[i]? = some z := ⟨_, List.getElem?_eq_getElem (by omega)⟩
          obtain ⟨ht, a1, d, a2, hd, hnn, hDl⟩ := hx.el i t D hz
          obtain ⟨b1, d', b2, b3⟩ := hel i t D hlt hz
          rw [a2] at b2
          cases b2
          rw [if_neg (by omega)] at b3
          have hdn := hd.na
          have hdl := hd.len
          obtain ⟨n0, hn0⟩ : ∃ n0, D.length = n0 := ⟨_, rfl⟩
          rw [hn0] at hdl hDl
          obtain ⟨q, hq, hmin2⟩ : ∃ q : Nat, q = min n0 600 ∧ (if (600 : Int) < (n0 : Int) then (600 : Int) else (n0 : Int)) = (q : Int) := by
            by_cases hc : 600 < n0
            · exact ⟨600, by omega, by rw [if_pos (by omega)]; rfl⟩
            · exact ⟨n0, by omega, by rw [if_neg (by omega)]⟩
          have bcut := hd.take (show q ≤ D.length by omega)
          have acut := bcut.na
          have ccut := bcut.cell
          have ccel := bcut.cells1
          have e1 := fun h => slcV_hi (h := h) hd (show q ≤ D.length by omega)
          have hil : i * 2 + 1 < C'.length := by omega
          have hsh : cutX d q = .nils ∨ (∃ b o c, cutX d q = .sl b o q c) ∨ ∃ b o mn, cutX d q = .gsl b o q 1 mn := by
            cases d with
            | nils => exact Or.inl rfl
            | sl b o n c => exact Or.inr (Or.inl ⟨b, o, c, rfl⟩)
            | gsl b o n e m =>
              obtain ⟨_, ⟨h, _⟩ | ⟨_, _, _, _, _, _, _, _, _, _, ⟨h, _⟩ | h⟩⟩ := hd
              · cases h
              · cases h
              · cases h; exact Or.inr (Or.inr ⟨_, _, _, rfl⟩)
            | _ => simp [slen] at hdl
          have step : Wp (xexec (W CP) g.length few1 [(3, .gsl (g.length + 1) 0 m 2 false), (13, .int .i64 (m : Int)), (14, .int .i64 (i : Int))] (g ++ [⟨.tip false, .vals []⟩, ⟨.tip false, .vals C'⟩]) []) fun o => ∃ a, o = (.normal, a, g ++ [⟨.tip false, .vals []⟩, ⟨.tip false, .vals (C'.set (i * 2 + 1) (cutX d q))⟩], []) ∧ look a 3 = some (.gsl (g.length + 1) 0 m 2 false) ∧ look a 13 = some (.int .i64 (m : Int)) ∧ look a 14 = some (.int .i64 ((i : Int) + 1)) := by
            obtain ⟨e, he⟩ : ∃ e, cutX d q = e := ⟨_, rfl⟩
            rw [he] at hsh e1 acut ⊢
            rcases hsh with rfl | ⟨b', o', c', rfl⟩ | ⟨b', o', mn', rfl⟩
            all_goals
              simp (maxDischargeDepth := 9) -implicitDefEqProofs only [push_cast, simprocAttr, few1, nadd1, nadd2, nadd3, nadd4, nadd5, nadd6, nadd7, nadd8, nadd9, nadd10, nadd11, nadd12, hlt', hlt, v1, hgl, hgl1, b3, hil, hdn, hdl, hmin2, ↓slc_eqH, e1]
              exact ⟨_, rfl, by simp (maxDischargeDepth := 9) -implicitDefEqProofs only [push_cast, simprocAttr], by simp (maxDischargeDepth := 9) -implicitDefEqProofs only [push_cast, simprocAttr], by simp (maxDischargeDepth := 9) -implicitDefEqProofs only [push_cast, simprocAttr]⟩
          refine step.mono ?_
          rintro o ⟨a, rfl, k3, k13, k14⟩
          refine loop_next (m - (i + 1)) (by omega) ⟨i + 1, rfl, by omega, ?_, ⟨C'.set (i * 2 + 1) (cutX d q), rfl, by rw [List.length_set]; exact hC', fun j u E hj hzj => ?_⟩, rfl⟩
          · simp (maxDischargeDepth := 9) -implicitDefEqProofs only [push_cast, simprocAttr, k3, k13, k14]; try simp
          · obtain ⟨c1, e, c2, c3⟩ := hel j u E hj hzj
            refine ⟨by rw [List.getElem?_set_ne (by omega)]; exact c1, e, c2, ?_⟩
            by_cases hji : j = i
            · subst hji
              rw [hz] at hzj
              cases hzj
              rw [a2] at c2
              cases c2
              rw [List.getElem?_set_self hil, if_pos (by omega), hn0, hq]
            · rw [List.getElem?_set_ne (by omega), c3]
              by_cases hj2 : j < i
              · rw [if_pos hj2, if_pos (by omega)]
              · rw [if_neg hj2, if_neg (by omega)]
        · have hnl2 : ¬ (i : Int) < (m : Int) := by omega
          obtain rfl : i = m := by omega
          simp (maxDischargeDepth := 9) -implicitDefEqProofs only [push_cast, simprocAttr, few1, hnl2]
          refine ⟨_, _, rfl, by simp (maxDischargeDepth := 9) -implicitDefEqProofs only [push_cast, simprocAttr], C', rfl, hC', fun j t D hj hzj => ?_⟩
          obtain ⟨c1, e, c2, c3⟩ := hel j t D hj hzj
          rw [if_pos hj] at c3
          exact ⟨c1, e, c2, c3⟩
    have post : ∀ C' : List AV, C'.length = m * 2 → (∀ (j : Nat) (t : Int) (D : List Int), j < m → F[j]? = some (t, D) → C'[j * 2]? = some (.int .u16 t) ∧ ∃ d, A[j * 2 + 1]? = some d ∧ C'[j * 2 + 1]? = some (cutX d (min D.length 600))) →
        FewPost g (fewX F) (.gsl (g.length + 1) 0 m 2 false, g ++ [⟨.tip false, .vals []⟩, ⟨.tip false, .vals C'⟩], []) := by
      intro C' hC' hel
      refine ⟨by simp [AV.lt], _, [⟨.tip false, .vals []⟩, ⟨.tip false, .vals C'⟩], C', rfl, ⟨by omega, by rw [hfl]; exact hC', Or.inr ⟨g.length + 1, 0, .tip false, false, Or.inr (by rw [hfl]), by rw [List.getElem?_append_right (by omega)]; simp, Or.inr ⟨false, rfl⟩⟩, fun i t D hi => ?_⟩, rfl, g.length + 1, rfl, by omega⟩
      have hil := (List.getElem?_eq_some_iff.1 hi).1
      rw [hfl] at hil
      obtain ⟨E, hE, rfl, _⟩ := fewX_at hi
      obtain ⟨ht, a1, d, a2, hd, hnn, hDl⟩ := hx.el i t E hE
      obtain ⟨c1, e, c2, c3⟩ := hel i t E hil hE
      rw [a2] at c2
      cases c2
      have h6 : E.take 600 = E.take (min E.length 600) := by
        by_cases hc : E.length ≤ 600
        · rw [Nat.min_eq_left hc, List.take_of_length_le hc, List.take_length]
        · rw [Nat.min_eq_right (by omega)]
      refine ⟨ht, c1, cutX d (min E.length 600), c3, ?_, ?_, by rw [List.length_take]; omega⟩
      · rw [h6]; exact (hd.take (by omega)).app _
      · exact nil_cut hnn hd.len (by omega)
    rcases hx.sh with ⟨_, hF⟩ | ⟨b, c, st, mn, hxx, hb, hst⟩
    · rw [hF] at hn; simp at hn; omega
    · have hb' : (g ++ [(⟨.tip false, .vals []⟩ : ABlk)])[b]? = some ⟨st, .vals A⟩ := by rw [List.getElem?_append_left (List.getElem?_eq_some_iff.1 hb).1]; exact hb
      have hAl : m * 2 ≤ A.length := by rw [hx.len, hn]; omega
      rw [hn] at hxx
      rw [few_parts]
      rcases hxx with ⟨rfl, hcc⟩ | rfl
      · have hq : newCells (g ++ [⟨.tip false, .vals []⟩]) (.vals [.int .u16 0, .nils]) (.sl b 0 m c) = some (.vals C) := by
          simp only [newCells, sliceCells, cellsAt_of hb' hst.nd, Option.bind_some, ACells.len, ACells.sub, List.length_cons, List.length_nil, List.drop_zero, Nat.zero_add]
          rw [if_pos (by omega), hC]
        have hmc : m ≤ c := by omega
        simp (maxDischargeDepth := 9) -implicitDefEqProofs only [push_cast, simprocAttr, nadd1, nadd2, nadd3, nadd4, nadd5, nadd6, nadd7, nadd8, nadd9, nadd10, nadd11, nadd12, hmin, hmc, hq, ea]
        refine wp_kRes (wp_kSeq (wp_kBlock ((goL _ (by simp (maxDischargeDepth := 9) -implicitDefEqProofs only [push_cast, simprocAttr]) (by simp (maxDischargeDepth := 9) -implicitDefEqProofs only [push_cast, simprocAttr]) (by simp (maxDischargeDepth := 9) -implicitDefEqProofs only [push_cast, simprocAttr])).mono ?_)))
        rintro o ⟨a, h', rfl, a3, C', rfl, hC', hel⟩
        simp (maxDischargeDepth := 9) -implicitDefEqProofs only [push_cast, simprocAttr, a3]
        exact post C' hC' hel
      · have hq : newCells (g ++ [⟨.tip false, .vals []⟩]) (.vals [.int .u16 0, .nils]) (.gsl b 0 m 2 mn) = some (.vals C) := by
          simp only [newCells, sliceCells, cellsAt_of hb' hst.nd, Option.bind_some, ACells.len, ACells.sub, List.length_cons, List.length_nil, List.drop_zero, Nat.zero_add, if_true]
          rw [if_pos (by omega), hC]
        simp (maxDischargeDepth := 9) -implicitDefEqProofs only [push_cast, simprocAttr, nadd1, nadd2, nadd3, nadd4, nadd5, nadd6, nadd7, nadd8, nadd9, nadd10, nadd11, nadd12, hmin, hmn, hq, ea]
        refine wp_kRes (wp_kSeq (wp_kBlock ((goL _ (by simp (maxDischargeDepth := 9) -implicitDefEqProofs only [push_cast, simprocAttr]) (by simp (maxDischargeDepth := 9) -implicitDefEqProofs only [push_cast, simprocAttr]) (by simp (maxDischargeDepth := 9) -implicitDefEqProofs only [push_cast, simprocAttr])).mono ?_)))
        rintro o ⟨a, h', rfl, a3, C', rfl, hC', hel⟩
        simp (maxDischargeDepth := 9) -implicitDefEqProofs only [push_cast, simprocAttr, a3]
        exact post C' hC' hel
theorem few_c {h : AHeap} {x : AV} {F : List (Int × List Int)} {A : List AV} (hg : Good h) (hx : RowX h x F A) : ∃ v js A', W CP 56 [x] h = some (v, h ++ js, []) ∧ RowX (h ++ js) v (fewX F) A' ∧ js.all notOld = true ∧ ∃ p, blkS v = some p ∧ h.length ≤ p := by
  cases h0 : x.lt 0 with
  | false =>
    obtain ⟨r, e, hl, v, js, A', rfl, q⟩ := few_key hg hx
    refine ⟨v, js, A', ?_, q⟩
    rw [W_body (m := M56) rfl rfl (by simp [AV.lts, h0]) e, show (M56).trim = true from rfl, if_pos rfl, trim_addr hl]
  | true =>
    obtain ⟨r, e, v, js, A', rfl, q⟩ := W_addr (C := CP) (f := 56) (args := [x]) (m := M56) (fun g => Good g ∧ RowX g x F A) (fun g r => ∃ v js A', r = (v, g ++ js, []) ∧ RowX (g ++ js) v (fewX F) A' ∧ js.all notOld = true ∧ ∃ p, blkS v = some p ∧ g.length ≤ p) (fun _ => rfl) rfl rfl ⟨glG, hx.gl h0⟩ (fun g hg => few_key hg.1 hg.2) ⟨hg, hx⟩
    exact ⟨v, js, A', e, q⟩
end Go.Proofs.YtdbdmnhnijpdcaaDoorW.AI.C

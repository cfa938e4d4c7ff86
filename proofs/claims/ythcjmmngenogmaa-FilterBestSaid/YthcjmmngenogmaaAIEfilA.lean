import Derived.Test.YthcjmmngenogmaaAIEspanA
import Derived.Test.YthcjmmngenogmaaAIErul
import Derived.Test.YthcjmmngenogmaaAIBig
import Derived.Test.YthcjmmngenogmaaAIInt
namespace Go.Proofs.YthcjmmngenogmaaW.AI.E
open Go Go.Proofs.YthcjmmngenogmaaW.AI
set_option maxRecDepth 100000
set_option linter.unusedSimpArgs false
set_option linter.unusedVariables false
set_option linter.unusedSectionVars false
theorem fgl : Good CP.gl := rfl
theorem fend (h : AHeap) (z : ABlk) (ks : AHeap) : (h ++ z :: ks)[h.length]? = some z := by simp
theorem fend1 (h : AHeap) (y z : ABlk) (ks : AHeap) : (h ++ y :: z :: ks)[h.length + 1]? = some z := by rw [List.getElem?_append_right (by omega)]; simp
theorem set_sameF {h : AHeap} {b : Nat} {x : ABlk} (e : h[b]? = some x) : h.set b x = h := by
  apply List.ext_getElem?
  intro i
  rw [List.getElem?_set]
  by_cases hi : b = i
  · subst hi
    rw [if_pos rfl, if_pos (List.getElem?_eq_some_iff.1 e).1, e]
  · rw [if_neg hi]
/-- A span. -/
abbrev Sp := Int × Int × Int
abbrev spV (s : Sp) : AV := spA s.1 s.2.1 s.2.2
def flat3 (L : List Sp) : List Int := (L.map fun s => [s.1, s.2.1, s.2.2]).flatten
theorem flat3_nil : flat3 [] = [] := rfl
theorem flat3_cons (s : Sp) (L : List Sp) : flat3 (s :: L) = s.1 :: s.2.1 :: s.2.2 :: flat3 L := rfl
theorem flat3_len : ∀ L : List Sp, (flat3 L).length = L.length * 3
  | [] => rfl
  | s :: L => by rw [flat3_cons]; simp only [List.length_cons, flat3_len L]; omega
theorem flat3_get : ∀ {L : List Sp} {i : Nat} {s : Sp}, L[i]? = some s → (flat3 L)[i * 3]? = some s.1 ∧ (flat3 L)[i * 3 + 1]? = some s.2.1 ∧ (flat3 L)[i * 3 + 2]? = some s.2.2
  | [], i, s, h => by simp at h
  | t :: L, 0, s, h => by simp at h; subst h; simp [flat3_cons]
  | t :: L, i + 1, s, h => by
    have := flat3_get (L := L) (i := i) (s := s) (by simpa using h)
    rw [flat3_cons, show (i + 1) * 3 = i * 3 + 1 + 1 + 1 by omega]
    simpa using this
theorem flat3_set : ∀ {L : List Sp} {i : Nat} {s t : Sp}, L[i]? = some s → (((flat3 L).set (i * 3) t.1).set (i * 3 + 1) t.2.1).set (i * 3 + 2) t.2.2 = flat3 (L.set i t)
  | [], i, s, t, h => by simp at h
  | u :: L, 0, s, t, h => by simp [flat3_cons]
  | u :: L, i + 1, s, t, h => by
    have := flat3_set (L := L) (i := i) (s := s) (t := t) (by simpa using h)
    rw [List.set_cons_succ, flat3_cons, flat3_cons, ← this, show (i + 1) * 3 = i * 3 + 1 + 1 + 1 by omega]
    simp
theorem flat3_take : ∀ (L : List Sp) (m : Nat), (flat3 L).take (m * 3) = flat3 (L.take m)
  | [], m => by simp [flat3_nil]
  | s :: L, 0 => by simp [flat3_nil]
  | s :: L, m + 1 => by
    rw [List.take_succ_cons, flat3_cons, flat3_cons, ← flat3_take L m, show (m + 1) * 3 = m * 3 + 1 + 1 + 1 by omega]
    simp
/-- A row of spans of one's own. -/
def RV (h : AHeap) (v : AV) (L : List Sp) (n : Nat) : Prop := ∃ b o, n ≤ b ∧ h[b]? = some ⟨.tip o, .ints .i64 (flat3 L)⟩ ∧ (v = .gsl b 0 L.length 3 false ∨ v = .sl b 0 L.length L.length)
theorem RV.len {h : AHeap} {v : AV} {L : List Sp} {n : Nat} (u : RV h v L n) : slen v = some L.length := by
  obtain ⟨b, o, _, _, rfl | rfl⟩ := u <;> rfl
theorem RV.na {h : AHeap} {v : AV} {L : List Sp} {n : Nat} (u : RV h v L n) : noAny (some v) = some v := na_slen u.len
theorem RV.cell {h : AHeap} {v : AV} {L : List Sp} {n : Nat} (u : RV h v L n) : v.isCell = true := by
  obtain ⟨b, o, _, _, rfl | rfl⟩ := u <;> rfl
theorem RV.kept {h h' : AHeap} {v : AV} {L : List Sp} {n : Nat} (u : RV h v L n) (k : Keeps h h' none) : RV h' v L n := by
  obtain ⟨b, o, hb, e, r⟩ := u
  exact ⟨b, o, hb, keepsN k _ _ e, r⟩
theorem RV.app {h : AHeap} {v : AV} {L : List Sp} {n : Nat} (u : RV h v L n) (js : AHeap) : RV (h ++ js) v L n := by
  obtain ⟨b, o, hb, e, r⟩ := u
  exact ⟨b, o, hb, by rw [List.getElem?_append_left (List.getElem?_eq_some_iff.1 e).1]; exact e, r⟩
theorem RV.at {h : AHeap} {v : AV} {L : List Sp} {n i : Nat} {s : Sp} (u : RV h v L n) (hs : L[i]? = some s) : ∃ b, (∀ g, uia 3 g i (some v) = some (.ptr b (i * 3), g, [])) ∧ uld (some 3) h (some (.ptr b (i * 3))) = some (spV s, h, []) ∧ n ≤ b ∧ b < h.length ∧ ∃ o c, h[b]? = some ⟨.tip o, c⟩ := by
  obtain ⟨hi, _⟩ := List.getElem?_eq_some_iff.1 hs
  obtain ⟨g1, g2, g3⟩ := flat3_get hs
  obtain ⟨b, o, hb, e, hv⟩ := u
  have hc : cellsAt h b = some (.ints .i64 (flat3 L)) := by simp [cellsAt, e]
  refine ⟨b, fun g => ?_, ?_, hb, (List.getElem?_eq_some_iff.1 e).1, _, _, e⟩
  · rcases hv with rfl | rfl <;> simp [uia, hi]
  · simp [uld, hc, loadA, loadN, ACells.get?, g1, g2, g3]
theorem RV.lt0 {h : AHeap} {v : AV} {L : List Sp} {n : Nat} (u : RV h v L n) : v.lt 0 = false := by
  obtain ⟨b, o, _, _, rfl | rfl⟩ := u <;> simp [AV.lt]
theorem RV.ltn {h : AHeap} {v : AV} {L : List Sp} {n : Nat} (u : RV h v L n) : v.lt n = false := by
  obtain ⟨b, o, hb, _, rfl | rfl⟩ := u <;> simp [AV.lt] <;> omega
-- ------------------------------------------------------------------ the filter
def fX (r : Nat) (C : List Int) (m : Nat) (u : Int) (d : Bool) : List AV := .ptr r 0 :: (C.map (AV.int .i64) ++ [.int .i64 (m : Int), .int .i64 u, .bool d])
structure FS where
  t : Int
  f : Int
  L : List Sp
  used : Int
  held : Bool
/-- A filter. -/
structure FilAt (h : AHeap) (p : Nat) (F : FS) (r : Nat) (C : List Int) : Prop where
  blk : h[p]? = some ⟨.tip false, .vals (fX r C F.L.length F.used F.held)⟩
  len : C.length = 24
  tk : C.take (F.L.length * 3) = flat3 F.L
  le : F.L.length ≤ 8
  rul : Rul h r F.t F.f
theorem FilAt.kept {h h' : AHeap} {p : Nat} {F : FS} {r : Nat} {C : List Int} (a : FilAt h p F r C) (k : Keeps h h' none) : FilAt h' p F r C := by
  refine ⟨keepsN k _ _ a.blk, a.len, a.tk, a.le, ?_⟩
  obtain ⟨r1, r2, r3⟩ := a.rul
  exact ⟨keepsN k _ _ r1, by have := k.2.1; omega, r3⟩
theorem FilAt.app {h : AHeap} {p : Nat} {F : FS} {r : Nat} {C : List Int} (a : FilAt h p F r C) (js : AHeap) : FilAt (h ++ js) p F r C :=
  ⟨by rw [List.getElem?_append_left (List.getElem?_eq_some_iff.1 a.blk).1]; exact a.blk, a.len, a.tk, a.le, a.rul.app js⟩
section
variable {h : AHeap} {p r : Nat} {C : List Int} {F : FS}
theorem fX_len (hC : C.length = 24) (m : Nat) (u : Int) (d : Bool) : (fX r C m u d).length = 28 := by simp [fX, hC]
theorem fX_0 (m : Nat) (u : Int) (d : Bool) : (fX r C m u d)[0]? = some (.ptr r 0) := rfl
theorem fX_c {i : Nat} {z : Int} (hz : C[i]? = some z) (m : Nat) (u : Int) (d : Bool) : (fX r C m u d)[i + 1]? = some (.int .i64 z) := by
  have hi := (List.getElem?_eq_some_iff.1 hz).1
  unfold fX
  rw [List.getElem?_cons_succ, List.getElem?_append_left (by simpa using hi), List.getElem?_map, hz]
  rfl
theorem fX_25 (hC : C.length = 24) (m : Nat) (u : Int) (d : Bool) : (fX r C m u d)[25]? = some (.int .i64 (m : Int)) := by
  unfold fX
  rw [List.getElem?_cons_succ, List.getElem?_append_right (by simp [hC])]
  simp [hC]
theorem fX_26 (hC : C.length = 24) (m : Nat) (u : Int) (d : Bool) : (fX r C m u d)[26]? = some (.int .i64 u) := by
  unfold fX
  rw [List.getElem?_cons_succ, List.getElem?_append_right (by simp [hC])]
  simp [hC]
theorem fX_27 (hC : C.length = 24) (m : Nat) (u : Int) (d : Bool) : (fX r C m u d)[27]? = some (.bool d) := by
  unfold fX
  rw [List.getElem?_cons_succ, List.getElem?_append_right (by simp [hC])]
  simp [hC]
theorem fX_set25 (hC : C.length = 24) (m m' : Nat) (u : Int) (d : Bool) : (fX r C m u d).set 25 (.int .i64 (m' : Int)) = fX r C m' u d := by
  unfold fX
  rw [List.set_cons_succ, List.set_append_right _ _ (by simp [hC])]
  simp [hC]
theorem fX_set26 (hC : C.length = 24) (m : Nat) (u u' : Int) (d : Bool) : (fX r C m u d).set 26 (.int .i64 u') = fX r C m u' d := by
  unfold fX
  rw [List.set_cons_succ, List.set_append_right _ _ (by simp [hC])]
  simp [hC]
theorem fX_set27 (hC : C.length = 24) (m : Nat) (u : Int) (d d' : Bool) : (fX r C m u d).set 27 (.bool d') = fX r C m u d' := by
  unfold fX
  rw [List.set_cons_succ, List.set_append_right _ _ (by simp [hC])]
  simp [hC]
theorem fX_lt {n : Nat} (hr : r < n) (m : Nat) (u : Int) (d : Bool) : (ACells.vals (fX r C m u d)).lt n = true := by
  have h1 : ∀ (C : List Int) (T : List AV), AV.lts n T = true → AV.lts n (C.map (AV.int .i64) ++ T) = true := by
    intro C T hT
    induction C with
    | nil => exact hT
    | cons c C ih => simp only [List.map_cons, List.cons_append, AV.lts, AV.lt, Bool.true_and]; exact ih
  have h2 : ∀ (C : List Int) (T : List AV), T.all AV.isCell = true → (C.map (AV.int .i64) ++ T).all AV.isCell = true := by
    intro C T hT
    rw [List.all_append, hT, Bool.and_true, List.all_eq_true]
    intro x hx
    obtain ⟨z, _, rfl⟩ := List.mem_map.1 hx
    rfl
  unfold fX
  simp only [ACells.lt, AV.lts, AV.lt, List.all_cons, Bool.and_eq_true, decide_eq_true_eq]
  exact ⟨⟨hr, h1 C _ rfl⟩, rfl, h2 C _ rfl⟩
theorem fnone_c (hg : Good h) (a : FilAt h p F r C) : W CP 75 [.ptr p 0] h = some (.bool false, h, []) := by
  have b := a.blk
  have l := (List.getElem?_eq_some_iff.1 b).1
  have f0 := fX_0 (r := r) (C := C) F.L.length F.used F.held
  refine W_quiet0 (m := M75) rfl rfl (by simp [AV.lts, AV.lt]) rfl rfl hg ?_
  simp (maxDischargeDepth := 9) -implicitDefEqProofs only [push_cast, simprocAttr, M75, b, l, f0, Nat.zero_add]
theorem held_c (hg : Good h) (a : FilAt h p F r C) : W CP 42 [.ptr p 0] h = some (.bool F.held, h, []) := by
  have b := a.blk
  have l := (List.getElem?_eq_some_iff.1 b).1
  have eN := fnone_c hg a
  have f27 := fX_27 (r := r) a.len F.L.length F.used F.held
  refine W_quiet0 (m := M42) rfl rfl (by simp [AV.lts, AV.lt]) rfl rfl hg ?_
  simp (maxDischargeDepth := 9) -implicitDefEqProofs only [push_cast, simprocAttr, M42, b, l, eN, f27, Nat.zero_add]
theorem toInts_map : ∀ C : List Int, toInts .i64 (C.map (AV.int .i64)) = some C
  | [] => rfl
  | c :: C => by simp [toInts, toInts_map C]
/-- What Row lays. -/
def rowJ (L : List Sp) : AHeap := if L = [] then [⟨.tip false, .ints .i64 []⟩] else [⟨.tip false, .ints .i64 []⟩, ⟨.tip false, .ints .i64 (flat3 L)⟩]
def rowV (n : Nat) (L : List Sp) : AV := if L = [] then .sl n 0 0 0 else .gsl (n + 1) 0 L.length 3 false
theorem row_rv (h : AHeap) (L : List Sp) : RV (h ++ rowJ L) (rowV h.length L) L h.length := by
  unfold rowJ rowV
  by_cases c : L = []
  · subst c
    rw [if_pos rfl, if_pos rfl]
    exact ⟨h.length, false, Nat.le_refl _, by rw [fend, flat3_nil], Or.inr rfl⟩
  · rw [if_neg c, if_neg c]
    exact ⟨h.length + 1, false, by omega, fend1 _ _ _ _, Or.inl rfl⟩
theorem row_good (hg : Good h) (L : List Sp) : Good (h ++ rowJ L) := by
  unfold rowJ
  split <;> exact good_app hg rfl
theorem fclone_c (hg : Good h) (a : FilAt h p F r C) : W CP 81 [.sl p 1 F.L.length 8] h = some (rowV h.length F.L, h ++ rowJ F.L, []) := by
  have b := a.blk
  have l := (List.getElem?_eq_some_iff.1 b).1
  have hle := a.le
  have hC := a.len
  unfold rowV rowJ
  have eX : newCells (h ++ [⟨.tip false, .ints .i64 []⟩]) (.ints .i64 [0, 0, 0]) (.sl p 1 F.L.length 8) = some (.vals ((flat3 F.L).map (AV.int .i64))) := by
    have hc : cellsAt (h ++ [(⟨.tip false, .ints .i64 []⟩ : ABlk)]) p = some (.vals (fX r C F.L.length F.used F.held)) := by
      simp [cellsAt, List.getElem?_append_left l, b]
    simp only [newCells, sliceCells, hc, ACells.len, ACells.sub, List.length_cons, List.length_nil, Option.bind_some, fX_len hC]
    rw [if_pos (by omega), ← a.tk]
    congr 1
    congr 1
    unfold fX
    rw [show (1 : Nat) = 0 + 1 from rfl, List.drop_succ_cons, List.drop_zero, List.take_append_of_le_length (by simp [hC]; omega), List.map_take]
  by_cases c : F.L = []
  · have hn : F.L.length = 0 := by rw [c]; rfl
    rw [if_pos c, if_pos c]
    rw [hn] at eX ⊢
    have eA : aappend (h ++ [⟨.tip false, .ints .i64 []⟩]) (.ints .i64 [0, 0, 0]) 24 (.sl h.length 0 0 0) (.vals ((flat3 F.L).map (AV.int .i64))) 0 = some (.sl h.length 0 0 0, h ++ [⟨.tip false, .ints .i64 []⟩], [h.length]) := by
      rw [c, flat3_nil]
      have hcg : change (h ++ [(⟨.tip false, .ints .i64 []⟩ : ABlk)]) h.length (fun c => storeL c 0 []) = some (h ++ [⟨.tip false, .ints .i64 []⟩]) := by
        simp [change, storeL]
      simp [aappend, ACells.len, ACells.list, hcg]
    have key : xbody (W CP) M81 [.sl p 1 0 8] h = some (.sl h.length 0 0 0, h ++ [⟨.tip false, .ints .i64 []⟩], []) := by
      have hself : ¬ h.length < h.length := Nat.lt_irrefl _
      simp (maxDischargeDepth := 9) -implicitDefEqProofs only [push_cast, simprocAttr, M81, eX, eA, hself]
    rw [W_body (m := M81) rfl rfl (by simp [AV.lts, AV.lt]) key, show (M81).trim = true from rfl, if_pos rfl, trim_addr (by simp [AV.lt])]
  · have hn : ¬ F.L.length = 0 := fun e => c (List.length_eq_zero_iff.1 e)
    rw [if_neg c, if_neg c]
    obtain ⟨m, hm⟩ : ∃ m, F.L.length = m := ⟨_, rfl⟩
    rw [hm] at eX hn hle ⊢
    have eA : aappend (h ++ [⟨.tip false, .ints .i64 []⟩]) (.ints .i64 [0, 0, 0]) 24 (.sl h.length 0 0 0) (.vals ((flat3 F.L).map (AV.int .i64))) m = some (.gsl (h.length + 1) 0 m 3 false, h ++ [⟨.tip false, .ints .i64 []⟩, ⟨.tip false, .ints .i64 (flat3 F.L)⟩], []) := by
      have hp : ¬ 0 + m ≤ 0 := by omega
      have hr : room m 24 = true := by simp only [room, decide_eq_true_eq]; omega
      have e1 : sliceCells (h ++ [(⟨.tip false, .ints .i64 []⟩ : ABlk)]) (ACells.ints .i64 [0, 0, 0]).len (.sl h.length 0 0 0) = some (.ints .i64 []) := by
        simp [sliceCells, cellsAt, ACells.len, ACells.sub]
      simp only [aappend, if_neg hp]
      rw [e1]
      simp [ACells.app, toInts_map, hr, ACells.len]
    have key : xbody (W CP) M81 [.sl p 1 m 8] h = some (.gsl (h.length + 1) 0 m 3 false, h ++ [⟨.tip false, .ints .i64 []⟩, ⟨.tip false, .ints .i64 (flat3 F.L)⟩], []) := by
      simp (maxDischargeDepth := 9) -implicitDefEqProofs only [push_cast, simprocAttr, M81, nadd1, nadd2, nadd3, nadd4, nadd5, nadd6, nadd7, nadd8, nadd9, nadd10, nadd11, nadd12, eX, eA]
    rw [W_body (m := M81) rfl rfl (by simp [AV.lts, AV.lt]) key, show (M81).trim = true from rfl, if_pos rfl, trim_addr (by simp [AV.lt])]
theorem frow_c (hg : Good h) (a : FilAt h p F r C) : W CP 41 [.ptr p 0] h = some (rowV h.length F.L, h ++ rowJ F.L, []) := by
  have b := a.blk
  have l := (List.getElem?_eq_some_iff.1 b).1
  have hle := a.le
  have eN := fnone_c hg a
  have eC := fclone_c hg a
  have f25 := fX_25 (r := r) a.len F.L.length F.used F.held
  have nv := (row_rv h F.L).na
  have hn : ¬ h.length ≤ p := by omega
  have key : xbody (W CP) M41 [.ptr p 0] h = some (rowV h.length F.L, h ++ rowJ F.L, []) := by
    simp (maxDischargeDepth := 9) -implicitDefEqProofs only [push_cast, simprocAttr, M41, b, l, eN, f25, hle, eC, nv, hn, decide_false, Bool.not_false, Bool.and_true, Nat.zero_add, Nat.zero_mul, Nat.add_zero, Nat.sub_zero]
  have ht := (row_rv h F.L).ltn
  rw [W_body (m := M41) rfl rfl (by simp [AV.lts, AV.lt]) key, show (M41).trim = true from rfl, if_pos rfl, trim_addr ht]
end
end Go.Proofs.YthcjmmngenogmaaW.AI.E
namespace Go.Proofs.YthcjmmngenogmaaW.AI.E
open Go Go.Proofs.YthcjmmngenogmaaW.AI
set_option maxRecDepth 100000
set_option linter.unusedSimpArgs false
set_option linter.unusedVariables false
set_option linter.unusedSectionVars false
def age1 (t f raw : Int) (s : Sp) : Sp := (raw, bro (s.2.1 + downV t f (raw - s.1)), bro (s.2.2 + upV t f (raw - s.1)))
def canA (raw : Int) (s : Sp) : Prop := mayS s.1 s.2.1 s.2.2 = true ∧ s.1 ≤ raw ∧ raw ≤ 4611686018427387904
def canL (F : FS) (raw : Int) : Prop := F.L ≠ [] ∧ ∀ s ∈ F.L, canA raw s
abbrev ageL (F : FS) (raw : Int) : List Sp := F.L.map (age1 F.t F.f raw)
section
variable {h : AHeap} {p r : Nat} {C : List Int} {F : FS}
theorem aged_walk (hg : Good h) (a : FilAt h p F r C) (raw : Int) : Wp (xbody (W CP) M78 [.ptr p 0, .int .i64 raw] h) fun q =>
    (canL F raw → (∃ v js, q = (.tup [v, .bool true], h ++ js, []) ∧ RV (h ++ js) v (ageL F raw) h.length ∧ Good (h ++ js))) ∧ (¬ canL F raw → ∃ js, q = (.tup [.nils, .bool false], h ++ js, [])) := by
  have b := a.blk
  have l := (List.getElem?_eq_some_iff.1 b).1
  have hC := a.len
  have hle := a.le
  have eN := fnone_c hg a
  have eR := frow_c hg a
  have f25 := fX_25 (r := r) hC F.L.length F.used F.held
  have f0 := fX_0 (r := r) (C := C) F.L.length F.used F.held
  by_cases c : F.L = []
  · have hn : F.L.length = 0 := by rw [c]; rfl
    have hno : ¬ canL F raw := fun e => e.1 c
    have hz : ((F.L.length : Nat) : Int) = 0 := by omega
    have fin : ∀ q, q = (AV.tup [.nils, .bool false], h, ([] : List Nat)) → (canL F raw → (∃ v js, q = (.tup [v, .bool true], h ++ js, []) ∧ RV (h ++ js) v (ageL F raw) h.length ∧ Good (h ++ js))) ∧ (¬ canL F raw → ∃ js, q = (.tup [.nils, .bool false], h ++ js, [])) :=
      fun q e => ⟨fun k => absurd k hno, fun _ => ⟨[], by rw [e, List.append_nil]⟩⟩
    refine Wp.mono (Q := fun q => q = (AV.tup [.nils, .bool false], h, ([] : List Nat))) ?_ fin
    simp (maxDischargeDepth := 9) -implicitDefEqProofs only [push_cast, simprocAttr, M78, b, l, eN, f25, hz, Nat.zero_add]
  · have hz : ¬ ((F.L.length : Nat) : Int) = 0 := fun e => c (List.length_eq_zero_iff.1 (by omega))
    have rv := row_rv h F.L
    have hG1 := row_good hg F.L
    have k1 : Keeps h (h ++ rowJ F.L) none := keepsG hG1
    have hv : rowV h.length F.L = .gsl (h.length + 1) 0 F.L.length 3 false := if_neg c
    have hb : (h ++ rowJ F.L)[h.length + 1]? = some ⟨.tip false, .ints .i64 (flat3 F.L)⟩ := by
      unfold rowJ
      rw [if_neg c]
      exact fend1 _ _ _ _
    rw [hv] at eR
    obtain ⟨H, hH⟩ : ∃ H, h ++ rowJ F.L = H := ⟨_, rfl⟩
    rw [hH] at eR hG1 k1 hb
    clear rv hv hH
    obtain ⟨m, hm⟩ : ∃ m, F.L.length = m := ⟨_, rfl⟩
    rw [hm] at hz f25 f0 eR hle
    have b1 := keepsN k1 _ _ b
    rw [hm] at b b1
    simp (maxDischargeDepth := 9) -implicitDefEqProofs only [push_cast, simprocAttr, M78, nadd1, nadd2, nadd3, nadd4, nadd5, nadd6, nadd7, nadd8, nadd9, nadd10, nadd11, nadd12, b, l, eN, f25, hz, eR, Nat.zero_add]
    refine wp_kRes (wp_kSeq (wp_kBlock ?_))
    refine wp_loop (fun k x h' ws => ∃ i : Nat, k = m - i ∧ i ≤ m ∧ x = [(0, .ptr p 0), (1, .int .i64 raw), (6, .gsl (h.length + 1) 0 m 3 false), (22, .gsl (h.length + 1) 0 m 3 false), (23, .int .i64 (m : Int)), (24, .int .i64 (i : Int))] ∧
      h'[h.length + 1]? = some ⟨.tip false, .ints .i64 (flat3 ((F.L.take i).map (age1 F.t F.f raw) ++ F.L.drop i))⟩ ∧ Keeps h h' none ∧ (∀ s ∈ F.L.take i, canA raw s) ∧ ws = []) m ?_ ?_
    · refine ⟨0, by omega, by omega, ?_, by simpa using hb, k1, by simp, rfl⟩
      simp (maxDischargeDepth := 9) -implicitDefEqProofs only [push_cast, simprocAttr]; try rfl
    · rintro k xx h' ws ⟨i, rfl, hi, rfl, bR, kh, hcan, rfl⟩
      have hgh := kh.2.2 hg
      have v1 : IntKind.i64.wrap ((i : Int) + 1) = (i : Int) + 1 := wr_i64 _ (by omega) (by omega)
      by_cases hlt : i < m
      · have hlt' : (i : Int) < (m : Int) := by omega
        obtain ⟨s, hs⟩ : ∃ s, F.L[i]? = some s := ⟨_, List.getElem?_eq_getElem (by omega)⟩
        have hsm := List.mem_of_getElem? hs
        have hti : ((F.L.take i).map (age1 F.t F.f raw)).length = i := by rw [List.length_map, List.length_take]; omega
        have hgi : ((F.L.take i).map (age1 F.t F.f raw) ++ F.L.drop i)[i]? = some s := by
          rw [List.getElem?_append_right (by omega), hti, Nat.sub_self, List.getElem?_drop, Nat.add_zero, hs]
        obtain ⟨g1, g2, g3⟩ := flat3_get hgi
        have hset := flat3_set (t := age1 F.t F.f raw s) hgi
        have hnext : ((F.L.take i).map (age1 F.t F.f raw) ++ F.L.drop i).set i (age1 F.t F.f raw s) = (F.L.take (i + 1)).map (age1 F.t F.f raw) ++ F.L.drop (i + 1) := by
          rw [List.set_append_right _ _ (by omega), hti, Nat.sub_self, List.take_add_one, hs, List.map_append, List.append_assoc]
          congr 1
          rw [List.drop_eq_getElem_cons (show i < F.L.length by omega), List.set_cons_zero]
          rfl
        rw [hnext] at hset
        obtain ⟨R, hR⟩ : ∃ R, flat3 ((F.L.take i).map (age1 F.t F.f raw) ++ F.L.drop i) = R := ⟨_, rfl⟩
        rw [hR] at bR g1 g2 g3 hset
        have lR := (List.getElem?_eq_some_iff.1 bR).1
        have d1 := keepsN kh _ _ b
        have d1l := (List.getElem?_eq_some_iff.1 d1).1
        have rl := (a.kept kh).rul
        obtain ⟨x, y, z⟩ := s
        simp only at g1 g2 g3
        obtain ⟨Y1, hY1⟩ : ∃ Y, h' ++ [ABlk.new (.ints .i64 [0, 0, 0])] = Y := ⟨_, rfl⟩
        have kY1 : Keeps h' Y1 none := by rw [← hY1]; exact Keeps.app h' [⟨.tip false, .ints .i64 [0, 0, 0]⟩] none rfl
        have bY1 : Y1[h'.length]? = some ⟨.tip false, .ints .i64 [0, 0, 0]⟩ := by rw [← hY1]; exact fend _ _ _
        have lY1 := (List.getElem?_eq_some_iff.1 bY1).1
        obtain ⟨H1, hH1⟩ : ∃ H, Y1.set h'.length ⟨.tip false, .ints .i64 [x, y, z]⟩ = H := ⟨_, rfl⟩
        have kH1 : Keeps h' H1 none := by rw [← hH1]; exact keepsS kY1 (Nat.le_refl _) rfl
        have bH1 : H1[h'.length]? = some ⟨.tip false, .ints .i64 [x, y, z]⟩ := by rw [← hH1]; exact List.getElem?_set_self lY1
        have lH1 := (List.getElem?_eq_some_iff.1 bH1).1
        have e1 := keepsN kH1 _ _ d1
        have e1l := (List.getElem?_eq_some_iff.1 e1).1
        have hlo : ¬ h'.length < h.length := by have := kh.2.1; omega
        have eA := Ruler_Age (a := x) (l := y) (u := z) (raw := raw) (kH1.2.2 hgh) ((a.kept (keepsT kh kH1)).rul)
        obtain ⟨Y2, hY2⟩ : ∃ Y, H1 ++ [ABlk.new (.ints .i64 [0, 0, 0])] = Y := ⟨_, rfl⟩
        have kY2 : Keeps H1 Y2 none := by rw [← hY2]; exact Keeps.app H1 [⟨.tip false, .ints .i64 [0, 0, 0]⟩] none rfl
        have bY2 : Y2[H1.length]? = some ⟨.tip false, .ints .i64 [0, 0, 0]⟩ := by rw [← hY2]; exact fend _ _ _
        have lY2 := (List.getElem?_eq_some_iff.1 bY2).1
        have hlo2 : ¬ H1.length < h.length := by have := kH1.2.1; omega
        by_cases hc : canA raw (x, y, z)
        · have hc' : mayS x y z = true ∧ x ≤ raw ∧ raw ≤ 4611686018427387904 := hc
          rw [if_pos hc'] at eA
          obtain ⟨A1, hA1⟩ : ∃ w, bro (y + downV F.t F.f (raw - x)) = w := ⟨_, rfl⟩
          obtain ⟨A2, hA2⟩ : ∃ w, bro (z + upV F.t F.f (raw - x)) = w := ⟨_, rfl⟩
          have hage : age1 F.t F.f raw (x, y, z) = (raw, A1, A2) := by unfold age1; rw [← hA1, ← hA2]
          rw [hA1, hA2] at eA
          rw [hage] at hset
          simp only at hset
          obtain ⟨H2, hH2⟩ : ∃ H, Y2.set H1.length ⟨.tip false, .ints .i64 [raw, A1, A2]⟩ = H := ⟨_, rfl⟩
          have kH2 : Keeps H1 H2 none := by rw [← hH2]; exact keepsS kY2 (Nat.le_refl _) rfl
          have bH2 : H2[H1.length]? = some ⟨.tip false, .ints .i64 [raw, A1, A2]⟩ := by rw [← hH2]; exact List.getElem?_set_self lY2
          have lH2 := (List.getElem?_eq_some_iff.1 bH2).1
          have bR2 := keepsN (keepsT kH1 kH2) _ _ bR
          have lR2 := (List.getElem?_eq_some_iff.1 bR2).1
          have r1 : i * 3 < R.length := (List.getElem?_eq_some_iff.1 g1).1
          have r2 : i * 3 + 1 < R.length := (List.getElem?_eq_some_iff.1 g2).1
          have r3 : i * 3 + 2 < R.length := (List.getElem?_eq_some_iff.1 g3).1
          have hb1 : ¬ h.length + 1 < h.length := by omega
          simp (maxDischargeDepth := 9) -implicitDefEqProofs only [push_cast, simprocAttr, nadd1, nadd2, nadd3, nadd4, nadd5, nadd6, nadd7, nadd8, nadd9, nadd10, nadd11, nadd12, hlt, hlt', v1, bR, lR, g1, g2, g3, hY1, bY1, lY1, hH1, bH1, lH1, e1, e1l, f0, eA, hY2, bY2, lY2, hH2, bH2, lH2, bR2, lR2, r1, r2, r3, hlo, hlo2, hb1, hset, Nat.zero_add, List.length_set, Nat.add_assoc, Nat.reduceAdd]
          refine loop_next (m - (i + 1)) (by omega) ⟨i + 1, rfl, by omega, ?_, List.getElem?_set_self lR2, keepsS (keepsT kh (keepsT kH1 kH2)) (by omega) rfl, ?_, rfl⟩
          · simp (maxDischargeDepth := 9) -implicitDefEqProofs only [push_cast, simprocAttr]; try simp
          · intro s hs'
            rw [List.take_add_one, hs] at hs'
            rcases List.mem_append.1 hs' with h | h
            · exact hcan s h
            · simp at h
              subst h
              exact hc
        · have hc' : ¬ (mayS x y z = true ∧ x ≤ raw ∧ raw ≤ 4611686018427387904) := hc
          rw [if_neg hc'] at eA
          obtain ⟨H2, hH2⟩ : ∃ H, Y2.set H1.length ⟨.tip false, .ints .i64 [0, 0, 0]⟩ = H := ⟨_, rfl⟩
          have kH2 : Keeps H1 H2 none := by rw [← hH2]; exact keepsS kY2 (Nat.le_refl _) rfl
          have hno : ¬ canL F raw := fun e => hc (e.2 _ hsm)
          obtain ⟨js, hj⟩ := (keepsT kh (keepsT kH1 kH2)).behind
          simp (maxDischargeDepth := 9) -implicitDefEqProofs only [push_cast, simprocAttr, nadd1, nadd2, nadd3, nadd4, nadd5, nadd6, nadd7, nadd8, nadd9, nadd10, nadd11, nadd12, hlt, hlt', v1, bR, lR, g1, g2, g3, hY1, bY1, lY1, hH1, bH1, lH1, e1, e1l, f0, eA, hY2, bY2, lY2, hH2, hlo, hlo2, Nat.zero_add]
          exact ⟨fun e => absurd e hno, fun _ => ⟨js, by rw [hj]⟩⟩
      · have hi2 : i = m := by omega
        subst hi2
        have hnl : ¬ (i : Int) < (i : Int) := by omega
        have hyes : canL F raw := ⟨c, fun s hs => hcan s (by rw [← hm, List.take_length]; exact hs)⟩
        obtain ⟨js, hj⟩ := kh.behind
        rw [← hm, List.take_length, List.drop_length, List.append_nil] at bR
        simp (maxDischargeDepth := 9) -implicitDefEqProofs only [push_cast, simprocAttr, nadd1, nadd2, nadd3, nadd4, nadd5, nadd6, nadd7, nadd8, nadd9, nadd10, nadd11, nadd12, hnl]
        refine ⟨fun _ => ⟨_, js, by rw [hj], ?_, by rw [← hj]; exact hgh⟩, fun e => absurd hyes e⟩
        exact ⟨h.length + 1, false, by omega, by rw [← hj]; exact bR, Or.inl (by rw [List.length_map, hm])⟩
theorem aged_ok {raw : Int} (hg : Good h) (a : FilAt h p F r C) (hc : canL F raw) : ∃ v js, W CP 78 [.ptr p 0, .int .i64 raw] h = some (.tup [v, .bool true], h ++ js, []) ∧ RV (h ++ js) v (ageL F raw) h.length ∧ Good (h ++ js) := by
  obtain ⟨q, e, h1, _⟩ := aged_walk hg a raw
  obtain ⟨v, js, rfl, rv, hG⟩ := h1 hc
  refine ⟨v, js, ?_, rv, hG⟩
  have ht := rv.ltn
  rw [W_body (m := M78) rfl rfl (by simp [AV.lts, AV.lt]) e, show (M78).trim = true from rfl, if_pos rfl, trim_addr (by simp [AV.lt, AV.lts, ht])]
theorem aged_no {raw : Int} (hg : Good h) (a : FilAt h p F r C) (hc : ¬ canL F raw) : W CP 78 [.ptr p 0, .int .i64 raw] h = some (.tup [.nils, .bool false], h, []) := by
  obtain ⟨q, e, _, h1⟩ := aged_walk hg a raw
  obtain ⟨js, rfl⟩ := h1 hc
  exact W_quiet (m := M78) (js := js) rfl rfl (by simp [AV.lts, AV.lt]) rfl rfl hg e
-- ------------------------------------------------------------------ the best one
def wS (s : Sp) : Int := widS s.1 s.2.1 s.2.2
def wAt (L : List Sp) (i : Nat) : Int := match L[i]? with | some s => wS s | none => 0
def bestN (L : List Sp) : Nat → Nat
  | 0 => 0
  | i + 1 => if wAt L i < wAt L (bestN L i) then i else bestN L i
theorem bestN_lt {L : List Sp} {n : Nat} (hn : 0 < n) : ∀ i : Nat, i ≤ n → bestN L i < n
  | 0, _ => hn
  | i + 1, h => by
    simp only [bestN]
    split
    · omega
    · exact bestN_lt hn i (by omega)
theorem better_c {L : List Sp} {n c1 c2 k i : Nat} {v : AV} {s t : Sp} (hg : Good h) (u : RV h v L n) (b1 : h[c1]? = some ⟨.tip false, .vals [v]⟩) (b2 : h[c2]? = some ⟨.tip false, .ints .i64 [(i : Int)]⟩) (hk : L[k]? = some s) (hi : L[i]? = some t) :
    W CP 103 [.int .i64 (k : Int), .ptr c1 0, .ptr c2 0] h = some (.bool (decide (wS s < wS t)), h, []) := by
  have l1 := (List.getElem?_eq_some_iff.1 b1).1
  have l2 := (List.getElem?_eq_some_iff.1 b2).1
  have nv := u.na
  obtain ⟨b, x1, x2, x3, x4, o, c, x5⟩ := u.at hk
  obtain ⟨b', y1, y2, y3, y4, o', c', y5⟩ := u.at hi
  have e1 := fun g => span_Width (a := s.1) (l := s.2.1) (u := s.2.2) g
  have e2 := fun g => span_Width (a := t.1) (l := t.2.1) (u := t.2.2) g
  have n1 : ¬ h.length ≤ c1 := by omega
  have n2 : ¬ h.length ≤ c2 := by omega
  have n3 : ¬ h.length ≤ b' := by omega
  have n4 : ¬ h.length ≤ b := by omega
  unfold wS
  obtain ⟨w1, hw1⟩ : ∃ w, widS s.1 s.2.1 s.2.2 = w := ⟨_, rfl⟩
  obtain ⟨w2, hw2⟩ : ∃ w, widS t.1 t.2.1 t.2.2 = w := ⟨_, rfl⟩
  rw [hw1] at e1 ⊢
  rw [hw2] at e2 ⊢
  refine W_quiet0 (m := M103) rfl rfl (by simp [AV.lts, AV.lt]) rfl rfl hg ?_
  simp (maxDischargeDepth := 9) -implicitDefEqProofs only [push_cast, simprocAttr, M103, b1, l1, b2, l2, nv, ↓uia_eq, x1, ↓uld_eq 7, x2, e1, y1, ↓uld_eq 12, y2, e2, n1, n2, n3, n4, x5, y5, decide_false, Bool.not_false, Bool.and_true]
theorem best_c {L : List Sp} {n : Nat} {v : AV} (hg : Good h) (u : RV h v L n) (hL : L ≠ []) (h8 : L.length ≤ 8) : W CP 79 [v] h = some (.int .i64 (bestN L L.length : Int), h, []) := by
  have nv := u.na
  have lv := u.len
  have ht0 := u.lt0
  have cv := u.cell
  have h0 : 0 < L.length := List.length_pos_iff.2 hL
  obtain ⟨m, hm⟩ : ∃ m, L.length = m := ⟨_, rfl⟩
  rw [hm] at lv h8 h0 ⊢
  refine W_quietP (m := M79) rfl rfl (by simp [AV.lts, ht0]) rfl rfl hg ?_
  have hY : (h ++ [(⟨.tip false, .vals [v]⟩ : ABlk), ⟨.tip false, .ints .i64 [0]⟩]).set (h.length + 1) ⟨.tip false, .ints .i64 [0]⟩ = h ++ [⟨.tip false, .vals [v]⟩, ⟨.tip false, .ints .i64 [0]⟩] := by
    rw [List.set_append_right _ _ (by omega), show h.length + 1 - h.length = 1 by omega]; rfl
  have walk : Wp (xbody (W CP) M79 [v] h) (Quiet h (.int .i64 (bestN L m : Int))) := by
    obtain ⟨b, o, hb, eb, hvv⟩ := id u
    have hnl : ¬ h.length + 1 < h.length := by omega
    rcases hvv with rfl | rfl
    all_goals
      simp (maxDischargeDepth := 9) -implicitDefEqProofs only [push_cast, simprocAttr, M79, nadd1, nadd2, nadd3, nadd4, nadd5, nadd6, nadd7, nadd8, nadd9, nadd10, nadd11, nadd12, nv, lv, hY, hm, hnl]
      refine wp_kRes (wp_kSeq (wp_kBlock ?_))
      refine wp_loop (fun k x h' ws => ∃ i : Nat, k = m - i ∧ i ≤ m ∧ x = [(3, .ptr (h.length + 1) 0), (4, .fn 103 [.ptr h.length 0, .ptr (h.length + 1) 0]), (8, .int .i64 (m : Int)), (9, .int .i64 (i : Int))] ∧
        (∃ v, (∃ H, H = h ++ [(⟨.tip false, .vals [v]⟩ : ABlk), ⟨.tip false, .ints .i64 [(bestN L i : Int)]⟩] ∧ h' = H) ∧ RV h v L n) ∧ ws = []) m ?_ ?_
      · refine ⟨0, by omega, by omega, ?_, ⟨_, ⟨_, rfl, ?_⟩, u⟩, rfl⟩
        · simp (maxDischargeDepth := 9) -implicitDefEqProofs only [push_cast, simprocAttr]; try rfl
        · rw [← hm]; rfl
      · rintro k xx h' ws ⟨i, rfl, hi, rfl, ⟨v, ⟨H, hH, hh⟩, u⟩, rfl⟩
        obtain rfl : h' = H := hh
        have v1 : IntKind.i64.wrap ((i : Int) + 1) = (i : Int) + 1 := wr_i64 _ (by omega) (by omega)
        have b1 : h'[h.length]? = some ⟨.tip false, .vals [v]⟩ := by rw [hH]; exact fend _ _ _
        have b2 : h'[h.length + 1]? = some ⟨.tip false, .ints .i64 [(bestN L i : Int)]⟩ := by rw [hH]; exact fend1 _ _ _ _
        have l1 := (List.getElem?_eq_some_iff.1 b1).1
        have l2 := (List.getElem?_eq_some_iff.1 b2).1
        have hgh : Good h' := by rw [hH]; exact good_app hg rfl
        have u' : RV h' v L n := by rw [hH]; exact u.app _
        by_cases hlt : i < m
        · have hlt' : (i : Int) < (m : Int) := by omega
          obtain ⟨s, hs⟩ : ∃ s, L[i]? = some s := ⟨_, List.getElem?_eq_getElem (by omega)⟩
          have hbl := bestN_lt (L := L) h0 i hi
          obtain ⟨t, ht⟩ : ∃ s, L[bestN L i]? = some s := ⟨_, List.getElem?_eq_getElem (by omega)⟩
          have eB := better_c hgh u' b1 b2 hs ht
          have hnx : bestN L (i + 1) = if wS s < wS t then i else bestN L i := by simp only [bestN, wAt, hs, ht]
          by_cases hw : wS s < wS t
          · rw [decide_eq_true hw] at eB
            rw [if_pos hw] at hnx
            have hset : h'.set (h.length + 1) ⟨.tip false, .ints .i64 [(i : Int)]⟩ = h ++ [⟨.tip false, .vals [v]⟩, ⟨.tip false, .ints .i64 [(i : Int)]⟩] := by
              rw [hH, List.set_append_right _ _ (by omega), show h.length + 1 - h.length = 1 by omega]; rfl
            simp (maxDischargeDepth := 9) -implicitDefEqProofs only [push_cast, simprocAttr, nadd1, nadd2, nadd3, nadd4, nadd5, nadd6, nadd7, nadd8, nadd9, nadd10, nadd11, nadd12, hlt', v1, eB, b2, l2, hset, hnl]
            refine loop_next (m - (i + 1)) (by omega) ⟨i + 1, rfl, by omega, ?_, ⟨v, ⟨_, rfl, by rw [hnx]⟩, u⟩, rfl⟩
            simp (maxDischargeDepth := 9) -implicitDefEqProofs only [push_cast, simprocAttr]; try simp
          · rw [decide_eq_false hw] at eB
            rw [if_neg hw] at hnx
            simp (maxDischargeDepth := 9) -implicitDefEqProofs only [push_cast, simprocAttr, nadd1, nadd2, nadd3, nadd4, nadd5, nadd6, nadd7, nadd8, nadd9, nadd10, nadd11, nadd12, hlt', v1, eB]
            refine loop_next (m - (i + 1)) (by omega) ⟨i + 1, rfl, by omega, ?_, ⟨v, ⟨_, rfl, by rw [hnx]; exact hH⟩, u⟩, rfl⟩
            simp (maxDischargeDepth := 9) -implicitDefEqProofs only [push_cast, simprocAttr]; try simp
        · have hi2 : i = m := by omega
          subst hi2
          have hnl2 : ¬ (i : Int) < (i : Int) := by omega
          obtain ⟨N, hN⟩ : ∃ N, bestN L i = N := ⟨_, rfl⟩
          rw [hN] at b2 hH ⊢
          simp (maxDischargeDepth := 9) -implicitDefEqProofs only [push_cast, simprocAttr, nadd1, nadd2, nadd3, nadd4, nadd5, nadd6, nadd7, nadd8, nadd9, nadd10, nadd11, nadd12, hnl2, b2, l2]
          exact ⟨rfl, ⟨_, hH⟩, rfl⟩
  exact walk
/-- The best, aged. -/
theorem ageL_len (F : FS) (raw : Int) : (ageL F raw).length = F.L.length := List.length_map _
theorem Best_ok {raw : Int} (hg : Good h) (a : FilAt h p F r C) (hc : canL F raw) : ∃ s, (ageL F raw)[bestN (ageL F raw) F.L.length]? = some s ∧ W CP 35 [.ptr p 0, .int .i64 raw] h = some (.tup [spV s, .bool true], h, []) := by
  have hn : ageL F raw ≠ [] := fun e => hc.1 (List.map_eq_nil_iff.1 e)
  have h8 : (ageL F raw).length ≤ 8 := by rw [ageL_len]; exact a.le
  have h0 : 0 < F.L.length := List.length_pos_iff.2 hc.1
  have hbl := bestN_lt (L := ageL F raw) h0 F.L.length (Nat.le_refl _)
  obtain ⟨s, hs⟩ : ∃ s, (ageL F raw)[bestN (ageL F raw) F.L.length]? = some s := ⟨_, List.getElem?_eq_getElem (by rw [ageL_len]; exact hbl)⟩
  refine ⟨s, hs, ?_⟩
  have a1 := a.app [⟨.tip false, .ints .i64 [0, 0, 0]⟩]
  have hg1 : Good (h ++ [⟨.tip false, .ints .i64 [0, 0, 0]⟩]) := good_app hg rfl
  obtain ⟨v, js, eA, rv, hG⟩ := aged_ok hg1 a1 hc
  have k := keepsG hG
  have b0 : (h ++ [(⟨.tip false, .ints .i64 [0, 0, 0]⟩ : ABlk)])[h.length]? = some ⟨.tip false, .ints .i64 [0, 0, 0]⟩ := fend _ _ _
  have b1 := keepsN k _ _ b0
  obtain ⟨H, hH⟩ : ∃ H, h ++ [(⟨.tip false, .ints .i64 [0, 0, 0]⟩ : ABlk)] ++ js = H := ⟨_, rfl⟩
  rw [hH] at eA rv hG b1
  have l1 := (List.getElem?_eq_some_iff.1 b1).1
  have eB := best_c hG rv hn h8
  rw [ageL_len] at eB
  obtain ⟨i, hi⟩ : ∃ i, bestN (ageL F raw) F.L.length = i := ⟨_, rfl⟩
  rw [hi] at eB hs
  have nv := rv.na
  obtain ⟨b, x1, x2, _, _⟩ := rv.at hs
  refine W_quietP (m := M35) rfl rfl (by simp [AV.lts, AV.lt]) rfl rfl hg ?_
  have hself : ¬ h.length < h.length := Nat.lt_irrefl _
  obtain ⟨x, y, z⟩ := s
  simp (maxDischargeDepth := 9) -implicitDefEqProofs only [push_cast, simprocAttr, M35, eA, nv, eB, ↓uia_eq, x1, ↓uld_eq 20, x2, b1, l1, hself]
  exact ⟨rfl, ⟨_, by rw [← hH, List.append_assoc, List.set_append_right _ _ (Nat.le_refl _)]⟩, rfl⟩
theorem Best_no {raw : Int} (hg : Good h) (a : FilAt h p F r C) (hc : ¬ canL F raw) : W CP 35 [.ptr p 0, .int .i64 raw] h = some (.tup [spA 0 0 0, .bool false], h, []) := by
  have a1 := a.app [⟨.tip false, .ints .i64 [0, 0, 0]⟩]
  have hg1 : Good (h ++ [⟨.tip false, .ints .i64 [0, 0, 0]⟩]) := good_app hg rfl
  have eA := aged_no hg1 a1 hc
  have hset : (h ++ [(⟨.tip false, .ints .i64 [0, 0, 0]⟩ : ABlk)]).set h.length ⟨.tip false, .ints .i64 [0, 0, 0]⟩ = h ++ [⟨.tip false, .ints .i64 [0, 0, 0]⟩] := by
    rw [List.set_append_right _ _ (Nat.le_refl _), Nat.sub_self]; rfl
  have hself : ¬ h.length < h.length := Nat.lt_irrefl _
  refine W_quietP (m := M35) rfl rfl (by simp [AV.lts, AV.lt]) rfl rfl hg ?_
  simp (maxDischargeDepth := 9) -implicitDefEqProofs only [push_cast, simprocAttr, M35, eA, hset, hself]
  exact quiet_i
end
end Go.Proofs.YthcjmmngenogmaaW.AI.E

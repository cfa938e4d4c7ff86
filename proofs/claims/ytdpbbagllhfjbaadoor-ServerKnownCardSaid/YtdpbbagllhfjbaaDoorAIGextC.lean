import Derived.Test.YtdpbbagllhfjbaaDoorAIGextB
namespace Go.Proofs.YtdpbbagllhfjbaaDoorW.AI.G
open Go Go.Proofs.YtdpbbagllhfjbaaDoorW.AI Go.Proofs.YtdpbbagllhfjbaaDoorW.AI.Oct
set_option maxRecDepth 100000
set_option linter.unusedSimpArgs false
set_option linter.unusedVariables false
set_option linter.unusedSectionVars false
def pr1 : MCode := .seq (.skip)
 (.seq (.seq (.reg [⟨some 9, .mv (.t 0), none⟩,
  ⟨some 10, .len none (.t 9), none⟩])
 (.block 0 [0, 5, 8]
 (.seq (.seq (.reg [⟨some 12, .bin .eql [] (.t 10) (.c (.int .i64 0)), none⟩,
  ⟨some 11, .mv (.t 12), none⟩])
 (.cond (.t 11)
 (.skip)
 (.reg [⟨some 13, .bin .eql [] (.t 10) (.c (.int .i64 12)), none⟩,
  ⟨some 11, .mv (.t 13), none⟩])))
 (.cond (.t 11)
 (.seq (.reg [⟨some 14, .mv (.t 5), none⟩,
  ⟨some 15, .mv (.t 0), none⟩,
  ⟨some 16, .call 67 [(.t 15)], none⟩,
  ⟨some 2, .mv (.t 14), none⟩,
  ⟨some 3, .mv (.t 16), none⟩,
  ⟨some 4, .mv (.c (.int .i64 0)), none⟩])
 (.ret))
 (.skip)))))
 (.seq (.seq (.reg [⟨some 17, .mv (.t 0), none⟩,
  ⟨some 18, .len none (.t 17), none⟩,
  ⟨some 19, .bin .lss [] (.t 18) (.c (.int .i64 16)), none⟩])
 (.cond (.t 19)
 (.goto 1)
 (.skip)))
 (.seq (.reg [⟨some 21, .bsl (.ints .i64 [0]) 2 1 [(0, 1, (.c (.int .i64 2))), (1, 1, (.c (.int .i64 2)))], none⟩,
  ⟨some 22, .mv (.t 0), none⟩,
  ⟨some 23, .call 39 [(.t 21), (.t 22)], none⟩,
  ⟨some 20, .mv (.t 23), none⟩,
  ⟨some 24, .ex 0 (.t 20), none⟩,
  ⟨some 25, .ex 1 (.t 20), none⟩,
  ⟨some 26, .ex 2 (.t 20), none⟩,
  ⟨some 6, .mv (.t 24), none⟩,
  ⟨some 0, .mv (.t 25), none⟩])
 (.seq (.reg [⟨some 27, .mv (.t 6), none⟩,
  ⟨some 28, .ia none 1 (.t 27) (.c (.int .i64 1)), none⟩,
  ⟨some 29, .ld none (.t 28), none⟩,
  ⟨some 30, .ci .i64 (.t 29), none⟩,
  ⟨some 31, .bin .sub [] (.t 30) (.c (.int .i64 4)), none⟩,
  ⟨some 7, .mv (.t 31), none⟩])
 (.seq (.block 1 [0, 5, 6, 7, 8]
 (.seq (.reg [⟨some 33, .mv (.t 7), none⟩,
  ⟨some 34, .call 68 [(.t 33)], none⟩,
  ⟨some 35, .un .not (.t 34), none⟩,
  ⟨some 32, .mv (.t 35), none⟩])
 (.cond (.t 32)
 (.seq (.reg [⟨some 8, .mv (.c (.int .i64 5)), none⟩])
 (.goto 1))
 (.seq (.reg [⟨some 37, .mv (.t 7), none⟩,
  ⟨some 38, .mv (.t 0), none⟩,
  ⟨some 39, .len none (.t 38), none⟩,
  ⟨some 40, .bin .gtr [] (.t 37) (.t 39), none⟩,
  ⟨some 36, .mv (.t 40), none⟩])
 (.cond (.t 36)
 (.goto 1)
 (.seq (.reg [⟨some 42, .mv (.t 5), none⟩,
  ⟨some 43, .len none (.t 42), none⟩,
  ⟨some 44, .bin .eql [] (.t 43) (.c (.int .i64 8)), none⟩,
  ⟨some 41, .mv (.t 44), none⟩])
 (.cond (.t 41)
 (.seq (.reg [⟨some 8, .mv (.c (.int .i64 7)), none⟩])
 (.goto 1))
 (.skip))))))))
 (.seq (.regd [(0, ⟨some 45, .mv (.t 5), none⟩),
  (1, ⟨some 46, .mv (.t 6), none⟩),
  (2, ⟨some 47, .ia none 1 (.t 46) (.c (.int .i64 0)), none⟩),
  (3, ⟨some 48, .ld none (.t 47), none⟩),
  (4, ⟨some 49, .ci .u16 (.t 48), none⟩),
  (5, ⟨some 50, .mv (.t 0), none⟩),
  (6, ⟨some 51, .mv (.t 7), none⟩),
  (7, ⟨some 52, .slc none 1 (.t 50) none (some (.t 51)) none, none⟩),
  (8, ⟨some 53, .call 67 [(.t 52)], none⟩),
  (9, ⟨some 54, .bld [(.int .u16 0), .nils] [(0, 1, (.t 49)), (1, 1, (.t 53))], none⟩),
  (10, ⟨some 55, .bsl (.vals [(.int .u16 0), .nils]) 1 2 [(0, 2, (.t 54))], none⟩),
  (11, ⟨some 56, .app (.vals [(.int .u16 0), .nils]) 32 (.t 45) (.t 55), none⟩),
  (12, ⟨some 5, .mv (.t 56), none⟩)] [(3, 8)])
 (.seq (.reg [⟨some 57, .mv (.t 0), none⟩,
  ⟨some 58, .mv (.t 7), none⟩,
  ⟨some 59, .slc none 1 (.t 57) (some (.t 58)) none none, none⟩,
  ⟨some 0, .mv (.t 59), none⟩])
 (.seq (.goto 0)
 (.seq (.skip)
 (.seq (.reg [⟨some 60, .mv (.t 8), none⟩,
  ⟨some 2, .mv (.c .nils), none⟩,
  ⟨some 3, .mv (.c .nils), none⟩,
  ⟨some 4, .mv (.t 60), none⟩])
 (.ret)))))))))))
def pr1' : MCode := .seq (.skip)
 (.seq (.seq (.reg [⟨some 9, .mv (.t 0), none⟩,
  ⟨some 10, .len none (.t 9), none⟩])
 (.block 0 [0, 5, 8]
 (.seq (.seq (.reg [⟨some 12, .bin .eql [] (.t 10) (.c (.int .i64 0)), none⟩,
  ⟨some 11, .mv (.t 12), none⟩])
 (.cond (.t 11)
 (.skip)
 (.reg [⟨some 13, .bin .eql [] (.t 10) (.c (.int .i64 12)), none⟩,
  ⟨some 11, .mv (.t 13), none⟩])))
 (.cond (.t 11)
 (.seq (.reg [⟨some 14, .mv (.t 5), none⟩,
  ⟨some 15, .mv (.t 0), none⟩,
  ⟨some 16, .call 67 [(.t 15)], none⟩,
  ⟨some 2, .mv (.t 14), none⟩,
  ⟨some 3, .mv (.t 16), none⟩,
  ⟨some 4, .mv (.c (.int .i64 0)), none⟩])
 (.ret))
 (.skip)))))
 (.seq (.seq (.reg [⟨some 17, .mv (.t 0), none⟩,
  ⟨some 18, .len none (.t 17), none⟩,
  ⟨some 19, .bin .lss [] (.t 18) (.c (.int .i64 16)), none⟩])
 (.cond (.t 19)
 (.goto 1)
 (.skip)))
 (.seq (.reg [⟨some 21, .bsl (.ints .i64 [0]) 2 1 [(0, 1, (.c (.int .i64 2))), (1, 1, (.c (.int .i64 2)))], none⟩,
  ⟨some 22, .mv (.t 0), none⟩,
  ⟨some 23, .call 39 [(.t 21), (.t 22)], none⟩,
  ⟨some 20, .mv (.t 23), none⟩,
  ⟨some 24, .ex 0 (.t 20), none⟩,
  ⟨some 25, .ex 1 (.t 20), none⟩,
  ⟨some 26, .ex 2 (.t 20), none⟩,
  ⟨some 6, .mv (.t 24), none⟩,
  ⟨some 0, .mv (.t 25), none⟩])
 (.seq (.reg [⟨some 27, .mv (.t 6), none⟩,
  ⟨some 28, .ia none 1 (.t 27) (.c (.int .i64 1)), none⟩,
  ⟨some 29, .ld none (.t 28), none⟩,
  ⟨some 30, .ci .i64 (.t 29), none⟩,
  ⟨some 31, .bin .sub [] (.t 30) (.c (.int .i64 4)), none⟩,
  ⟨some 7, .mv (.t 31), none⟩])
 (.seq (.block 1 [0, 5, 6, 7, 8]
 (.seq (.reg [⟨some 33, .mv (.t 7), none⟩,
  ⟨some 34, .call 68 [(.t 33)], none⟩,
  ⟨some 35, .un .not (.t 34), none⟩,
  ⟨some 32, .mv (.t 35), none⟩])
 (.cond (.t 32)
 (.seq (.reg [⟨some 8, .mv (.c (.int .i64 5)), none⟩])
 (.goto 1))
 (.seq (.reg [⟨some 37, .mv (.t 7), none⟩,
  ⟨some 38, .mv (.t 0), none⟩,
  ⟨some 39, .len none (.t 38), none⟩,
  ⟨some 40, .bin .gtr [] (.t 37) (.t 39), none⟩,
  ⟨some 36, .mv (.t 40), none⟩])
 (.cond (.t 36)
 (.goto 1)
 (.seq (.reg [⟨some 42, .mv (.t 5), none⟩,
  ⟨some 43, .len none (.t 42), none⟩,
  ⟨some 44, .bin .eql [] (.t 43) (.c (.int .i64 8)), none⟩,
  ⟨some 41, .mv (.t 44), none⟩])
 (.cond (.t 41)
 (.seq (.reg [⟨some 8, .mv (.c (.int .i64 7)), none⟩])
 (.goto 1))
 (.skip))))))))
 (.seq (.regd [(0, ⟨some 45, .mv (.t 5), none⟩),
  (1, ⟨some 46, .mv (.t 6), none⟩),
  (2, ⟨some 47, .ia none 1 (.t 46) (.c (.int .i64 0)), none⟩),
  (3, ⟨some 48, .ld none (.t 47), none⟩),
  (4, ⟨some 49, .ci .u16 (.t 48), none⟩),
  (5, ⟨some 50, .mv (.t 0), none⟩),
  (6, ⟨some 51, .mv (.t 7), none⟩),
  (7, ⟨some 52, .slc none 1 (.t 50) none (some (.t 51)) none, none⟩),
  (8, ⟨some 53, .call 67 [(.t 52)], none⟩),
  (9, ⟨some 54, .bld [(.int .u16 0), .nils] [(0, 1, (.t 49)), (1, 1, (.t 53))], none⟩),
  (10, ⟨some 55, .bsl (.vals [(.int .u16 0), .nils]) 1 2 [(0, 2, (.t 54))], none⟩),
  (11, ⟨some 56, .app (.vals [(.int .u16 0), .nils]) 32 (.t 45) (.t 55), none⟩),
  (12, ⟨some 5, .mv (.t 56), none⟩)] [(3, 8)])
 (.seq (.reg [⟨some 57, .mv (.t 0), none⟩,
  ⟨some 58, .mv (.t 7), none⟩,
  ⟨some 59, .slc none 1 (.t 57) (some (.t 58)) none none, none⟩,
  ⟨some 0, .mv (.t 59), none⟩])
 (.seq (.goto 0)
 (.seq (.skip)
 (.seq (.reg [⟨some 60, .mv (.t 8), none⟩,
  ⟨some 2, .mv (.c .nils), none⟩,
  ⟨some 3, .mv (.c .nils), none⟩,
  ⟨some 4, .mv (.t 60), none⟩])
 (.ret)))))))))))
def pr2 : MCode := .seq (.skip)
 (.seq (.reg [⟨some 60, .mv (.t 8), none⟩,
  ⟨some 2, .mv (.c .nils), none⟩,
  ⟨some 3, .mv (.c .nils), none⟩,
  ⟨some 4, .mv (.t 60), none⟩])
 (.ret))
theorem parse_parts : M38 = ⟨.seq (.reg [⟨some 2, .mv (.c .nils), none⟩,
  ⟨some 3, .mv (.c .nils), none⟩,
  ⟨some 4, .mv (.c (.int .i64 0)), none⟩])
 (.scope [0, 5, 8] 0
 (pr1) 1
 (pr2)
 (.seq (.reg [⟨some 5, .mv (.c .nils), none⟩])
 (.seq (.reg [⟨some 6, .mv (.c .nils), none⟩])
 (.seq (.reg [⟨some 7, .mv (.c (.int .i64 0)), none⟩])
 (.seq (.reg [⟨some 8, .mv (.c (.int .i64 4)), none⟩])
 (pr1)))))),
 [.tmp 2, .tmp 3, .tmp 4], true⟩ := rfl
def SV (h : AHeap) (x : AV) (D : List Int) : Prop := (x = .nils ∧ D = []) ∨ Src h x D
theorem SV.bv {h : AHeap} {x : AV} {D : List Int} (s : SV h x D) : BV h x D ∧ nilOf x ≠ none := by
  rcases s with ⟨rfl, rfl⟩ | s
  · exact ⟨BV.nil h, by simp [nilOf]⟩
  · refine ⟨s.bv, ?_⟩
    obtain ⟨_, b, o, c, st, l, _, _, _, _, ⟨rfl, _⟩ | rfl⟩ := s <;> simp [nilOf]
/-- The fields' bytes lie in blocks of their own. -/
def OwnX (h : AHeap) (v : AV) (l : List AV) (F : List (Int × List Int)) (n : Nat) : Prop := ∀ (i : Nat) (t : Int) (D : List Int), F[i]? = some (t, D) → ∃ p, l[i * 2 + 1]? = some (.gsl p 0 D.length 1 false) ∧ h[p]? = some ⟨.tip false, .ints .u8 D⟩ ∧ n ≤ p ∧ blkOf v ≠ some p
theorem OwnX.keeps {h h' : AHeap} {v : AV} {l : List AV} {F : List (Int × List Int)} {n : Nat} (e : OwnX h v l F n) (k : Keeps h h' none) : OwnX h' v l F n := fun i t D hi => by
  obtain ⟨p, h1, h2, h3, h4⟩ := e i t D hi
  exact ⟨p, h1, k.1 p _ h2 (by simp) (by simp), h3, h4⟩
theorem OwnX.snoc {h h' : AHeap} {v v' : AV} {l : List AV} {F : List (Int × List Int)} {t : Int} {p n : Nat} {D : List Int} (e : OwnX h v l F n) (hl : l.length = F.length * 2) (k : Keeps h h' (blkOf v)) (hv' : blkOf v' = some h.length)
    (hp : h[p]? = some ⟨.tip false, .ints .u8 D⟩) (hn : n ≤ p) (hq : blkOf v ≠ some p) : OwnX h' v' (l ++ [.int .u16 t, .gsl p 0 D.length 1 false]) (F ++ [(t, D)]) n := by
  have ne : ∀ {q : Nat} {z : ABlk}, h[q]? = some z → blkOf v' ≠ some q := by
    intro q z hz he
    rw [hv'] at he
    cases he
    have := (List.getElem?_eq_some_iff.1 hz).1
    omega
  intro i u E hi
  by_cases hlt : i < F.length
  · rw [List.getElem?_append_left hlt] at hi
    obtain ⟨q, h1, h2, h3, h4⟩ := e i u E hi
    exact ⟨q, by rw [List.getElem?_append_left (by omega)]; exact h1, k.1 q _ h2 (fun j _ => by simp) h4, h3, ne h2⟩
  · have hil := (List.getElem?_eq_some_iff.1 hi).1
    simp only [List.length_append, List.length_cons, List.length_nil] at hil
    obtain rfl : i = F.length := by omega
    rw [List.getElem?_append_right (Nat.le_refl _), Nat.sub_self] at hi
    simp only [List.getElem?_cons_zero, Option.some.injEq, Prod.mk.injEq] at hi
    obtain ⟨rfl, rfl⟩ := hi
    refine ⟨p, ?_, k.1 p _ hp (fun j _ => by simp) hq, hn, ne hp⟩
    rw [List.getElem?_append_right (by omega), hl, Nat.add_sub_cancel_left]; rfl
/-- What reading has come to. -/
structure PI (g H : AHeap) (v : AV) (l : List AV) (F : List (Int × List Int)) (x : AV) (D : List Int) : Prop where
  k : Keeps g H none
  gx : GxAt H v F.length l
  gp : ∀ p, blkOf v = some p → g.length ≤ p
  en : Ents H v l F
  ow : OwnX H v l F g.length
  f8 : F.length ≤ 8
  sx : SV H x D
  nx : ∀ p, blkS x = some p → blkOf v ≠ some p
  dl : D.length < 1000000000
/-- How it ends. -/
def PEnd (g : AHeap) (r : PR) (a : Acts) (h : AHeap) : Prop := Keeps g h none ∧ match r with
  | .err e => look a 2 = some .nils ∧ look a 3 = some .nils ∧ look a 4 = some (.int .i64 e)
  | .ok F D => look a 4 = some (.int .i64 0) ∧ ∃ v l rv, look a 2 = some v ∧ look a 3 = some rv ∧ GxAt h v F.length l ∧ Ents h v l F ∧ OwnX h v l F g.length ∧ (∀ p, blkOf v = some p → g.length ≤ p) ∧ BV h rv D ∧ (nilOf rv ≠ none ∧ (D ≠ [] → Mn rv)) ∧ (rv = .nils ∨ ∃ p, blkS rv = some p ∧ g.length ≤ p)
def PPost (g : AHeap) (r : PR) (o : AOut) : Prop := ∃ a h, o = (.ret, a, h, []) ∧ PEnd g r a h
theorem takeV22 (D : List Int) : takeV [2, 2] D = [be (D.take 2), be ((D.drop 2).take 2)] := by simp [takeV]
theorem len22 {D : List Int} (hB : Byt D) (hl : 4 ≤ D.length) : (0 ≤ be (D.take 2) ∧ be (D.take 2) < 65536) ∧ (0 ≤ be ((D.drop 2).take 2) ∧ be ((D.drop 2).take 2) < 65536) := by
  have h1 := be_bound (fun z hz => hB z (List.mem_of_mem_take hz) : Byt (D.take 2))
  have h2 := be_bound (fun z hz => hB z (List.mem_of_mem_drop (List.mem_of_mem_take hz)) : Byt ((D.drop 2).take 2))
  rw [List.length_take, Nat.min_eq_left (by omega)] at h1
  rw [List.length_take, List.length_drop, Nat.min_eq_left (by omega)] at h2
  simp only [Int.reducePow] at h1 h2
  exact ⟨h1, h2⟩
theorem new_oneX {H : AHeap} (t : Int) (d : AV) : newCells (H ++ [⟨.tip false, .vals [.int .u16 t, d]⟩]) (.vals [.int .u16 0, .nils]) (.sl H.length 0 1 1) = some (.vals [.int .u16 t, d]) := by
  have hq : (H ++ [(⟨.tip false, .vals [.int .u16 t, d]⟩ : ABlk)])[H.length]? = some ⟨.tip false, .vals [.int .u16 t, d]⟩ := by simp
  simp [newCells, sliceCells, cellsAt, hq, ACells.len, ACells.sub]
set_option maxHeartbeats 16000000 in
theorem ploop {g : AHeap} (hg : Good g) : ∀ (k : Nat) (F : List (Int × List Int)) (D : List Int) (a : Acts) (H : AHeap) (v : AV) (l : List AV) (x : AV), 9 ≤ k + F.length → PI g H v l F x D → look a 0 = some x → look a 5 = some v → look a 8 = some (.int .i64 4) →
    Wp (xgiter (xexec (W CP) g.length pr1) (xexec (W CP) g.length pr2) [0, 5, 8] 0 1 (xexec (W CP) g.length pr1 a H [])) (PPost g (parseX k F D))
  | 0, F, D, a, H, v, l, x, hk, hi, a0, a5, a8 => by have := hi.f8; omega
  | k + 1, F, D, a, H, v, l, x, hk, hi, a0, a5, a8 => by
    have ih := ploop hg k
    show Wp (xgiter (xexec (W CP) g.length pr1) (xexec (W CP) g.length pr2) [0, 5, 8] 0 1 (xexec (W CP) g.length pr1' a H [])) (PPost g (parseX (k + 1) F D))
    obtain ⟨gk, gx, gp, en, ow, f8, sx, nx, dl⟩ := hi
    have hGH := gk.2.2 hg
    have hnv := na_slen gx.slen
    obtain ⟨bx, nnx⟩ := sx.bv
    have hnx := bx.na
    have hlx := bx.len
    by_cases c0 : D.length = 0 ∨ D.length = 12
    · rw [parseX, if_pos c0]
      obtain ⟨rv, js, eC, cv, cb, cn, cnn, cmn⟩ := bclone_c hGH bx nnx dl
      have mnr : D ≠ [] → Mn rv := fun h => by
        obtain ⟨p, e, _⟩ := cmn h
        rw [e]
        intro b o n e' he
        cases he
      have hnr := cv.na
      have kj := Keeps.app H js none cn
      have kk := keeps_js gk js cn
      have fin : PEnd g (.ok F D) [(4, .int .i64 0), (3, rv), (2, v)] (H ++ js) := ⟨kk, rfl, v, l, rv, rfl, rfl, gx.keeps kj (by simp), en.keeps kj, ow.keeps kj, gp, cv, ⟨cnn, mnr⟩, cb.imp (fun h => h.1) fun ⟨p, h1, h2⟩ => ⟨p, h1, by have := gk.2.1; omega⟩⟩
      rcases c0 with c0 | c0
      · have d0 : ((D.length : Int) = 0) = True := eq_true (by omega)
        simp (maxDischargeDepth := 9) -implicitDefEqProofs only [push_cast, simprocAttr, pr1', a0, a5, a8, hnv, hnx, hlx, d0, eC, hnr]
        refine ⟨_, _, rfl, fin.1, ?_⟩
        obtain ⟨_, _, v', l', rv', e1, e2, f⟩ := fin
        cases e1; cases e2
        exact ⟨by simp (maxDischargeDepth := 9) -implicitDefEqProofs only [push_cast, simprocAttr], v, l', rv, by simp (maxDischargeDepth := 9) -implicitDefEqProofs only [push_cast, simprocAttr], by simp (maxDischargeDepth := 9) -implicitDefEqProofs only [push_cast, simprocAttr], f⟩
      · have d0 : ((D.length : Int) = 0) = False := eq_false (by omega)
        have d1 : ((D.length : Int) = 12) = True := eq_true (by omega)
        simp (maxDischargeDepth := 9) -implicitDefEqProofs only [push_cast, simprocAttr, pr1', a0, a5, a8, hnv, hnx, hlx, d0, d1, eC, hnr]
        refine ⟨_, _, rfl, fin.1, ?_⟩
        obtain ⟨_, _, v', l', rv', e1, e2, f⟩ := fin
        cases e1; cases e2
        exact ⟨by simp (maxDischargeDepth := 9) -implicitDefEqProofs only [push_cast, simprocAttr], v, l', rv, by simp (maxDischargeDepth := 9) -implicitDefEqProofs only [push_cast, simprocAttr], by simp (maxDischargeDepth := 9) -implicitDefEqProofs only [push_cast, simprocAttr], f⟩
    · have d0 : ((D.length : Int) = 0) = False := eq_false (by omega)
      have d1 : ((D.length : Int) = 12) = False := eq_false (by omega)
      rw [parseX, if_neg c0]
      by_cases c1 : D.length < 16
      · have d2 : ((D.length : Int) < 16) = True := eq_true (by omega)
        rw [if_pos c1]
        simp (maxDischargeDepth := 9) -implicitDefEqProofs only [push_cast, simprocAttr, pr1', pr2, a0, a5, a8, hnv, hnx, hlx, d0, d1, d2]
        exact ⟨_, _, rfl, gk, by simp (maxDischargeDepth := 9) -implicitDefEqProofs only [push_cast, simprocAttr], by simp (maxDischargeDepth := 9) -implicitDefEqProofs only [push_cast, simprocAttr], by simp (maxDischargeDepth := 9) -implicitDefEqProofs only [push_cast, simprocAttr]⟩
      · rw [if_neg c1]
        have d2 : ((D.length : Int) < 16) = False := eq_false (by omega)
        have hs : Src H x D := sx.resolve_left fun h => by rw [h.2] at c1; simp at c1
        have hs1 := hs.app [⟨.tip false, .ints .i64 [2, 2]⟩]
        have hG1 : Good (H ++ [⟨.tip false, .ints .i64 [2, 2]⟩]) := good_app hGH rfl
        obtain ⟨lv, rv, js, p, r, eT, tN, tR, tG, tp, tpl, tr, tpr⟩ := take_ok (q := H.length) (cS := 2) (Ls := [2, 2]) hG1 ⟨Or.inr (by simp), by decide⟩ hs1 (by decide) (by decide) (by show 4 ≤ D.length; omega) dl (by decide)
        have hsum : ([2, 2] : List Nat).sum = 4 := rfl
        have hln2 : ([2, 2] : List Nat).length = 2 := rfl
        rw [hln2] at eT
        rw [hsum] at tR
        rw [takeV22] at tN
        obtain ⟨⟨t0, t1⟩, n0, n1⟩ := len22 hs.1 (show 4 ≤ D.length by omega)
        obtain ⟨T, hT⟩ : ∃ T, be (D.take 2) = T := ⟨_, rfl⟩
        obtain ⟨N, hN⟩ : ∃ N, be ((D.drop 2).take 2) = N := ⟨_, rfl⟩
        have hlenF : lenF D = N - 4 := by rw [lenF, hN]
        have htypF : typF D = T := hT
        rw [hT] at t0 t1
        rw [hN] at n0 n1
        rw [hT, hN] at tN
        rw [hlenF, htypF]
        obtain ⟨pp, mn, oo, rfl, tb⟩ : ∃ pp mn oo, lv = .gsl pp 0 2 1 mn ∧ ((H ++ [(⟨.tip false, .ints .i64 [2, 2]⟩ : ABlk)]) ++ js)[pp]? = some ⟨.tip oo, .ints .u64 [T, N]⟩ := by
          rcases tN with ⟨rfl, _⟩ | ⟨pp, mn, oo, rfl, e⟩
          · cases tp
          · exact ⟨pp, mn, oo, rfl, e⟩
        have kk := keeps_js gk ((⟨.tip false, .ints .i64 [2, 2]⟩ : ABlk) :: js)
        have kHjs : Keeps H ((H ++ [(⟨.tip false, .ints .i64 [2, 2]⟩ : ABlk)]) ++ js) none := by
          refine ⟨fun q z e _ _ => ?_, by simp, fun _ => tG⟩
          rw [List.append_assoc, List.getElem?_append_left (List.getElem?_eq_some_iff.1 e).1]; exact e
        obtain ⟨H2, hH2⟩ : ∃ H2, (H ++ [(⟨.tip false, .ints .i64 [2, 2]⟩ : ABlk)]) ++ js = H2 := ⟨_, rfl⟩
        rw [hH2] at eT tR tG tb kHjs
        have k2 : Keeps g H2 none := keeps_own hg gk kHjs (by simp)
        have hb2 := (List.getElem?_eq_some_iff.1 tb).1
        have hnr := na_slen (tR.src (fun z hz => hs.1 z (List.mem_of_mem_drop hz))).len
        have brv := (tR.src (fun z hz => hs.1 z (List.mem_of_mem_drop hz))).bv
        have hlr := brv.len
        rw [List.length_drop] at hlr
        obtain ⟨M, hM⟩ : ∃ M, D.length - 4 = M := ⟨_, rfl⟩
        rw [hM] at hlr
        have w0 : IntKind.i64.wrap N = N := wr_i64 _ (by omega) (by omega)
        have w1 : IntKind.i64.wrap (N - 4) = N - 4 := wr_i64 _ (by omega) (by omega)
        have w2 : IntKind.u16.wrap T = T := wr_u16 _ (by omega) (by omega)
        have eM := fun h => may_i (n := N - 4) (by omega) (by omega) h
        have hlv := gx.slen
        cases hmay : mayI (N - 4) with
        | false =>
          rw [hmay] at eM
          rw [if_pos rfl]
          simp (maxDischargeDepth := 9) -implicitDefEqProofs only [push_cast, simprocAttr, nadd1, nadd2, nadd3, nadd4, nadd5, nadd6, nadd7, nadd8, nadd9, nadd10, nadd11, nadd12, pr1', pr2, a0, a5, a8, hnv, hnx, hlx, d0, d1, d2, eT, tb, hb2, hnr, w0, w1, eM]
          exact ⟨_, _, rfl, k2, by simp (maxDischargeDepth := 9) -implicitDefEqProofs only [push_cast, simprocAttr], by simp (maxDischargeDepth := 9) -implicitDefEqProofs only [push_cast, simprocAttr], by simp (maxDischargeDepth := 9) -implicitDefEqProofs only [push_cast, simprocAttr]⟩
        | true =>
          obtain ⟨m1, m2⟩ := mayI_le hmay
          rw [hmay] at eM
          rw [if_neg (by simp)]
          obtain ⟨n, hn⟩ : ∃ n : Nat, N - 4 = (n : Int) := ⟨(N - 4).toNat, by omega⟩
          rw [hn] at eM w1 m1 m2 ⊢
          have htn : ((n : Int)).toNat = n := Int.toNat_natCast n
          rw [htn]
          by_cases c3 : (D.length : Int) < (n : Int) + 4
          · rw [if_pos c3]
            have d3 : ((M : Int) < (n : Int)) = True := eq_true (by omega)
            simp (maxDischargeDepth := 9) -implicitDefEqProofs only [push_cast, simprocAttr, nadd1, nadd2, nadd3, nadd4, nadd5, nadd6, nadd7, nadd8, nadd9, nadd10, nadd11, nadd12, pr1', pr2, a0, a5, a8, hnv, hnx, hlx, hlr, d0, d1, d2, d3, eT, tb, hb2, hnr, w0, hn, w1, eM]
            exact ⟨_, _, rfl, k2, by simp (maxDischargeDepth := 9) -implicitDefEqProofs only [push_cast, simprocAttr], by simp (maxDischargeDepth := 9) -implicitDefEqProofs only [push_cast, simprocAttr], by simp (maxDischargeDepth := 9) -implicitDefEqProofs only [push_cast, simprocAttr]⟩
          · rw [if_neg c3]
            have d3 : ((M : Int) < (n : Int)) = False := eq_false (by omega)
            by_cases c4 : F.length = 8
            · rw [if_pos c4]
              have d4 : ((F.length : Int) = 8) = True := eq_true (by omega)
              simp (maxDischargeDepth := 9) -implicitDefEqProofs only [push_cast, simprocAttr, nadd1, nadd2, nadd3, nadd4, nadd5, nadd6, nadd7, nadd8, nadd9, nadd10, nadd11, nadd12, pr1', pr2, a0, a5, a8, hnv, hnx, hlx, hlr, hlv, d0, d1, d2, d3, d4, eT, tb, hb2, hnr, w0, hn, w1, eM]
              exact ⟨_, _, rfl, k2, by simp (maxDischargeDepth := 9) -implicitDefEqProofs only [push_cast, simprocAttr], by simp (maxDischargeDepth := 9) -implicitDefEqProofs only [push_cast, simprocAttr], by simp (maxDischargeDepth := 9) -implicitDefEqProofs only [push_cast, simprocAttr]⟩
            · rw [if_neg c4]
              have d4 : ((F.length : Int) = 8) = False := eq_false (by omega)
              have hnM : n ≤ (D.drop 4).length := by rw [List.length_drop]; omega
              have bcut := brv.take hnM
              have acut := bcut.na
              have aoff := (brv.off hnM).na
              have ncut : nilOf (cutX rv n) ≠ none := by
                obtain ⟨_, _, ⟨rfl, _⟩ | rfl⟩ := tR <;> simp [cutX, nilOf]
              have hcl : ((D.drop 4).take n).length = n := by rw [List.length_take]; omega
              obtain ⟨d, js2, eC, cv, cb, cn, cnn, cown⟩ := bclone_c tG bcut ncut (by omega)
              have hne : (D.drop 4).take n ≠ [] := fun h => by rw [h] at hcl; simp at hcl; omega
              obtain ⟨pd, rfl, hpd, hpdl⟩ := cown hne
              rw [hcl] at eC
              have e1 := fun h => slcV_hi (h := h) brv hnM
              have e2 := fun h => slcV_lo (h := h) brv hnM
              have kH3 : Keeps H (H2 ++ js2) none := keeps_js kHjs js2 cn
              have kg2 : Keeps g (H2 ++ js2) none := keeps_js k2 js2 cn
              have hL23 : H2.length ≤ (H2 ++ js2).length := by simp
              have tRj := tR.app js2
              obtain ⟨H3, hH3⟩ : ∃ H3, H2 ++ js2 = H3 := ⟨_, rfl⟩
              rw [hH3] at eC cv hpd kH3 kg2 hL23 tRj
              have gx3 := (gx.keeps kH3 (by simp)).keeps (h' := H3 ++ [⟨.tip false, .vals [.int .u16 T, .gsl pd 0 n 1 false]⟩]) (Keeps.app _ _ none rfl) (by simp)
              obtain ⟨v', H4, wv, ea, ga, ka, wa, ba, la⟩ := app_oneX (t := T) (d := .gsl pd 0 n 1 false) gx3 (by omega)
              have en3 := (en.keeps kH3).keeps (h' := H3 ++ [⟨.tip false, .vals [.int .u16 T, .gsl pd 0 n 1 false]⟩]) (Keeps.app _ _ none rfl)
              have ow3 := (ow.keeps kH3).keeps (h' := H3 ++ [⟨.tip false, .vals [.int .u16 T, .gsl pd 0 n 1 false]⟩]) (Keeps.app _ _ none rfl)
              have hnew := new_oneX (H := H3) T (.gsl pd 0 n 1 false)
              have kg3 : Keeps g (H3 ++ [⟨.tip false, .vals [.int .u16 T, .gsl pd 0 n 1 false]⟩]) none := keeps_js kg2 _ rfl
              have kg4 : Keeps g H4 none := keeps_own hg kg3 ka gp
              have hwv : wadd g.length [] wv = [] := wadd_ge fun b hb => gp b (wa b hb)
              have hnv' := na_slen ga.slen
              have hvH : ∀ q, blkOf v = some q → q < H.length := fun q e => by
                rcases gx.2 with ⟨rfl, _⟩ | ⟨p', mn', o', rfl, e'⟩
                · cases e
                · simp only [blkOf, Option.some.injEq] at e
                  subst e
                  exact (List.getElem?_eq_some_iff.1 e').1
              have hHH2 := kHjs.2.1
              have hvpd : blkOf v ≠ some pd := fun e => by have := hvH pd e; omega
              have hpd3 : (H3 ++ [(⟨.tip false, .vals [.int .u16 T, .gsl pd 0 n 1 false]⟩ : ABlk)])[pd]? = some ⟨.tip false, .ints .u8 ((D.drop 4).take n)⟩ := by
                rw [List.getElem?_append_left (List.getElem?_eq_some_iff.1 hpd).1]; exact hpd
              have en4 := en3.snoc (v' := v') (t := T) (D := (D.drop 4).take n) gx.1 ka ba ⟨t0, t1⟩ (cv.app _) cnn (by
                intro q hq e
                simp only [blkS, Option.some.injEq] at hq
                subst hq
                rw [hcl] at *
                exact hvpd e)
              have ow4 := ow3.snoc (v' := v') (t := T) gx.1 ka ba hpd3 (by have := gk.2.1; omega) hvpd
              rw [hcl] at en4 ow4
              have hFs : (F ++ [(T, (D.drop 4).take n)]).length = F.length + 1 := by simp
              have tR3 := tRj.app [⟨.tip false, .vals [.int .u16 T, .gsl pd 0 n 1 false]⟩]
              have sx4 : SV H4 (offX rv n) (D.drop (4 + n)) := by
                refine Or.inr ?_
                have hne : ∀ q, blkS rv = some q → blkOf v ≠ some q := fun q e e2 => by
                  rw [tr] at e; cases e
                  have := hvH _ e2
                  simp only [List.length_append, List.length_cons, List.length_nil] at tpl
                  omega
                have hr4 : RowAt H4 rv (D.drop 4) := by
                  obtain ⟨z, hz, hk⟩ := tR3
                  refine ⟨z, ka.1 z _ hz (fun j _ => by simp) (hne z ?_), hk⟩
                  rcases hk with ⟨rfl, _⟩ | rfl <;> rfl
                have := (hr4.src (fun z hz => hs.1 z (List.mem_of_mem_drop hz))).off hnM
                rwa [List.drop_drop] at this
              have nx4 : ∀ q, blkS (offX rv n) = some q → blkOf v' ≠ some q := by
                intro q hq e
                rw [ba] at e
                cases e
                have h5 : blkS (offX rv n) = blkS rv := by cases rv <;> rfl
                rw [h5] at hq
                obtain ⟨z, hz, hk⟩ := tR
                have hzl := (List.getElem?_eq_some_iff.1 hz).1
                have : z = (H3 ++ [(⟨.tip false, .vals [.int .u16 T, .gsl pd 0 n 1 false]⟩ : ABlk)]).length := by
                  rcases hk with ⟨rfl, _⟩ | rfl <;> (simp only [blkS, Option.some.injEq] at hq; exact hq)
                simp only [List.length_append, List.length_cons, List.length_nil] at this
                omega
              have pi4 : PI g H4 v' (l ++ [.int .u16 T, .gsl pd 0 n 1 false]) (F ++ [(T, (D.drop 4).take n)]) (offX rv n) (D.drop (4 + n)) := by
                refine ⟨kg4, by rw [hFs]; exact ga, fun q e => ?_, en4, ow4, by rw [hFs]; omega, sx4, nx4, by rw [List.length_drop]; omega⟩
                rw [ba] at e
                cases e
                have := kg3.2.1
                omega
              have lo : ¬ H2.length ≤ pp := by omega
              simp (maxDischargeDepth := 9) -implicitDefEqProofs only [push_cast, simprocAttr, nadd1, nadd2, nadd3, nadd4, nadd5, nadd6, nadd7, nadd8, nadd9, nadd10, nadd11, nadd12, pr1', a0, a5, a8, hnv, hnx, hlx, hlr, hlv, d0, d1, d2, d3, d4, eT, tb, hb2, hnr, w0, hn, w1, w2, eM, ↓slc_eqH, ↓slc_eqL, e1, e2, acut, aoff, eC, hnew, ea, hwv, hnv', lo]
              exact ih _ _ _ _ _ _ _ (by rw [hFs]; omega) pi4 (by simp (maxDischargeDepth := 9) -implicitDefEqProofs only [push_cast, simprocAttr]) (by simp (maxDischargeDepth := 9) -implicitDefEqProofs only [push_cast, simprocAttr]) (by simp (maxDischargeDepth := 9) -implicitDefEqProofs only [push_cast, simprocAttr])
end Go.Proofs.YtdpbbagllhfjbaaDoorW.AI.G
namespace Go.Proofs.YtdpbbagllhfjbaaDoorW.AI.G
open Go Go.Proofs.YtdpbbagllhfjbaaDoorW.AI Go.Proofs.YtdpbbagllhfjbaaDoorW.AI.Oct
set_option maxRecDepth 100000
set_option linter.unusedSimpArgs false
set_option linter.unusedVariables false
set_option linter.unusedSectionVars false
theorem parseX_nil : parseX 9 [] [] = .ok [] [] := by simp [parseX]
theorem bclone_nil (h : AHeap) : W CP 67 [.nils] h = some (.nils, h, []) := by
  refine W_val (m := M67) (fun _ => rfl) rfl rfl rfl ?_ h
  simp (maxDischargeDepth := 9) -implicitDefEqProofs only [push_cast, simprocAttr, M67]
/-- What reading fields answers. -/
def ROk (h : AHeap) (F : List (Int × List Int)) (D : List Int) (v rv : AV) (js : AHeap) : Prop := ∃ l, GxAt (h ++ js) v F.length l ∧ Ents (h ++ js) v l F ∧ OwnX (h ++ js) v l F h.length ∧ (∀ p, blkOf v = some p → h.length ≤ p) ∧ BV (h ++ js) rv D ∧ (rv = .nils ∨ ∃ p, blkS rv = some p ∧ h.length ≤ p) ∧ Good (h ++ js)
theorem ROk.ext {h : AHeap} {F : List (Int × List Int)} {D : List Int} {v rv : AV} {js : AHeap} (r : ROk h F D v rv js) : ExtAt (h ++ js) v F := by
  obtain ⟨l, g, e, _⟩ := r; exact g.ext e
theorem xparse_key {h : AHeap} {x : AV} {D : List Int} (hg : Good h) (hx : SV h x D) (hD : D.length < 1000000000) : Wp (xbody (W CP) M38 [x] h) fun r => r.2.2 = [] ∧ Keeps h r.2.1 none ∧ match parseX 9 [] D with
    | .err e => r.1 = .tup [.nils, .nils, .int .i64 e]
    | .ok F D' => ∃ v l rv, r.1 = .tup [v, rv, .int .i64 0] ∧ GxAt r.2.1 v F.length l ∧ Ents r.2.1 v l F ∧ OwnX r.2.1 v l F h.length ∧ (∀ p, blkOf v = some p → h.length ≤ p) ∧ BV r.2.1 rv D' ∧ (nilOf rv ≠ none ∧ (D' ≠ [] → Mn rv)) ∧ (rv = .nils ∨ ∃ p, blkS rv = some p ∧ h.length ≤ p) := by
  rw [parse_parts]
  have hnx := hx.bv.1.na
  simp (maxDischargeDepth := 9) -implicitDefEqProofs only [push_cast, simprocAttr, hnx]
  refine wp_kRes ?_
  refine (ploop hg 9 [] D _ h .nils [] x (by simp) ⟨Keeps.refl _ _, ⟨rfl, Or.inl ⟨rfl, rfl⟩⟩, by simp [blkOf], fun i t D hi => by simp at hi, fun i t D hi => by simp at hi, by simp, hx, by simp [blkOf], hD⟩ (by simp (maxDischargeDepth := 9) -implicitDefEqProofs only [push_cast, simprocAttr]) (by simp (maxDischargeDepth := 9) -implicitDefEqProofs only [push_cast, simprocAttr]) (by simp (maxDischargeDepth := 9) -implicitDefEqProofs only [push_cast, simprocAttr])).mono ?_
  rintro o ⟨a, h', rfl, k, e⟩
  cases hp : parseX 9 [] D with
  | err z =>
    rw [hp] at e
    obtain ⟨e2, e3, e4⟩ := e
    refine ⟨(.tup [.nils, .nils, .int .i64 z], h', []), ?_, rfl, k, rfl⟩
    simp only [kRes, ares, aresL, ares1, aeval, e2, e3, e4, Option.bind_some, Option.map_some]
  | ok F D' =>
    rw [hp] at e
    obtain ⟨e4, v, l, rv, e2, e3, g1, g2, g3, g4, g5, g6, g7⟩ := e
    refine ⟨(.tup [v, rv, .int .i64 0], h', []), ?_, rfl, k, v, l, rv, rfl, g1, g2, g3, g4, g5, g6, g7⟩
    have n1 := na_slen g1.slen
    have n2 := g5.na
    simp only [kRes, ares, aresL, ares1, aeval_t, e2, e3, e4, n1, n2, na_int, Option.bind_some, Option.map_some]
theorem lt_blkOf {v : AV} {n k : Nat} (hs : slen v = some k) (h : ∀ p, blkOf v = some p → n ≤ p) (hl : v.lt n = true) (hsl : ∀ b o m c, v ≠ .sl b o m c) : v = .nils := by
  cases v <;> simp [slen] at hs
  · rfl
  · exact absurd rfl (hsl _ _ _ _)
  · rename_i b o m e mn
    have := h b rfl
    simp [AV.lt] at hl
    omega
theorem xparse_ok {h : AHeap} {x : AV} {D D' : List Int} {F : List (Int × List Int)} (hg : Good h) (hx : SV h x D) (hD : D.length < 1000000000) (hp : parseX 9 [] D = .ok F D') :
    ∃ v rv js, W CP 38 [x] h = some (.tup [v, rv, .int .i64 0], h ++ js, []) ∧ ROk h F D' v rv js ∧ nilOf rv ≠ none ∧ (D' ≠ [] → Mn rv) := by
  rcases hx with ⟨rfl, rfl⟩ | hs
  · have : F = [] ∧ D' = [] := by
      rw [parseX_nil] at hp
      cases hp; exact ⟨rfl, rfl⟩
    obtain ⟨rfl, rfl⟩ := this
    refine ⟨.nils, .nils, [], ?_, ⟨[], ⟨rfl, Or.inl ⟨rfl, rfl⟩⟩, fun i t D hi => by simp at hi, fun i t D hi => by simp at hi, by simp [blkOf], BV.nil _, Or.inl rfl, by rw [List.append_nil]; exact hg⟩, by simp [nilOf], fun h => absurd rfl h⟩
    rw [List.append_nil]
    refine W_val (m := M38) (fun _ => rfl) rfl rfl rfl ?_ h
    have e := fun h => bclone_nil h
    rw [parse_parts]
    have hpr : ∀ (a : Acts) (H : AHeap), xexec (W CP) CP.gl.length pr1 a H [] = xexec (W CP) CP.gl.length pr1' a H [] := fun _ _ => rfl
    simp (maxDischargeDepth := 9) -implicitDefEqProofs only [push_cast, simprocAttr, hpr, pr1', e]
  · have hx0 : AV.lts 0 [x] = false := by
      obtain ⟨_, b, o, c, st, l, _, _, _, _, ⟨rfl, _⟩ | rfl⟩ := hs <;> simp [AV.lts, AV.lt]
    obtain ⟨⟨r1, h', ws⟩, e, rfl, k, q⟩ := xparse_key hg (Or.inr hs) hD
    rw [hp] at q
    obtain ⟨v, l, rv, rfl, g1, g2, g3, g4, g5, g6, g7⟩ := q
    simp only at k g1 g2 g3 g5
    obtain ⟨js, rfl⟩ := k.behind
    cases hl : (AV.tup [v, rv, .int .i64 0]).lt h.length with
    | false =>
      refine ⟨v, rv, js, ?_, ⟨l, g1, g2, g3, g4, g5, g7, k.2.2 hg⟩, g6⟩
      rw [W_body (m := M38) rfl rfl hx0 e, show (M38).trim = true from rfl, if_pos rfl, trim_addr hl]
    | true =>
      simp only [AV.lt, AV.lts, Bool.and_eq_true] at hl
      have hv : v = .nils := lt_blkOf g1.slen g4 hl.1 (by
        rintro b o m c rfl
        rcases g1.2 with ⟨e, _⟩ | ⟨_, _, _, e, _⟩ <;> cases e)
      subst hv
      have hrv : rv = .nils := by
        rcases g7 with e | ⟨p, e, hpl⟩
        · exact e
        · have := hl.2.1
          cases rv <;> simp [blkS] at e <;> simp [AV.lt] at this <;> omega
      subst hrv
      have hF : F = [] := by
        rcases g1.2 with ⟨_, e⟩ | ⟨_, _, _, e, _⟩
        · exact List.length_eq_zero_iff.1 e
        · cases e
      have hD' : D' = [] := by
        obtain ⟨_, ⟨_, e⟩ | ⟨_, _, _, _, _, _, _, _, _, _, ⟨e, _⟩ | e⟩⟩ := g5
        · exact e
        · cases e
        · cases e
      subst hF hD'
      refine ⟨.nils, .nils, [], ?_, ⟨[], ⟨rfl, Or.inl ⟨rfl, rfl⟩⟩, fun i t D hi => by simp at hi, fun i t D hi => by simp at hi, by simp [blkOf], BV.nil _, Or.inl rfl, by rw [List.append_nil]; exact hg⟩, by simp [nilOf], fun h => absurd rfl h⟩
      rw [List.append_nil]
      exact W_quiet (m := M38) rfl rfl hx0 rfl rfl hg e
theorem xparse_err {h : AHeap} {x : AV} {D : List Int} {z : Int} (hg : Good h) (hx : SV h x D) (hD : D.length < 1000000000) (hp : parseX 9 [] D = .err z) : W CP 38 [x] h = some (.tup [.nils, .nils, .int .i64 z], h, []) := by
  rcases hx with ⟨rfl, rfl⟩ | hs
  · rw [parseX_nil] at hp; cases hp
  · have hx0 : AV.lts 0 [x] = false := by
      obtain ⟨_, b, o, c, st, l, _, _, _, _, ⟨rfl, _⟩ | rfl⟩ := hs <;> simp [AV.lts, AV.lt]
    refine W_quietP (m := M38) rfl rfl hx0 rfl rfl hg ?_
    refine (xparse_key hg (Or.inr hs) hD).mono fun r hr => ?_
    obtain ⟨e1, e2, e3⟩ := hr
    rw [hp] at e3
    exact ⟨e3, e2.behind, e1⟩
/-- A byte of a slice: its address, and what lies there. -/
theorem BV.byte {h : AHeap} {x : AV} {D : List Int} (s : BV h x D) (hne : D ≠ []) : ∃ b o st l, h[b]? = some ⟨st, .ints .u8 l⟩ ∧ Liv st ∧ (∀ (g : AHeap) (i : Nat), i < D.length → iaV 1 g i (some x) = some (.ptr b (o + i), g, [])) ∧ (∀ (i : Nat) (d : Int), D[i]? = some d → l[o + i]? = some d) := by
  obtain ⟨hB, ⟨rfl, rfl⟩ | ⟨b, o, c, st, l, mn, e, hs, hl', hd, k'⟩⟩ := s
  · exact absurd rfl hne
  · refine ⟨b, o, st, l, e, hs, fun g i hi => ?_, fun i d hi => ?_⟩
    · rcases k' with ⟨rfl, _⟩ | rfl
      · simp only [iaV, if_pos hi, Nat.mul_one]
      · simp only [iaV, hi, and_self, if_true, Nat.mul_one]
    · have hil := (List.getElem?_eq_some_iff.1 hi).1
      rw [← hd, List.getElem?_take, if_pos hil, List.getElem?_drop] at hi
      exact hi
/-- The state of ref05.Parse. -/
structure PJ (g H : AHeap) (v : AV) (l : List AV) (F : List (Int × List Int)) (x : AV) (D : List Int) : Prop where
  k : Keeps g H none
  gx : GxAt H v F.length l
  gp : ∀ p, blkOf v = some p → g.length ≤ p
  en : Ents H v l F
  ow : OwnX H v l F g.length
  f8 : F.length ≤ 8
  bx : BV g x D
  dl : D.length < 1000000000
  nz : F = [] → v = .nils
end Go.Proofs.YtdpbbagllhfjbaaDoorW.AI.G

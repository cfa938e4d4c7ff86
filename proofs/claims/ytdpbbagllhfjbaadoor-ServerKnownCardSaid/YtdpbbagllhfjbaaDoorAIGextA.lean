import Derived.Test.YtdpbbagllhfjbaaDoorAIGoctB
import Derived.Test.YtdpbbagllhfjbaaDoorAITools
namespace Go.Proofs.YtdpbbagllhfjbaaDoorW.AI.G
open Go Go.Proofs.YtdpbbagllhfjbaaDoorW.AI Go.Proofs.YtdpbbagllhfjbaaDoorW.AI.Oct
set_option maxRecDepth 100000
set_option linter.unusedSimpArgs false
set_option linter.unusedVariables false
set_option linter.unusedSectionVars false
/-- Bytes: nil, or what lies in a block. -/
def BV (h : AHeap) (x : AV) (D : List Int) : Prop := Byt D ∧ ((x = .nils ∧ D = []) ∨ ∃ b o c st l mn, h[b]? = some ⟨st, .ints .u8 l⟩ ∧ Liv st ∧ o + D.length ≤ l.length ∧ (l.drop o).take D.length = D ∧ ((x = .sl b o D.length c ∧ D.length ≤ c) ∨ x = .gsl b o D.length 1 mn))
theorem Src.bv {h : AHeap} {x : AV} {D : List Int} (s : Src h x D) : BV h x D := by
  obtain ⟨hB, b, o, c, st, l, e, hs, hl, hd, k⟩ := s
  exact ⟨hB, Or.inr ⟨b, o, c, st, l, false, e, hs, hl, hd, k⟩⟩
theorem BV.nil (h : AHeap) : BV h .nils [] := ⟨fun x hx => by simp at hx, Or.inl ⟨rfl, rfl⟩⟩
theorem BV.mono {h h' : AHeap} {x : AV} {D : List Int} (s : BV h x D) (hm : ∀ (q : Nat) (z : ABlk), h[q]? = some z → (∃ l, z.c = .ints .u8 l) → Liv z.st → h'[q]? = some z) : BV h' x D := by
  obtain ⟨hB, k | ⟨b, o, c, st, l, mn, e, hs, hl, hd, k⟩⟩ := s
  · exact ⟨hB, Or.inl k⟩
  · exact ⟨hB, Or.inr ⟨b, o, c, st, l, mn, hm _ _ e ⟨_, rfl⟩ hs, hs, hl, hd, k⟩⟩
theorem BV.app {h : AHeap} {x : AV} {D : List Int} (s : BV h x D) (js : AHeap) : BV (h ++ js) x D :=
  s.mono fun q z e _ _ => by rw [List.getElem?_append_left (List.getElem?_eq_some_iff.1 e).1]; exact e
theorem BV.len {h : AHeap} {x : AV} {D : List Int} (s : BV h x D) : slen x = some D.length := by
  obtain ⟨_, ⟨rfl, rfl⟩ | ⟨b, o, c, st, l, mn, _, _, _, _, ⟨rfl, _⟩ | rfl⟩⟩ := s <;> rfl
theorem BV.na {h : AHeap} {x : AV} {D : List Int} (s : BV h x D) : noAny (some x) = some x := na_slen s.len
theorem BV.cell {h : AHeap} {x : AV} {D : List Int} (s : BV h x D) : x.isCell = true := by
  obtain ⟨_, ⟨rfl, rfl⟩ | ⟨b, o, c, st, l, mn, _, _, _, _, ⟨rfl, _⟩ | rfl⟩⟩ := s <;> rfl
theorem BV.lt {h : AHeap} {x : AV} {D : List Int} (s : BV h x D) : x.lt h.length = true := by
  obtain ⟨_, ⟨rfl, rfl⟩ | ⟨b, o, c, st, l, mn, e, _, _, _, ⟨rfl, _⟩ | rfl⟩⟩ := s
  · rfl
  · simpa [AV.lt] using (List.getElem?_eq_some_iff.1 e).1
  · simpa [AV.lt] using (List.getElem?_eq_some_iff.1 e).1
theorem BV.bytAt {h : AHeap} {x : AV} {D : List Int} (s : BV h x D) : x = .nils ∧ D = [] ∨ BytAt h x D := by
  obtain ⟨hB, k | ⟨b, o, c, st, l, mn, e, hs, hl, hd, ⟨rfl, _⟩ | rfl⟩⟩ := s
  · exact Or.inl k
  · have := bytAt_sl (c := c) e hs.nd hl (by rw [hd]; exact hB); rw [hd] at this; exact Or.inr this
  · have := bytAt_gsl (m := mn) e hs.nd hl (by rw [hd]; exact hB); rw [hd] at this; exact Or.inr this
theorem BV.new {h : AHeap} {x : AV} {D : List Int} (s : BV h x D) : newCells h (.ints .u8 [0]) x = some (.ints .u8 D) := by
  rcases s.bytAt with ⟨rfl, rfl⟩ | hb
  · rfl
  · have h1 := hb.1
    have h2 := hb.2.1
    cases x with
    | nils => simp [sliceCells] at h2
    | sl b o n c => exact h2
    | gsl b o n e m => exact h2
    | _ => simp [slen] at h1
/-- A text of bytes, in one step. -/
def cstrV (h : AHeap) (v : Option AV) : Option (AV × AHeap × List Nat) :=
  (noAny v).bind fun x => match x with
    | .nils => some (.str ByteArray.empty, h, [])
    | x => (sliceCells h 1 x).bind fun c => (bytesOf c).map fun s => (.str s, h, [])
theorem cstr_eq (call : CallT) (i : Nat) (a : Acts) (h : AHeap) : aop call (.cstr (.t i)) a h = cstrV h (look a i) := by
  unfold cstrV
  rw [← aeval_t]
  simp only [aop]
  cases aeval a (.t i) with
  | none => rfl
  | some v => cases v <;> rfl
theorem BV.cstr {h : AHeap} {x : AV} {D : List Int} (s : BV h x D) : cstrV h (some x) = some (.str (sb (bsOf D)), h, []) := by
  unfold cstrV
  rw [s.na, Option.bind_some]
  rcases s.bytAt with ⟨rfl, rfl⟩ | hb
  · rfl
  · have h1 := hb.1
    have h2 := hb.2.1
    cases x with
    | nils => simp [sliceCells] at h2
    | sl b o n c => simp only [h2, Option.bind_some, bytesOf_sb, Option.map_some]
    | gsl b o n e m => simp only [h2, Option.bind_some, bytesOf_sb, Option.map_some]
    | _ => simp [slen] at h1
theorem sb_eq {D E : List Int} (hD : Byt D) (hE : Byt E) : ((sb (bsOf D)).toList == (sb (bsOf E)).toList) = decide (D = E) := by
  rw [sb_toList, sb_toList, list_eqb]
  by_cases h : D = E
  · subst h; simp
  · rw [decide_eq_false h, decide_eq_false]
    exact fun e => h (bsOf_inj hD hE e)
/-- Cut to so many. -/
def cutX (x : AV) (k : Nat) : AV := match x with
  | .sl b o n c => .sl b o k c
  | .gsl b o n e m => .gsl b o k e m
  | v => v
theorem BV.take {h : AHeap} {x : AV} {D : List Int} (s : BV h x D) {k : Nat} (hk : k ≤ D.length) : BV h (cutX x k) (D.take k) := by
  have hl : (D.take k).length = k := by rw [List.length_take]; omega
  obtain ⟨hB, ⟨rfl, rfl⟩ | ⟨b, o, c, st, l, mn, e, hs, hl', hd, k'⟩⟩ := s
  · obtain rfl : k = 0 := by simpa using hk
    exact BV.nil h
  · refine ⟨fun z hz => hB z (List.mem_of_mem_take hz), Or.inr ⟨b, o, c, st, l, mn, e, hs, by omega, ?_, ?_⟩⟩
    · rw [hl]
      conv => rhs; rw [← hd]
      rw [List.take_take, Nat.min_eq_left hk]
    · rw [hl]
      rcases k' with ⟨rfl, h1⟩ | rfl
      · exact Or.inl ⟨rfl, by omega⟩
      · exact Or.inr rfl
theorem BV.off {h : AHeap} {x : AV} {D : List Int} (s : BV h x D) {k : Nat} (hk : k ≤ D.length) : BV h (offX x k) (D.drop k) := by
  obtain ⟨hB, ⟨rfl, rfl⟩ | ⟨b, o, c, st, l, mn, e, hs, hl', hd, k'⟩⟩ := s
  · obtain rfl : k = 0 := by simpa using hk
    exact BV.nil h
  · refine ⟨fun z hz => hB z (List.mem_of_mem_drop hz), Or.inr ⟨b, o + k, c - k, st, l, mn, e, hs, by rw [List.length_drop]; omega, ?_, ?_⟩⟩
    · rw [List.length_drop]
      conv => rhs; rw [← hd]
      rw [List.drop_take, List.drop_drop]
    · rw [List.length_drop]
      rcases k' with ⟨rfl, h1⟩ | rfl
      · exact Or.inl ⟨rfl, by omega⟩
      · exact Or.inr rfl
/-- A cut of a slice of bytes, in one step. -/
def slcV (h : AHeap) (lo hi : Option Nat) : Option AV → Option (AV × AHeap × List Nat)
  | some .nils => (bounds 0 0 lo hi).bind fun _ => some (.nils, h, [])
  | some (.sl b o n c) => (bounds n c lo hi).map fun (l, u) => (.sl b (o + l) (u - l) (c - l), h, [])
  | some (.gsl b o n e mn) => if e = 1 then (bounds n n lo hi).map fun (l, u) => (.gsl b (o + l) (u - l) e mn, h, []) else none
  | _ => none
theorem BV.slc {h : AHeap} {x : AV} {D : List Int} (s : BV h x D) {l u : Nat} (h1 : l ≤ u) (h2 : u ≤ D.length) : slcV h (some l) (some u) (some x) = some (offX (cutX x u) l, h, []) := by
  obtain ⟨hB, ⟨rfl, rfl⟩ | ⟨b, o, c, st, li, mn, e, hs, hl', hd, ⟨rfl, hc⟩ | rfl⟩⟩ := s
  · simp at h2; subst h2; obtain rfl : l = 0 := by omega
    rfl
  · simp only [slcV, bounds, Option.getD_some]
    rw [if_pos ⟨by omega, h1⟩]; rfl
  · simp only [slcV, bounds, Option.getD_some, if_true]
    rw [if_pos ⟨h2, h1⟩]; rfl
theorem slcV_hi {h h0 : AHeap} {x : AV} {D : List Int} (s : BV h0 x D) {u : Nat} (h2 : u ≤ D.length) : slcV h none (some u) (some x) = some (cutX x u, h, []) := by
  obtain ⟨hB, ⟨rfl, rfl⟩ | ⟨b, o, c, st, li, mn, e, hs, hl', hd, ⟨rfl, hc⟩ | rfl⟩⟩ := s
  · simp at h2; subst h2; rfl
  · simp only [slcV, bounds, Option.getD_some, Option.getD_none]
    rw [if_pos ⟨by omega, by omega⟩]; rfl
  · simp only [slcV, bounds, Option.getD_some, Option.getD_none, if_true]
    rw [if_pos ⟨h2, by omega⟩]; rfl
theorem slcV_lo {h h0 : AHeap} {x : AV} {D : List Int} (s : BV h0 x D) {l : Nat} (h1 : l ≤ D.length) : slcV h (some l) none (some x) = some (offX x l, h, []) := by
  obtain ⟨hB, ⟨rfl, rfl⟩ | ⟨b, o, c, st, li, mn, e, hs, hl', hd, ⟨rfl, hc⟩ | rfl⟩⟩ := s
  · simp at h1; subst h1; rfl
  · simp only [slcV, bounds, Option.getD_some, Option.getD_none]
    rw [if_pos ⟨hc, h1⟩]; rfl
  · simp only [slcV, bounds, Option.getD_some, Option.getD_none, if_true]
    rw [if_pos ⟨Nat.le_refl _, h1⟩]; rfl
theorem slc_eqL (call : CallT) (i : Nat) (y : MX) (a : Acts) (h : AHeap) : aop call (.slc none 1 (.t i) (some y) none none) a h = (aeval a y).bind fun v => (asN v).bind fun n => slcV h (some n) none (look a i) := by
  simp only [aop, optN]
  cases hy : aeval a y with
  | none => rw [aeval]; cases look a i with
    | none => rfl
    | some v => cases v <;> rfl
  | some w =>
    simp only [Option.bind_some]
    cases hn : asN w with
    | none => rw [aeval]; cases look a i with
      | none => rfl
      | some v => cases v <;> rfl
    | some n =>
      rw [aeval]
      cases look a i with
      | none => rfl
      | some v =>
        cases v <;> try rfl
        all_goals simp only [Option.bind_some, slcV, Option.map_some, Option.getD_none, Nat.mul_one]
theorem slc_eqH (call : CallT) (i : Nat) (y : MX) (a : Acts) (h : AHeap) : aop call (.slc none 1 (.t i) none (some y) none) a h = (aeval a y).bind fun v => (asN v).bind fun n => slcV h none (some n) (look a i) := by
  simp only [aop, optN]
  cases hy : aeval a y with
  | none => rw [aeval]; cases look a i with
    | none => rfl
    | some v => cases v <;> rfl
  | some w =>
    simp only [Option.bind_some]
    cases hn : asN w with
    | none => rw [aeval]; cases look a i with
      | none => rfl
      | some v => cases v <;> rfl
    | some n =>
      rw [aeval]
      cases look a i with
      | none => rfl
      | some v =>
        cases v <;> try rfl
        all_goals simp only [Option.bind_some, slcV, Option.map_some, Option.getD_none, Nat.mul_one]
end Go.Proofs.YtdpbbagllhfjbaaDoorW.AI.G
namespace Go.Proofs.YtdpbbagllhfjbaaDoorW.AI.G
open Go Go.Proofs.YtdpbbagllhfjbaaDoorW.AI Go.Proofs.YtdpbbagllhfjbaaDoorW.AI.Oct
set_option maxRecDepth 100000
set_option linter.unusedSimpArgs false
set_option linter.unusedVariables false
set_option linter.unusedSectionVars false
theorem end_get (h : AHeap) (z : ABlk) (ks : AHeap) : (h ++ z :: ks)[h.length]? = some z := by
  rw [List.getElem?_append_right (Nat.le_refl _), Nat.sub_self, List.getElem?_cons_zero]
theorem equal_c {h : AHeap} {x y : AV} {D E : List Int} (hg : Good h) (hx : BV h x D) (hy : BV h y E) : W CP 80 [x, y] h = some (.bool (decide (D = E)), h, []) := by
  have hcx := hx.cstr
  have hcy := hy.cstr
  have hnx := hx.na
  have hny := hy.na
  have he := sb_eq hx.1 hy.1
  cases h0 : AV.lts 0 [x, y] with
  | false =>
    refine W_quietP (m := M80) rfl rfl h0 rfl rfl hg ?_
    simp (maxDischargeDepth := 9) -implicitDefEqProofs only [push_cast, simprocAttr, M80, ↓cstr_eq, hcx, hcy, hnx, hny, he]
    exact quiet_0
  | true =>
    have nilx : ∀ {z : AV} {F : List Int}, BV h z F → z.lt 0 = true → z = .nils ∧ F = [] := by
      intro z F hz hl
      obtain ⟨_, k | ⟨b, o, c, st, l, mn, _, _, _, _, ⟨rfl, _⟩ | rfl⟩⟩ := hz
      · exact k
      · simp [AV.lt] at hl
      · simp [AV.lt] at hl
    simp only [AV.lts, Bool.and_eq_true] at h0
    obtain ⟨rfl, rfl⟩ := nilx hx h0.1
    obtain ⟨rfl, rfl⟩ := nilx hy h0.2.1
    refine W_val (m := M80) (fun _ => rfl) rfl rfl rfl ?_ h
    have hcx := fun g => (BV.nil g).cstr
    simp (maxDischargeDepth := 9) -implicitDefEqProofs only [push_cast, simprocAttr, M80, ↓cstr_eq, hcx, he]
theorem gsl_bv {h : AHeap} {D : List Int} (hB : Byt D) {p n : Nat} {mn o : Bool} (hn : D.length = n) (e : h[p]? = some ⟨.tip o, .ints .u8 D⟩) : BV h (.gsl p 0 n 1 mn) D :=
  ⟨hB, Or.inr ⟨p, 0, 0, .tip o, D, mn, e, Or.inr ⟨o, rfl⟩, by omega, by rw [List.drop_zero, List.take_length], Or.inr (by rw [hn])⟩⟩
/-- Clone: nil, or a row of its own. -/
theorem bclone_c {h : AHeap} {x : AV} {D : List Int} (hg : Good h) (hx : BV h x D) (hn : nilOf x ≠ none) (hl : D.length < 1000000000) : ∃ v js, W CP 67 [x] h = some (v, h ++ js, []) ∧ BV (h ++ js) v D ∧ ((v = .nils ∧ js = []) ∨ ∃ p, blkS v = some p ∧ h.length ≤ p) ∧ js.all notOld = true ∧ nilOf v ≠ none ∧ (D ≠ [] → ∃ p, v = .gsl p 0 D.length 1 false ∧ (h ++ js)[p]? = some ⟨.tip false, .ints .u8 D⟩ ∧ h.length ≤ p) := by
  by_cases h0 : x = .nils
  · subst h0
    have hD : D = [] := by
      obtain ⟨_, ⟨_, k⟩ | ⟨b, o, c, st, l, mn, _, _, _, _, ⟨k, _⟩ | k⟩⟩ := hx
      · exact k
      · cases k
      · cases k
    subst hD
    refine ⟨.nils, [], ?_, by rw [List.append_nil]; exact BV.nil h, Or.inl ⟨rfl, rfl⟩, rfl, by simp [nilOf], fun h => absurd rfl h⟩
    rw [List.append_nil]
    refine W_val (m := M67) (fun _ => rfl) rfl rfl rfl ?_ h
    simp (maxDischargeDepth := 9) -implicitDefEqProofs only [push_cast, simprocAttr, M67]
  · have ea := app_fresh (h := h) hl
    have hb := (hx.app [⟨.tip false, .ints .u8 []⟩]).new
    have hlx := hx.len
    have hB := hx.1
    have hne : ∃ (hx0 : AV.lts 0 [x] = false), True := by
      obtain ⟨_, k | ⟨b, o, c, st, l, mn, _, _, _, _, ⟨rfl, _⟩ | rfl⟩⟩ := hx
      · exact absurd k.1 h0
      · exact ⟨by simp [AV.lts, AV.lt], trivial⟩
      · exact ⟨by simp [AV.lts, AV.lt], trivial⟩
    obtain ⟨hx0, _⟩ := hne
    have hsh : ∃ b o c mn, (x = .sl b o D.length c) ∨ (x = .gsl b o D.length 1 mn ∧ (mn && decide (D.length = 0)) = false) := by
      obtain ⟨_, k | ⟨b, o, c, st, l, mn, _, _, _, _, ⟨rfl, _⟩ | rfl⟩⟩ := hx
      · exact absurd k.1 h0
      · exact ⟨b, o, c, false, Or.inl rfl⟩
      · refine ⟨b, o, 0, mn, Or.inr ⟨rfl, ?_⟩⟩
        rw [Bool.eq_false_iff]
        intro h2
        simp only [Bool.and_eq_true, decide_eq_true_eq] at h2
        exact hn (by simp [nilOf, h2.1, h2.2])
    have hnx := hx.na
    by_cases hD : D = []
    · rw [if_pos hD] at ea
      have key : xbody (W CP) M67 [x] h = some (.sl h.length 0 0 0, h ++ [⟨.tip false, .ints .u8 []⟩], []) := by
        obtain ⟨b, o, c, mn, rfl | ⟨rfl, hmn⟩⟩ := hsh
        · simp (maxDischargeDepth := 9) -implicitDefEqProofs only [push_cast, simprocAttr, M67, nadd1, nadd2, nadd3, nadd4, nadd5, nadd6, nadd7, nadd8, nadd9, nadd10, nadd11, nadd12, hb, ea]
        · simp (maxDischargeDepth := 9) -implicitDefEqProofs only [push_cast, simprocAttr, M67, nadd1, nadd2, nadd3, nadd4, nadd5, nadd6, nadd7, nadd8, nadd9, nadd10, nadd11, nadd12, hmn, hb, ea]
      refine ⟨.sl h.length 0 0 0, [⟨.tip false, .ints .u8 []⟩], ?_, ?_, Or.inr ⟨h.length, rfl, Nat.le_refl _⟩, rfl, by simp [nilOf], fun h => absurd hD h⟩
      · rw [W_body (m := M67) rfl rfl hx0 key, show (M67).trim = true from rfl, if_pos rfl, trim_addr (by simp [AV.lt])]
      · subst hD
        exact ⟨hB, Or.inr ⟨h.length, 0, 0, .tip false, [], false, end_get _ _ _, Or.inr ⟨false, rfl⟩, by simp, by simp, Or.inl ⟨rfl, by simp⟩⟩⟩
    · rw [if_neg hD] at ea
      have key : xbody (W CP) M67 [x] h = some (.gsl (h.length + 1) 0 D.length 1 false, h ++ [⟨.tip false, .ints .u8 []⟩, ⟨.tip false, .ints .u8 D⟩], []) := by
        obtain ⟨b, o, c, mn, rfl | ⟨rfl, hmn⟩⟩ := hsh
        · simp (maxDischargeDepth := 9) -implicitDefEqProofs only [push_cast, simprocAttr, M67, nadd1, nadd2, nadd3, nadd4, nadd5, nadd6, nadd7, nadd8, nadd9, nadd10, nadd11, nadd12, hb, ea]
        · simp (maxDischargeDepth := 9) -implicitDefEqProofs only [push_cast, simprocAttr, M67, nadd1, nadd2, nadd3, nadd4, nadd5, nadd6, nadd7, nadd8, nadd9, nadd10, nadd11, nadd12, hmn, hb, ea]
      refine ⟨.gsl (h.length + 1) 0 D.length 1 false, [⟨.tip false, .ints .u8 []⟩, ⟨.tip false, .ints .u8 D⟩], ?_, ?_, Or.inr ⟨h.length + 1, rfl, by omega⟩, rfl, by simp [nilOf], fun _ => ⟨h.length + 1, rfl, by rw [List.getElem?_append_right (by omega)]; simp, by omega⟩⟩
      · rw [W_body (m := M67) rfl rfl hx0 key, show (M67).trim = true from rfl, if_pos rfl, trim_addr (by simp [AV.lt])]
      · exact gsl_bv (o := false) hB rfl (by rw [List.getElem?_append_right (by omega)]; simp)
end Go.Proofs.YtdpbbagllhfjbaaDoorW.AI.G
namespace Go.Proofs.YtdpbbagllhfjbaaDoorW.AI.G
open Go Go.Proofs.YtdpbbagllhfjbaaDoorW.AI Go.Proofs.YtdpbbagllhfjbaaDoorW.AI.Oct
set_option maxRecDepth 100000
set_option linter.unusedSimpArgs false
set_option linter.unusedVariables false
set_option linter.unusedSectionVars false
theorem W_bothH {C : Cfg} {f : Nat} {m : MFunc} {args : List AV} {v : AV} (I : AHeap → Prop) (hp : ∀ h, C.prim f args h = none) (hm : C.mp f = some m) (ht : m.trim = true) (hv : AV.lt 0 v = true) (hg0 : Good C.gl) (hi0 : AV.lts 0 args = true → I C.gl)
    (e : ∀ g, Good g → I g → Wp (xbody (W C) m args g) (Quiet g v)) {h : AHeap} (hg : Good h) (hi : I h) : W C f args h = some (v, h, []) := by
  cases h0 : AV.lts 0 args with
  | true => exact W_val hp hm h0 hv ((e _ hg0 (hi0 h0)).mono fun r hr => hr.1) h
  | false => exact W_quietP (hp h) hm h0 ht (AV.lt_mono (Nat.zero_le _) _ hv) hg (e h hg hi)
theorem glG : Good CP.gl := rfl
/-- The address of an element, in one step. -/
def iaV (e : Nat) (h : AHeap) (i : Nat) : Option AV → Option (AV × AHeap × List Nat)
  | some (.sl b o n _) => if i < n then some (.ptr b (o + i * e), h, []) else none
  | some (.gsl b o n e' _) => if e' = e ∧ i < n then some (.ptr b (o + i * e), h, []) else none
  | _ => none
theorem ia_eq (call : CallT) (e i : Nat) (y : MX) (a : Acts) (h : AHeap) : aop call (.ia none e (.t i) y) a h = (aeval a y).bind fun v => (asN v).bind fun n => iaV e h n (look a i) := by
  simp only [aop]
  cases hy : aeval a y with
  | none => rw [aeval]; cases look a i with
    | none => rfl
    | some v => cases v <;> rfl
  | some w =>
    simp only [Option.bind_some]
    cases hn : asN w with
    | none => rw [aeval]; cases look a i with
      | none => rfl
      | some v => cases v <;> rfl
    | some n =>
      rw [aeval]
      cases look a i with
      | none => rfl
      | some v => cases v <;> rfl
/-- A row of fields: types and bytes. -/
structure XR (h : AHeap) (x : AV) (F : List (Int × List Int)) (b o : Nat) (l : List AV) : Prop where
  len : slen x = some F.length
  ia : ∀ (g : AHeap) (i : Nat), i < F.length → iaV 2 g i (some x) = some (.ptr b (o + i * 2), g, [])
  cells : F ≠ [] → cellsAt h b = some (.vals l) ∧ faceOk h b = true ∧ b < h.length
  elt : ∀ (i : Nat) (t : Int) (D : List Int), F[i]? = some (t, D) → (0 ≤ t ∧ t < 65536) ∧ l[o + i * 2]? = some (.int .u16 t) ∧ ∃ d, l[o + i * 2 + 1]? = some d ∧ BV h d D ∧ nilOf d ≠ none
def ExtAt (h : AHeap) (x : AV) (F : List (Int × List Int)) : Prop := ∃ b o l, XR h x F b o l
theorem cellsAt_app {h : AHeap} {b : Nat} (js : AHeap) (hb : b < h.length) : cellsAt (h ++ js) b = cellsAt h b := by
  unfold cellsAt; rw [List.getElem?_append_left hb]
theorem faceOk_app {h : AHeap} {b : Nat} (js : AHeap) (hb : b < h.length) : faceOk (h ++ js) b = faceOk h b := by
  unfold faceOk; rw [List.getElem?_append_left hb]
theorem XR.app {h : AHeap} {x : AV} {F : List (Int × List Int)} {b o : Nat} {l : List AV} (r : XR h x F b o l) (js : AHeap) : XR (h ++ js) x F b o l := by
  refine ⟨r.len, r.ia, fun hF => ?_, fun i t D hi => ?_⟩
  · obtain ⟨h1, h2, h3⟩ := r.cells hF
    exact ⟨by rw [cellsAt_app js h3]; exact h1, by rw [faceOk_app js h3]; exact h2, by rw [List.length_append]; omega⟩
  · obtain ⟨h1, h2, d, h3, h4, h5⟩ := r.elt i t D hi
    exact ⟨h1, h2, d, h3, h4.app js, h5⟩
theorem ExtAt.app {h : AHeap} {x : AV} {F : List (Int × List Int)} (r : ExtAt h x F) (js : AHeap) : ExtAt (h ++ js) x F := by
  obtain ⟨b, o, l, r⟩ := r; exact ⟨b, o, l, r.app js⟩
theorem ExtAt.len {h : AHeap} {x : AV} {F : List (Int × List Int)} (r : ExtAt h x F) : slen x = some F.length := by
  obtain ⟨b, o, l, r⟩ := r; exact r.len
theorem XR.nil (h : AHeap) : XR h .nils [] 0 0 [] := ⟨rfl, fun g i hi => by simp at hi, fun hF => absurd rfl hF, fun i t D hi => by simp at hi⟩
theorem ExtAt.nil (h : AHeap) : ExtAt h .nils [] := ⟨0, 0, [], XR.nil h⟩
theorem slen_nil {x : AV} {n : Nat} (h : slen x = some n) (h0 : x.lt 0 = true) : x = .nils ∧ n = 0 := by
  cases x <;> simp [slen, AV.lt] at h h0 ⊢ <;> omega
theorem ExtAt.gl {h g : AHeap} {x : AV} {F : List (Int × List Int)} (r : ExtAt h x F) (h0 : x.lt 0 = true) : ExtAt g x F := by
  obtain ⟨rfl, hn⟩ := slen_nil r.len h0
  obtain rfl : F = [] := List.length_eq_zero_iff.1 hn
  exact ExtAt.nil g
theorem BV.gl {h g : AHeap} {x : AV} {D : List Int} (r : BV h x D) (h0 : x.lt 0 = true) : BV g x D := by
  obtain ⟨rfl, hn⟩ := slen_nil r.len h0
  obtain rfl : D = [] := List.length_eq_zero_iff.1 hn
  exact BV.nil g
/-- A load, in one step. -/
def ldV (agg : Option Nat) (h : AHeap) : Option AV → Option (AV × AHeap × List Nat)
  | some (.ptr b off) => (cellsAt h b).bind fun c => (loadA c off agg).map fun v => (v, h, [])
  | _ => none
theorem ldv_eq (i : Nat) (call : CallT) (agg : Option Nat) (a : Acts) (h : AHeap) : aop call (.ld agg (.t i)) a h = ldV agg h (look a i) := by
  simp only [aop, aeval]
  cases look a i with
  | none => rfl
  | some v => cases v <;> rfl
theorem XR.ldA {h : AHeap} {x : AV} {F : List (Int × List Int)} {b o : Nat} {l : List AV} (r : XR h x F b o l) {i : Nat} {t : Int} {d : AV} (hlt : i < F.length) (l1 : l[o + i * 2]? = some (.int .u16 t)) (l2 : l[o + i * 2 + 1]? = some d) :
    ldV (some 2) h (some (.ptr b (o + i * 2))) = some (.agg [.int .u16 t, d], h, []) ∧ ldV none h (some (.ptr b (o + i * 2))) = some (.int .u16 t, h, []) ∧ ldV none h (some (.ptr b (o + (i * 2 + 1)))) = some (d, h, []) := by
  obtain ⟨hc1, _⟩ := r.cells (by rintro rfl; simp at hlt)
  refine ⟨?_, ?_, ?_⟩
  · simp only [ldV, hc1, Option.bind_some, loadA, loadN, ACells.get?, l1, l2, Option.map_some]
  · simp only [ldV, hc1, Option.bind_some, loadA, ACells.get?, l1, Option.map_some]
  · simp only [ldV, hc1, Option.bind_some, loadA, ACells.get?, ← Nat.add_assoc, l2, Option.map_some]
/-- May a field be so long? -/
def mayN (n : Nat) : Bool := decide (n % 4 = 0) && (decide (12 ≤ n) && decide (n ≤ 464))
theorem may_n {n : Nat} (hn : n < 1000000000) (h : AHeap) : W CP 68 [.int .i64 (n : Int)] h = some (.bool (mayN n), h, []) := by
  refine W_val (m := M68) (fun _ => rfl) rfl rfl rfl ?_ h
  have e1 : Int.tmod (n : Int) 4 = ((n % 4 : Nat) : Int) := rfl
  obtain ⟨r, hr⟩ : ∃ r, n % 4 = r := ⟨_, rfl⟩
  rw [hr] at e1
  unfold mayN
  rw [hr]
  have x1 : ((r : Int) = 0) = (r = 0) := by apply propext; omega
  have x2 : ((12 : Int) ≤ (n : Int)) = (12 ≤ n) := by apply propext; omega
  have x3 : ((n : Int) ≤ 464) = (n ≤ 464) := by apply propext; omega
  by_cases c1 : r = 0 <;> by_cases c2 : 12 ≤ n <;> by_cases c3 : n ≤ 464
  all_goals simp (maxDischargeDepth := 9) -implicitDefEqProofs only [push_cast, simprocAttr, M68, e1, x1, x2, x3, c1, c2, c3, decide_true, decide_false, Bool.and_true, Bool.and_false, Bool.and_self]
theorem may1_c {h : AHeap} {t : Int} {d : AV} {D : List Int} (hg : Good h) (hd : BV h d D) (hl : D.length < 1000000000) : W CP 112 [.agg [.int .u16 t, d]] h = some (.bool (!mayN D.length), h, []) := by
  have e1 := fun g => may_n hl g
  have h1 := hd.len
  have h2 := hd.na
  have h3 := hd.cell
  refine W_bothH (m := M112) (fun g => True) (fun _ => rfl) rfl rfl rfl glG (fun _ => trivial) (fun g hg _ => ?_) hg trivial
  simp (maxDischargeDepth := 9) -implicitDefEqProofs only [push_cast, simprocAttr, M112, nadd1, nadd2, nadd3, nadd4, nadd5, nadd6, nadd7, nadd8, nadd9, nadd10, nadd11, nadd12, h1, h2, h3, e1]
  exact quiet_i
theorem same1_c {h : AHeap} {t u : Int} {d e : AV} {D E : List Int} (hg : Good h) (hd : BV h d D) (he : BV h e E) : W CP 79 [.agg [.int .u16 t, d], .agg [.int .u16 u, e]] h = some (.bool (decide (t = u) && decide (D = E)), h, []) := by
  have h3 := hd.cell
  have h4 := he.cell
  have h5 := hd.na
  have h6 := he.na
  refine W_bothH (m := M79) (fun g => BV g d D ∧ BV g e E) (fun _ => rfl) rfl rfl rfl glG (fun h0 => ?_) (fun g hg ⟨hd, he⟩ => ?_) hg ⟨hd, he⟩
  · simp only [AV.lts, AV.lt, Bool.and_eq_true] at h0
    exact ⟨hd.gl h0.1.2.1, he.gl h0.2.1.2.1⟩
  · have e1 := equal_c (h := g ++ [⟨.tip false, .vals [.int .u16 t, d]⟩, ⟨.tip false, .vals [.int .u16 u, e]⟩]) (good_app hg rfl) (hd.app _) (he.app _)
    by_cases c : t = u
    · subst c
      simp (maxDischargeDepth := 9) -implicitDefEqProofs only [push_cast, simprocAttr, M79, nadd1, nadd2, nadd3, nadd4, nadd5, nadd6, nadd7, nadd8, nadd9, nadd10, nadd11, nadd12, h3, h4, h5, h6, e1, decide_true]
      exact quiet_i
    · simp (maxDischargeDepth := 9) -implicitDefEqProofs only [push_cast, simprocAttr, M79, nadd1, nadd2, nadd3, nadd4, nadd5, nadd6, nadd7, nadd8, nadd9, nadd10, nadd11, nadd12, h3, h4, h5, h6, c, decide_false]
      exact quiet_i
/-- The first that P takes, or -1. -/
def firstI (P : Int × List Int → Bool) (F : List (Int × List Int)) : Int := match F.findIdx? P with
  | some j => j
  | none => -1
set_option maxHeartbeats 2000000 in
theorem xindex_c {h : AHeap} {x : AV} {F : List (Int × List Int)} {f : Nat} {caps : List AV} {P : Int × List Int → Bool} (hg : Good h) (hx : ExtAt h x F) (hF : F.length < 1000000) (hfx : AV.lts h.length caps = true)
    (hP : ∀ g, Good g → ExtAt g x F → (AV.lts g.length caps = true) → (g = h ∨ (AV.lts 0 caps = true ∧ g = CP.gl)) → ∀ (i : Nat) (t : Int) (D : List Int) (d : AV), F[i]? = some (t, D) → BV g d D → W CP f (.agg [.int .u16 t, d] :: caps) g = some (.bool (P (t, D)), g, [])) :
    W CP 125 [x, .fn f caps] h = some (.int .i64 (firstI P F), h, []) := by
  refine W_bothH (m := M125) (fun g => ExtAt g x F ∧ (AV.lts g.length caps = true) ∧ (g = h ∨ (AV.lts 0 caps = true ∧ g = CP.gl))) (fun _ => rfl) rfl rfl rfl glG (fun h0 => ?_) (fun g hg ⟨hx, hfx, hgh⟩ => ?_) hg ⟨hx, hfx, Or.inl rfl⟩
  · simp only [AV.lts, AV.lt, Bool.and_eq_true] at h0
    exact ⟨hx.gl h0.1, AV.lts_mono (Nat.zero_le _) _ h0.2.1, Or.inr ⟨h0.2.1, rfl⟩⟩
  · have hPg := hP g hg hx hfx hgh
    obtain ⟨b, o, l, r⟩ := hx
    have h1 := r.len
    have h2 := na_slen r.len
    have hia := r.ia
    simp (maxDischargeDepth := 9) -implicitDefEqProofs only [push_cast, simprocAttr, M125, h1, h2]
    refine wp_kRes (wp_kSeq (wp_kBlock ?_))
    refine wp_loop (fun k a h' ws => ∃ i : Nat, k = F.length - i ∧ i ≤ F.length ∧ a = [(0, x), (1, .fn f caps), (7, .int .i64 (F.length : Int)), (8, .int .i64 (i : Int))] ∧ (∀ j z, j < i → F[j]? = some z → P z = false) ∧ h' = g ∧ ws = []) F.length ?_ ?_
    · refine ⟨0, by omega, by omega, ?_, by omega, rfl, rfl⟩
      simp (maxDischargeDepth := 9) -implicitDefEqProofs only [push_cast, simprocAttr, h2]
    · rintro k aa h' ws ⟨i, rfl, hi, rfl, hno, rfl, rfl⟩
      have v1 : IntKind.i64.wrap ((i : Int) + 1) = (i : Int) + 1 := wr_i64 _ (by omega) (by omega)
      by_cases hlt : i < F.length
      · have hlt' : (i : Int) < (F.length : Int) := by omega
        obtain ⟨⟨t, D⟩, hz⟩ : ∃ z, F[i]? = some z := ⟨_, List.getElem?_eq_getElem hlt⟩
        obtain ⟨hc1, hc2, hc3⟩ := r.cells (by rintro rfl; simp at hlt)
        obtain ⟨ht, l1, d, l2, hd, hnn⟩ := r.elt i t D hz
        have ef := hPg i t D d hz hd
        obtain ⟨q1, q2, q3⟩ := r.ldA hlt l1 l2
        have hdc := hd.cell
        cases hp : P (t, D) with
        | true =>
          rw [hp] at ef
          have hfi : firstI P F = (i : Int) := by
            have : F.findIdx? P = some i := by
              rw [List.findIdx?_eq_some_iff_getElem]
              refine ⟨hlt, ?_, fun j hj => ?_⟩
              · rw [List.getElem?_eq_getElem hlt] at hz; rw [Option.some.inj hz, hp]
              · rw [hno j _ hj (List.getElem?_eq_getElem (by omega))]; simp
            unfold firstI; rw [this]
          simp (maxDischargeDepth := 9) -implicitDefEqProofs only [push_cast, simprocAttr, hlt', h2, ↓ia_eq, hia, hlt, ↓ldv_eq 14, q1, ef]
          rw [hfi]
          exact quiet_0
        | false =>
          rw [hp] at ef
          simp (maxDischargeDepth := 9) -implicitDefEqProofs only [push_cast, simprocAttr, hlt', h2, v1, ↓ia_eq, hia, hlt, ↓ldv_eq 14, q1, ef]
          refine loop_next (F.length - (i + 1)) (by omega) ⟨i + 1, rfl, by omega, ?_, fun j z hj hz' => ?_, rfl, rfl⟩
          · simp (maxDischargeDepth := 9) -implicitDefEqProofs only [push_cast, simprocAttr]; try simp
          · by_cases hji : j < i
            · exact hno j z hji hz'
            · obtain rfl : j = i := by omega
              rw [hz] at hz'; cases hz'; exact hp
      · have hi2 : i = F.length := by omega
        subst hi2
        have hnl : ¬ (F.length : Int) < (F.length : Int) := by omega
        have hfi : firstI P F = -1 := by
          have : F.findIdx? P = none := by
            rw [List.findIdx?_eq_none_iff]
            intro z hz
            obtain ⟨j, hj⟩ := List.getElem?_of_mem hz
            exact hno j z (List.getElem?_eq_some_iff.1 hj).1 hj
          unfold firstI; rw [this]
        simp (maxDischargeDepth := 9) -implicitDefEqProofs only [push_cast, simprocAttr]
        rw [hfi]
        exact quiet_0
end Go.Proofs.YtdpbbagllhfjbaaDoorW.AI.G
namespace Go.Proofs.YtdpbbagllhfjbaaDoorW.AI.G
open Go Go.Proofs.YtdpbbagllhfjbaaDoorW.AI Go.Proofs.YtdpbbagllhfjbaaDoorW.AI.Oct
set_option maxRecDepth 100000
set_option linter.unusedSimpArgs false
set_option linter.unusedVariables false
set_option linter.unusedSectionVars false
theorem firstI_none {P : Int × List Int → Bool} {F : List (Int × List Int)} (h : F.any P = false) : firstI P F = -1 := by
  have : F.findIdx? P = none := by
    rw [List.findIdx?_eq_none_iff]
    intro z hz
    rw [List.any_eq_false] at h
    simpa using h z hz
  unfold firstI; rw [this]
theorem firstI_some {P : Int × List Int → Bool} {F : List (Int × List Int)} (h : F.any P = true) : ∃ (j : Nat) (z : Int × List Int), firstI P F = (j : Int) ∧ F[j]? = some z ∧ P z = true ∧ ∀ (k : Nat) (y : Int × List Int), k < j → F[k]? = some y → P y = false := by
  cases hi : F.findIdx? P with
  | none =>
    rw [List.findIdx?_eq_none_iff] at hi
    obtain ⟨z, hz, hp⟩ := List.any_eq_true.1 h
    rw [hi z hz] at hp; cases hp
  | some j =>
    have hj := hi
    rw [List.findIdx?_eq_some_iff_getElem] at hj
    obtain ⟨hl, h1, h2⟩ := hj
    refine ⟨j, F[j], by unfold firstI; rw [hi], List.getElem?_eq_getElem hl, h1, fun k y hk hy => ?_⟩
    have := h2 k hk
    obtain ⟨hk', rfl⟩ := List.getElem?_eq_some_iff.1 hy
    simpa using this
/-- May fields be so? -/
def badX (z : Int × List Int) : Bool := !mayN z.2.length
def mayX (F : List (Int × List Int)) : Bool := decide (F.length ≤ 8) && !F.any badX
theorem xcontains_c {h : AHeap} {x : AV} {F : List (Int × List Int)} (hg : Good h) (hx : ExtAt h x F) (hF : F.length < 1000000) (hD : ∀ z ∈ F, z.2.length < 1000000000) : W CP 111 [x, .fn 112 []] h = some (.bool (F.any badX), h, []) := by
  have h2 := na_slen hx.len
  have ei : ∀ g, Good g → ExtAt g x F → W CP 125 [x, .fn 112 []] g = some (.int .i64 (firstI badX F), g, []) := fun g hg hx =>
    xindex_c hg hx hF rfl fun g hg _ _ _ i t D d hz hd => may1_c hg hd (hD _ (List.mem_of_getElem? hz))
  refine W_bothH (m := M111) (fun g => ExtAt g x F) (fun _ => rfl) rfl rfl rfl glG (fun h0 => ?_) (fun g hg hx => ?_) hg hx
  · simp only [AV.lts, AV.lt, Bool.and_eq_true] at h0
    exact hx.gl h0.1
  · have e1 := ei g hg hx
    cases ha : F.any badX with
    | true =>
      obtain ⟨j, z, hj, _⟩ := firstI_some ha
      rw [hj] at e1
      have : (0 : Int) ≤ (j : Int) := by omega
      simp (maxDischargeDepth := 9) -implicitDefEqProofs only [push_cast, simprocAttr, M111, h2, e1, this]
      exact quiet_0
    | false =>
      rw [firstI_none ha] at e1
      simp (maxDischargeDepth := 9) -implicitDefEqProofs only [push_cast, simprocAttr, M111, h2, e1]
      exact quiet_0
theorem mayX_c {h : AHeap} {x : AV} {F : List (Int × List Int)} (hg : Good h) (hx : ExtAt h x F) (hF : F.length < 1000000) (hD : ∀ z ∈ F, z.2.length < 1000000000) : W CP 87 [x] h = some (.bool (mayX F), h, []) := by
  have h1 := hx.len
  have h2 := na_slen h1
  refine W_bothH (m := M87) (fun g => ExtAt g x F) (fun _ => rfl) rfl rfl rfl glG (fun h0 => ?_) (fun g hg hx => ?_) hg hx
  · simp only [AV.lts, AV.lt, Bool.and_eq_true] at h0
    exact hx.gl h0.1
  · have e1 := xcontains_c hg hx hF hD
    unfold mayX
    have x1 : ((F.length : Int) ≤ 8) = (F.length ≤ 8) := by apply propext; omega
    by_cases c : F.length ≤ 8
    · cases ha : F.any badX <;> rw [ha] at e1
      all_goals
        simp (maxDischargeDepth := 9) -implicitDefEqProofs only [push_cast, simprocAttr, M87, h1, h2, x1, c, e1, decide_true, Bool.and_true, Bool.and_false]
        exact quiet_0
    · simp (maxDischargeDepth := 9) -implicitDefEqProofs only [push_cast, simprocAttr, M87, h1, h2, x1, c, decide_false, Bool.false_and]
      exact quiet_0
theorem take_succ_same {F G : List (Int × List Int)} {i : Nat} {z : Int × List Int} (h : F.take i = G.take i) (hF : F[i]? = some z) (hG : G[i]? = some z) : F.take (i + 1) = G.take (i + 1) := by
  rw [List.take_add_one, List.take_add_one, h, hF, hG]
set_option maxHeartbeats 2000000 in
theorem equalX_c {h : AHeap} {x y : AV} {F G : List (Int × List Int)} (hg : Good h) (hx : ExtAt h x F) (hy : ExtAt h y G) (hF : F.length < 1000000) : W CP 78 [x, y, .fn 79 []] h = some (.bool (decide (F = G)), h, []) := by
  refine W_bothH (m := M78) (fun g => ExtAt g x F ∧ ExtAt g y G) (fun _ => rfl) rfl rfl rfl glG (fun h0 => ?_) (fun g hg ⟨hx, hy⟩ => ?_) hg ⟨hx, hy⟩
  · simp only [AV.lts, AV.lt, Bool.and_eq_true] at h0
    exact ⟨hx.gl h0.1, hy.gl h0.2.1⟩
  · obtain ⟨b, o, l, r⟩ := hx
    obtain ⟨b2, o2, m2, r2⟩ := hy
    have h1 := r.len
    have h2 := na_slen r.len
    have h3 := r2.len
    have h4 := na_slen r2.len
    have hia := r.ia
    have hia2 := r2.ia
    by_cases hne : F.length = G.length
    case neg =>
      have hne' : ¬ (F.length : Int) = (G.length : Int) := by omega
      have hd : decide (F = G) = false := decide_eq_false fun e => hne (by rw [e])
      rw [hd]
      simp (maxDischargeDepth := 9) -implicitDefEqProofs only [push_cast, simprocAttr, M78, h1, h2, h3, h4, hne']
      exact quiet_0
    have hne' : (F.length : Int) = (G.length : Int) := by omega
    simp (maxDischargeDepth := 9) -implicitDefEqProofs only [push_cast, simprocAttr, M78, h1, h2, h3, h4, hne']
    refine wp_kRes (wp_kSeq (wp_kBlock ?_))
    refine wp_loop (fun k a h' ws => ∃ i : Nat, k = F.length - i ∧ i ≤ F.length ∧ a = [(1, y), (2, .fn 79 []), (15, x), (16, .int .i64 (G.length : Int)), (17, .int .i64 (i : Int))] ∧ F.take i = G.take i ∧ (∃ js : AHeap, h' = g ++ js ∧ js.all notOld = true) ∧ ws = []) F.length ?_ ?_
    · refine ⟨0, by omega, by omega, ?_, by simp, ⟨[], by simp, rfl⟩, rfl⟩
      simp (maxDischargeDepth := 9) -implicitDefEqProofs only [push_cast, simprocAttr, h2, h4]
    · rintro k aa h' ws ⟨i, rfl, hi, rfl, htk, ⟨js, rfl, hjs⟩, rfl⟩
      have v1 : IntKind.i64.wrap ((i : Int) + 1) = (i : Int) + 1 := wr_i64 _ (by omega) (by omega)
      have hgj : Good (g ++ js) := good_app hg hjs
      have r' := r.app js
      have r2' := r2.app js
      obtain ⟨H, hH⟩ : ∃ H, g ++ js = H := ⟨_, rfl⟩
      have hHl : g.length ≤ H.length := by rw [← hH]; simp
      have hnl0 : ¬ H.length < g.length := by omega
      have hnl1 : ¬ H.length + 1 < g.length := by omega
      rw [hH] at hgj r' r2' ⊢
      by_cases hlt : i < F.length
      · have hlt' : (i : Int) < (G.length : Int) := by omega
        have hlt2 : i < G.length := by omega
        obtain ⟨⟨t, D⟩, hz⟩ : ∃ z, F[i]? = some z := ⟨_, List.getElem?_eq_getElem hlt⟩
        obtain ⟨⟨u, E⟩, hz2⟩ : ∃ z, G[i]? = some z := ⟨_, List.getElem?_eq_getElem (by omega)⟩
        obtain ⟨ht, l1, d, l2, hd, hnn⟩ := r'.elt i t D hz
        obtain ⟨hu, n1, e, n2, he, hnn2⟩ := r2'.elt i u E hz2
        obtain ⟨q1, q2, q3⟩ := r'.ldA hlt l1 l2
        have r2'' := r2'.app [⟨.tip false, .vals [.int .u16 t, d]⟩]
        obtain ⟨p1, p2, p3⟩ := r2''.ldA hlt2 n1 n2
        have hdc := hd.cell
        have hec := he.cell
        have es := same1_c (t := t) (u := u) (h := H ++ [⟨.tip false, .vals [.int .u16 t, d]⟩, ⟨.tip false, .vals [.int .u16 u, e]⟩]) (good_app hgj rfl) (hd.app _) (he.app _)
        by_cases heq : t = u ∧ D = E
        · obtain ⟨rfl, rfl⟩ := heq
          simp only [decide_true, Bool.and_self] at es
          simp (maxDischargeDepth := 9) -implicitDefEqProofs only [push_cast, simprocAttr, nadd1, nadd2, nadd3, nadd4, nadd5, nadd6, nadd7, nadd8, nadd9, nadd10, nadd11, nadd12, hlt', h1, h2, h3, h4, v1, ↓ia_eq, hia, hia2, hlt, hlt2, ↓ldv_eq 20, ↓ldv_eq 24, q1, p1, hdc, hec, hnl0, hnl1, es]
          refine loop_next (F.length - (i + 1)) (by omega) ⟨i + 1, rfl, by omega, ?_, take_succ_same htk hz hz2, ⟨js ++ [⟨.tip false, .vals [.int .u16 t, d]⟩, ⟨.tip false, .vals [.int .u16 t, e]⟩], by rw [← hH, List.append_assoc], by rw [List.all_append, hjs]; rfl⟩, rfl⟩
          simp (maxDischargeDepth := 9) -implicitDefEqProofs only [push_cast, simprocAttr, h2, h4]; try simp
        · have hd0 : (decide (t = u) && decide (D = E)) = false := by
            rw [Bool.eq_false_iff]; intro h5
            simp only [Bool.and_eq_true, decide_eq_true_eq] at h5
            exact heq h5
          rw [hd0] at es
          have hF : decide (F = G) = false := decide_eq_false fun e => by
            rw [e, hz2] at hz
            cases hz
            exact heq ⟨rfl, rfl⟩
          rw [hF]
          simp (maxDischargeDepth := 9) -implicitDefEqProofs only [push_cast, simprocAttr, nadd1, nadd2, nadd3, nadd4, nadd5, nadd6, nadd7, nadd8, nadd9, nadd10, nadd11, nadd12, hlt', h1, h2, h3, h4, v1, ↓ia_eq, hia, hia2, hlt, hlt2, ↓ldv_eq 20, ↓ldv_eq 24, q1, p1, hdc, hec, hnl0, hnl1, es]
          rw [← hH, List.append_assoc]
          exact quiet_i
      · have hi2 : i = F.length := by omega
        have hnl : ¬ (i : Int) < (G.length : Int) := by omega
        have hFG : decide (F = G) = true := decide_eq_true (by
          rw [hi2, List.take_length, hne, List.take_length] at htk
          exact htk)
        rw [hFG]
        simp (maxDischargeDepth := 9) -implicitDefEqProofs only [push_cast, simprocAttr, hnl]
        rw [← hH]
        exact quiet_i
theorem sameX_c {h : AHeap} {x y : AV} {F G : List (Int × List Int)} (hg : Good h) (hx : ExtAt h x F) (hy : ExtAt h y G) (hF : F.length < 1000000) : W CP 47 [x, y] h = some (.bool (decide (F = G)), h, []) := by
  have h2 := na_slen hx.len
  have h4 := na_slen hy.len
  refine W_bothH (m := M47) (fun g => ExtAt g x F ∧ ExtAt g y G) (fun _ => rfl) rfl rfl rfl glG (fun h0 => ?_) (fun g hg ⟨hx, hy⟩ => ?_) hg ⟨hx, hy⟩
  · simp only [AV.lts, AV.lt, Bool.and_eq_true] at h0
    exact ⟨hx.gl h0.1, hy.gl h0.2.1⟩
  · have e1 := equalX_c hg hx hy hF
    simp (maxDischargeDepth := 9) -implicitDefEqProofs only [push_cast, simprocAttr, M47, h2, h4, e1]
    exact quiet_0
end Go.Proofs.YtdpbbagllhfjbaaDoorW.AI.G
namespace Go.Proofs.YtdpbbagllhfjbaaDoorW.AI.G
open Go Go.Proofs.YtdpbbagllhfjbaaDoorW.AI Go.Proofs.YtdpbbagllhfjbaaDoorW.AI.Oct
set_option maxRecDepth 100000
set_option linter.unusedSimpArgs false
set_option linter.unusedVariables false
set_option linter.unusedSectionVars false
end Go.Proofs.YtdpbbagllhfjbaaDoorW.AI.G

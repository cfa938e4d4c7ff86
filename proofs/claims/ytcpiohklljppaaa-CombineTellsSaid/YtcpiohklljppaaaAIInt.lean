import Derived.Test.YtcpiohklljppaaaAIBig
/-! Slices of whole numbers of one kind. -/
namespace Go.Proofs.YtcpiohklljppaaaW.AI
open Go
set_option linter.unusedVariables false
set_option linter.unusedSimpArgs false
/-- A slice that says a row of numbers. -/
def IV (k : IntKind) (h : AHeap) (v : AV) (L : List Int) : Prop := (v = .nils ∧ L = []) ∨ ∃ b c st l mn, h[b]? = some ⟨st, .ints k l⟩ ∧ BLiv st ∧ L.length ≤ l.length ∧ l.take L.length = L ∧ ((v = .sl b 0 L.length c ∧ L.length ≤ c) ∨ v = .gsl b 0 L.length 1 mn)
theorem IV.nil (k : IntKind) (h : AHeap) : IV k h .nils [] := Or.inl ⟨rfl, rfl⟩
theorem IV.len {k : IntKind} {h : AHeap} {v : AV} {L : List Int} (u : IV k h v L) : slen v = some L.length := by
  obtain ⟨rfl, rfl⟩ | ⟨b, c, st, l, mn, _, _, _, _, ⟨rfl, _⟩ | rfl⟩ := u <;> rfl
theorem IV.na {k : IntKind} {h : AHeap} {v : AV} {L : List Int} (u : IV k h v L) : noAny (some v) = some v := na_slen u.len
theorem IV.cell {k : IntKind} {h : AHeap} {v : AV} {L : List Int} (u : IV k h v L) : v.isCell = true := by
  obtain ⟨rfl, rfl⟩ | ⟨b, c, st, l, mn, _, _, _, _, ⟨rfl, _⟩ | rfl⟩ := u <;> rfl
theorem IV.keep {k : IntKind} {h h' : AHeap} {v : AV} {L : List Int} (u : IV k h v L) (hm : ∀ (q : Nat) (z : ABlk), h[q]? = some z → (∃ l, z.c = .ints k l) → h'[q]? = some z) : IV k h' v L := by
  obtain q | ⟨b, c, st, l, mn, e, r⟩ := u
  · exact Or.inl q
  · exact Or.inr ⟨b, c, st, l, mn, hm _ _ e ⟨l, rfl⟩, r⟩
theorem IV.app {k : IntKind} {h : AHeap} {v : AV} {L : List Int} (u : IV k h v L) (js : AHeap) : IV k (h ++ js) v L := u.keep fun q z e _ => by rw [List.getElem?_append_left (List.getElem?_eq_some_iff.1 e).1]; exact e
theorem IV.kept {k : IntKind} {h h' : AHeap} {v : AV} {L : List Int} (u : IV k h v L) (q : Keeps h h' none) : IV k h' v L := u.keep fun p z e _ => keepsN q p z e
theorem IV.down {k : IntKind} {h js : AHeap} {v : AV} {L : List Int} (u : IV k (h ++ js) v L) (hv : v.lt h.length = true) : IV k h v L := by
  obtain q | ⟨b, c, st, l, mn, e, r1, r2, r3, r4⟩ := u
  · exact Or.inl q
  · have hb : b < h.length := by
      rcases r4 with ⟨rfl, _⟩ | rfl <;> simpa [AV.lt] using hv
    rw [List.getElem?_append_left hb] at e
    exact Or.inr ⟨b, c, st, l, mn, e, r1, r2, r3, r4⟩
theorem IV.gl {k : IntKind} {h g : AHeap} {v : AV} {L : List Int} (u : IV k h v L) (h0 : v.lt 0 = true) : IV k g v L := by
  have a : IV k ([] ++ h) v L := u
  exact (a.down (h := []) h0).app g
theorem IV.set {k : IntKind} {h : AHeap} {v : AV} {L : List Int} (u : IV k h v L) {p : Nat} {z y : ABlk} (e : h[p]? = some z) (hz : ∀ l, z.c ≠ .ints k l) : IV k (h.set p y) v L := u.keep fun q x ex ⟨l, hl⟩ => by
  rw [List.getElem?_set_ne]
  · exact ex
  · rintro rfl
    rw [e] at ex; cases ex
    exact hz l hl
/-- What element i is. -/
theorem IV.at {k : IntKind} {h : AHeap} {v : AV} {L : List Int} (u : IV k h v L) {i : Nat} {d : Int} (hd : L[i]? = some d) : ∃ b, (∀ g, uia 1 g i (some v) = some (.ptr b i, g, [])) ∧ uld none h (some (.ptr b i)) = some (.int k d, h, []) ∧ b < h.length := by
  obtain ⟨hi, _⟩ := List.getElem?_eq_some_iff.1 hd
  obtain ⟨_, q⟩ | ⟨b, c, st, l, mn, e, hs, hl, ht, hv⟩ := u
  · rw [q] at hd; simp at hd
  · refine ⟨b, fun g => ?_, ?_, (List.getElem?_eq_some_iff.1 e).1⟩
    · rcases hv with ⟨rfl, _⟩ | rfl
      · simp [uia, hi]
      · simp [uia, hi]
    · have hc : cellsAt h b = some (.ints k l) := by
        rcases hs with rfl | ⟨o, rfl⟩ <;> simp [cellsAt, e]
      have hli : l[i]? = some d := by
        rw [← ht, List.getElem?_take, if_pos hi] at hd
        exact hd
      simp only [uld, hc, Option.bind_some, loadA, ACells.get?, hli, Option.map_some]
/-- What element i is, and stays. -/
theorem IV.atk {k : IntKind} {h h' : AHeap} {v : AV} {L : List Int} (u : IV k h v L) (u' : IV k h' v L) {i : Nat} {d : Int} (hd : L[i]? = some d) : ∃ b, (∀ g, uia 1 g i (some v) = some (.ptr b i, g, [])) ∧ uld none h (some (.ptr b i)) = some (.int k d, h, []) ∧ uld none h' (some (.ptr b i)) = some (.int k d, h', []) := by
  obtain ⟨b, e1, e2, _⟩ := u.at hd
  obtain ⟨c, f1, f2, _⟩ := u'.at hd
  have := (e1 []).symm.trans (f1 [])
  simp only [Option.some.injEq, Prod.mk.injEq, AV.ptr.injEq, and_true] at this
  subst this
  exact ⟨b, e1, e2, f2⟩
theorem IV.shape {k : IntKind} {h : AHeap} {v : AV} {L : List Int} (u : IV k h v L) : v = .nils ∨ (∃ b n c, v = .sl b 0 n c) ∨ ∃ b n mn, v = .gsl b 0 n 1 mn := by
  obtain ⟨rfl, rfl⟩ | ⟨b, c, st, l, mn, _, _, _, _, ⟨rfl, _⟩ | rfl⟩ := u
  · exact Or.inl rfl
  · exact Or.inr (Or.inl ⟨_, _, _, rfl⟩)
  · exact Or.inr (Or.inr ⟨_, _, _, rfl⟩)
theorem IV.cut {k : IntKind} {h : AHeap} {v : AV} {L : List Int} (u : IV k h v L) {j : Nat} (hk : j ≤ L.length) : ∃ w, (∀ g, ucut g j (some v) = some (w, g, [])) ∧ IV k h w (L.take j) ∧ ∀ n, v.lt n = true → w.lt n = true := by
  have hl' : (L.take j).length = j := by rw [List.length_take]; omega
  obtain ⟨rfl, rfl⟩ | ⟨b, c, st, l, mn, e, hs, hl, ht, hv⟩ := u
  · obtain rfl : j = 0 := by simpa using hk
    exact ⟨.nils, fun g => rfl, IV.nil k h, fun n h => h⟩
  · have ht2 : l.take (L.take j).length = L.take j := by
      rw [hl']
      conv => rhs; rw [← ht]
      rw [List.take_take, Nat.min_eq_left hk]
    rcases hv with ⟨rfl, hc⟩ | rfl
    · refine ⟨.sl b 0 j c, fun g => ?_, Or.inr ⟨b, c, st, l, mn, e, hs, by omega, ht2, Or.inl ⟨by rw [hl'], by omega⟩⟩, fun n h => by simpa [AV.lt] using h⟩
      simp only [ucut, bounds, Option.getD_some, Option.getD_none]
      rw [if_pos ⟨by omega, by omega⟩]; rfl
    · refine ⟨.gsl b 0 j 1 mn, fun g => ?_, Or.inr ⟨b, c, st, l, mn, e, hs, by omega, ht2, Or.inr (by rw [hl'])⟩, fun n h => by simpa [AV.lt] using h⟩
      simp only [ucut, bounds, Option.getD_some, Option.getD_none, if_true]
      rw [if_pos ⟨hk, by omega⟩]; rfl
theorem IV.new {k : IntKind} {h : AHeap} {v : AV} {L : List Int} (u : IV k h v L) : newCells h (.ints k [0]) v = some (.ints k L) := by
  obtain ⟨rfl, rfl⟩ | ⟨b, c, st, l, mn, e, hs, hl, ht, hv⟩ := u
  · rfl
  · have hc : cellsAt h b = some (.ints k l) := by
      rcases hs with rfl | ⟨o, rfl⟩ <;> simp [cellsAt, e]
    rcases hv with ⟨rfl, _⟩ | rfl
    · simp [newCells, sliceCells, hc, ACells.len, ACells.sub, hl, ht]
    · simp [newCells, sliceCells, hc, ACells.len, ACells.sub, hl, ht]
/-- A row that append may make longer: nil, or a whole block behind n. -/
def TI (k : IntKind) (h : AHeap) (v : AV) (L : List Int) (n : Nat) : Prop := (v = .nils ∧ L = []) ∨ ∃ p, n ≤ p ∧ ((v = .sl p 0 L.length L.length ∧ h[p]? = some ⟨.tip false, .ints k L⟩) ∨ (∃ o mn, v = .gsl p 0 L.length 1 mn ∧ h[p]? = some ⟨.tip o, .ints k L⟩))
theorem TI.iv {k : IntKind} {h : AHeap} {v : AV} {L : List Int} {n : Nat} (t : TI k h v L n) : IV k h v L := by
  rcases t with q | ⟨p, _, ⟨e, hp⟩ | ⟨o, mn, e, hp⟩⟩
  · exact Or.inl q
  · exact Or.inr ⟨p, L.length, _, L, false, hp, Or.inr ⟨_, rfl⟩, Nat.le_refl _, List.take_length, Or.inl ⟨e, Nat.le_refl _⟩⟩
  · exact Or.inr ⟨p, 0, _, L, mn, hp, Or.inr ⟨_, rfl⟩, Nat.le_refl _, List.take_length, Or.inr e⟩
theorem TI.blk {k : IntKind} {h : AHeap} {v : AV} {L : List Int} {n : Nat} (t : TI k h v L n) : ∀ q, blkU v = some q → n ≤ q := by
  intro q hq
  rcases t with ⟨rfl, _⟩ | ⟨p, hp, ⟨rfl, _⟩ | ⟨o, mn, rfl, _⟩⟩ <;> cases hq <;> exact hp
theorem TI.keep {k : IntKind} {h h' : AHeap} {v : AV} {L : List Int} {n : Nat} (t : TI k h v L n) (hm : ∀ (q : Nat) (z : ABlk), h[q]? = some z → h'[q]? = some z) : TI k h' v L n := by
  rcases t with q | ⟨p, h0, ⟨e, hp⟩ | ⟨o, mn, e, hp⟩⟩
  · exact Or.inl q
  · exact Or.inr ⟨p, h0, Or.inl ⟨e, hm _ _ hp⟩⟩
  · exact Or.inr ⟨p, h0, Or.inr ⟨o, mn, e, hm _ _ hp⟩⟩
theorem TI.lt {k : IntKind} {h : AHeap} {v : AV} {L : List Int} {n : Nat} (t : TI k h v L n) : ∀ q, blkU v = some q → q < h.length := by
  intro q hq
  rcases t with ⟨rfl, _⟩ | ⟨p, _, ⟨rfl, e⟩ | ⟨o, mn, rfl, e⟩⟩ <;> cases hq <;> exact (List.getElem?_eq_some_iff.1 e).1
theorem TI.keeps {k : IntKind} {h h' : AHeap} {v : AV} {L : List Int} {n : Nat} {p : Option Nat} (t : TI k h v L n) (q : Keeps h h' p) (hne : ∀ j, blkU v = some j → p ≠ some j) : TI k h' v L n := by
  rcases t with k | ⟨b, h0, ⟨rfl, e⟩ | ⟨o, mn, rfl, e⟩⟩
  · exact Or.inl k
  · exact Or.inr ⟨b, h0, Or.inl ⟨rfl, q.1 _ _ e (fun j _ => by simp) (hne _ rfl)⟩⟩
  · exact Or.inr ⟨b, h0, Or.inr ⟨o, mn, rfl, q.1 _ _ e (fun j _ => by simp) (hne _ rfl)⟩⟩
theorem roomE {n e : Nat} (h : n < 1000000) (he : e = 1 ∨ e = 8) : room n e = true := by
  simp only [room, decide_eq_true_eq]
  rcases he with rfl | rfl <;> omega
/-- Numbers are appended. -/
theorem appI {k : IntKind} {e : Nat} {H : AHeap} {v : AV} {L B : List Int} {m n : Nat} (he : e = 1 ∨ e = 8) (hv : TI k H v L n) (hm : B.length = m) (hl : L.length + m < 1000000) (hn : n ≤ H.length) :
    ∃ v' H' ws, aappend H (.ints k [0]) e v (.ints k B) m = some (v', H', ws) ∧ TI k H' v' (L ++ B) n ∧ (∀ b ∈ ws, n ≤ b) ∧ Keeps H H' (blkU v) ∧ (v'.isCell = true) ∧ (0 < m → blkU v' = some H.length) := by
  rcases hv with ⟨rfl, rfl⟩ | ⟨p, hp, ⟨rfl, ep⟩ | ⟨o, mn, rfl, ep⟩⟩
  · by_cases h0 : m = 0
    · subst h0
      obtain rfl : B = [] := List.length_eq_zero_iff.1 hm
      exact ⟨.nils, H, [], rfl, Or.inl ⟨rfl, rfl⟩, by simp, Keeps.refl _ _, rfl, by omega⟩
    · refine ⟨.gsl H.length 0 m 1 false, H ++ [⟨.tip false, .ints k B⟩], [], ?_, Or.inr ⟨H.length, hn, Or.inr ⟨false, false, by simp [hm], by simp⟩⟩, by simp, Keeps.app _ _ _ rfl, rfl, fun _ => rfl⟩
      simp only [aappend, if_neg h0]
      rw [roomE (by simp at hl; omega) he]
      rfl
  · by_cases h0 : m = 0
    · subst h0
      obtain rfl : B = [] := List.length_eq_zero_iff.1 hm
      refine ⟨.sl p 0 L.length L.length, H, [p], ?_, Or.inr ⟨p, hp, Or.inl ⟨by rw [List.append_nil], by rw [List.append_nil]; exact ep⟩⟩, by simpa using hp, Keeps.refl _ _, rfl, by omega⟩
      simp only [aappend, Nat.add_zero, Nat.le_refl, if_true, change, ep, ACells.list, List.map_nil, storeL, Option.map_some, Bool.false_eq_true, if_false]
      have : H.set p ⟨.tip false, .ints k L⟩ = H := List.ext_getElem? fun i => by
        by_cases hi : p = i
        · subst hi; rw [List.getElem?_set_self (List.getElem?_eq_some_iff.1 ep).1, ep]
        · rw [List.getElem?_set_ne hi]
      rw [this]
    · have hs : sliceCells H 1 (.sl p 0 L.length L.length) = some (.ints k L) := by simp [sliceCells, cellsAt, ep, ACells.len, ACells.sub]
      have hle : ¬ L.length + m ≤ L.length := by omega
      refine ⟨.gsl H.length 0 (L.length + m) 1 false, H ++ [⟨.tip false, .ints k (L ++ B)⟩], [], ?_, Or.inr ⟨H.length, hn, Or.inr ⟨false, false, by rw [List.length_append, hm], by simp⟩⟩, by simp, Keeps.app _ _ _ rfl, rfl, fun _ => rfl⟩
      simp only [aappend, if_neg hle, ACells.len, List.length_cons, List.length_nil, Nat.zero_add]
      rw [hs]
      simp only [Option.bind_some, ACells.app, if_true, roomE hl he]
  · have hpl := (List.getElem?_eq_some_iff.1 ep).1
    refine ⟨.gsl H.length 0 (L.length + m) 1 mn, ((if o then reTip p H.length H else H).set p ⟨.old H.length, .ints k L⟩) ++ [⟨.tip true, .ints k (L ++ B)⟩], [p], ?_, Or.inr ⟨H.length, hn, Or.inr ⟨true, mn, by rw [List.length_append, hm], ?_⟩⟩, by simpa using hp, ?_, rfl, fun _ => rfl⟩
    · simp only [aappend, ACells.len, List.length_cons, List.length_nil, ep]
      simp only [Nat.zero_add, Nat.mul_one, if_true]
      simp only [ACells.sub, List.drop_zero, Nat.mul_one, List.take_length, ACells.app, if_true, Option.bind_some]
      rw [roomE hl he]
      simp
    · rw [List.getElem?_append_right (by cases o <;> simp [len_reTip])]
      cases o <;> simp [len_reTip]
    · refine ⟨fun q x hq hx hne => ?_, by cases o <;> simp [len_reTip], fun hg => ?_⟩
      · have hpq : p ≠ q := fun e => hne (by rw [e]; rfl)
        rw [List.getElem?_append_left (by cases o <;> simp [len_reTip] <;> exact (List.getElem?_eq_some_iff.1 hq).1), List.getElem?_set_ne hpq]
        cases o
        · exact hq
        · exact reTip_keeps hq (hx p rfl)
      · cases o
        · exact good_set_old (y := ⟨.tip true, .ints k (L ++ B)⟩) hg hpl
        · exact good_reTip (y := ⟨.tip true, .ints k (L ++ B)⟩) hg hpl
theorem newI {k : IntKind} {H : AHeap} (d : Int) : newCells (H ++ [⟨.tip false, .ints k [d]⟩]) (.ints k [0]) (.sl H.length 0 1 1) = some (.ints k [d]) := by
  have hq : (H ++ [(⟨.tip false, .ints k [d]⟩ : ABlk)])[H.length]? = some ⟨.tip false, .ints k [d]⟩ := by simp
  simp [newCells, sliceCells, cellsAt, hq, ACells.len, ACells.sub]
end Go.Proofs.YtcpiohklljppaaaW.AI

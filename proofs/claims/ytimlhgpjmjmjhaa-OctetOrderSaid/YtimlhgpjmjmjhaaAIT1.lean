import Derived.Test.YtimlhgpjmjmjhaaAIBig
/-! Slices of bytes that append makes longer. -/
namespace Go.Proofs.YtimlhgpjmjmjhaaW.AI
open Go
set_option linter.unusedVariables false
set_option linter.unusedSimpArgs false
/-- A row that append may make longer: nil, or a whole block behind n. -/
def T1 (h : AHeap) (v : AV) (L : List Int) (n : Nat) : Prop := (v = .nils ∧ L = []) ∨ ∃ p, n ≤ p ∧ ((v = .sl p 0 L.length L.length ∧ h[p]? = some ⟨.tip false, .ints .u8 L⟩) ∨ (∃ o mn, v = .gsl p 0 L.length 1 mn ∧ h[p]? = some ⟨.tip o, .ints .u8 L⟩))
theorem T1.blk {h : AHeap} {v : AV} {L : List Int} {n : Nat} (t : T1 h v L n) : ∀ q, blkU v = some q → n ≤ q := by
  intro q hq
  rcases t with ⟨rfl, _⟩ | ⟨p, hp, ⟨rfl, _⟩ | ⟨o, mn, rfl, _⟩⟩ <;> cases hq <;> exact hp
theorem T1.keep {h h' : AHeap} {v : AV} {L : List Int} {n : Nat} (t : T1 h v L n) (hm : ∀ (q : Nat) (z : ABlk), h[q]? = some z → h'[q]? = some z) : T1 h' v L n := by
  rcases t with k | ⟨p, h0, ⟨e, hp⟩ | ⟨o, mn, e, hp⟩⟩
  · exact Or.inl k
  · exact Or.inr ⟨p, h0, Or.inl ⟨e, hm _ _ hp⟩⟩
  · exact Or.inr ⟨p, h0, Or.inr ⟨o, mn, e, hm _ _ hp⟩⟩
theorem room1B {n : Nat} (h : n < 1000000) : room n 1 = true := by
  simp only [room, decide_eq_true_eq]
  omega
theorem sl1_cells {h : AHeap} {b : Nat} {l : List Int} {o : Bool} {c : Nat} (hq : h[b]? = some ⟨.tip o, .ints .u8 l⟩) : sliceCells h 1 (.sl b 0 l.length c) = some (.ints .u8 l) := by
  simp [sliceCells, cellsAt, hq, ACells.len, ACells.sub]
/-- Digits are appended. -/
theorem app1 {H : AHeap} {v : AV} {L B : List Int} {m n : Nat} (hv : T1 H v L n) (hm : B.length = m) (hl : L.length + m < 1000000) (hn : n ≤ H.length) :
    ∃ v' H' ws, aappend H (.ints .u8 [0]) 1 v (.ints .u8 B) m = some (v', H', ws) ∧ T1 H' v' (L ++ B) n ∧ (∀ b ∈ ws, n ≤ b) ∧ Keeps H H' (blkU v) := by
  rcases hv with ⟨rfl, rfl⟩ | ⟨p, hp, ⟨rfl, e⟩ | ⟨o, mn, rfl, e⟩⟩
  · by_cases h0 : m = 0
    · subst h0
      obtain rfl : B = [] := List.length_eq_zero_iff.1 hm
      exact ⟨.nils, H, [], rfl, Or.inl ⟨rfl, rfl⟩, by simp, Keeps.refl _ _⟩
    · refine ⟨.gsl H.length 0 m 1 false, H ++ [⟨.tip false, .ints .u8 B⟩], [], ?_, Or.inr ⟨H.length, hn, Or.inr ⟨false, false, by simp [hm], by simp⟩⟩, by simp, Keeps.app _ _ _ rfl⟩
      simp only [aappend, if_neg h0]
      rw [room1B (by simp at hl; omega)]
      rfl
  · by_cases h0 : m = 0
    · subst h0
      obtain rfl : B = [] := List.length_eq_zero_iff.1 hm
      refine ⟨.sl p 0 L.length L.length, H, [p], ?_, Or.inr ⟨p, hp, Or.inl ⟨by rw [List.append_nil], by rw [List.append_nil]; exact e⟩⟩, by simpa using hp, Keeps.refl _ _⟩
      simp only [aappend, Nat.add_zero, Nat.le_refl, if_true, change, e, ACells.list, List.map_nil, storeL, Option.map_some, Bool.false_eq_true, if_false]
      have : H.set p ⟨.tip false, .ints .u8 L⟩ = H := List.ext_getElem? fun i => by
        by_cases hi : p = i
        · subst hi; rw [List.getElem?_set_self (List.getElem?_eq_some_iff.1 e).1, e]
        · rw [List.getElem?_set_ne hi]
      rw [this]
    · have hs : sliceCells H 1 (.sl p 0 L.length L.length) = some (.ints .u8 L) := sl1_cells e
      have hle : ¬ L.length + m ≤ L.length := by omega
      refine ⟨.gsl H.length 0 (L.length + m) 1 false, H ++ [⟨.tip false, .ints .u8 (L ++ B)⟩], [], ?_, Or.inr ⟨H.length, hn, Or.inr ⟨false, false, by rw [List.length_append, hm], by simp⟩⟩, by simp, Keeps.app _ _ _ rfl⟩
      simp only [aappend, if_neg hle, ACells.len, List.length_cons, List.length_nil, Nat.zero_add]
      rw [hs]
      simp only [Option.bind_some, ACells.app, if_true, room1B hl]
  · have hpl := (List.getElem?_eq_some_iff.1 e).1
    refine ⟨.gsl H.length 0 (L.length + m) 1 mn, ((if o then reTip p H.length H else H).set p ⟨.old H.length, .ints .u8 L⟩) ++ [⟨.tip true, .ints .u8 (L ++ B)⟩], [p], ?_, Or.inr ⟨H.length, hn, Or.inr ⟨true, mn, by rw [List.length_append, hm], ?_⟩⟩, by simpa using hp, ?_⟩
    · simp only [aappend, ACells.len, List.length_cons, List.length_nil, e]
      simp only [Nat.zero_add, Nat.mul_one, if_true]
      simp only [ACells.sub, List.drop_zero, Nat.mul_one, List.take_length, ACells.app, if_true, Option.bind_some]
      rw [room1B hl]
      simp
    · rw [List.getElem?_append_right (by cases o <;> simp [len_reTip])]
      cases o <;> simp [len_reTip]
    · refine ⟨fun q x hq hx hne => ?_, by cases o <;> simp [len_reTip], fun hg => ?_⟩
      · have hpq : p ≠ q := fun e => hne (by rw [e]; rfl)
        rw [List.getElem?_append_left (by cases o <;> simp [len_reTip] <;> exact (List.getElem?_eq_some_iff.1 hq).1), List.getElem?_set_ne hpq]
        cases o
        · exact hq
        · exact reTip_keeps hq (hx p rfl)
      · cases o
        · exact good_set_old (y := ⟨.tip true, .ints .u8 (L ++ B)⟩) hg hpl
        · exact good_reTip (y := ⟨.tip true, .ints .u8 (L ++ B)⟩) hg hpl
end Go.Proofs.YtimlhgpjmjmjhaaW.AI

import Derived.Test.YtdpbbagllhfjbaaDoorAIGpkt2
namespace Go.Proofs.YtdpbbagllhfjbaaDoorW.AI.G
open Go Go.Proofs.YtdpbbagllhfjbaaDoorW.AI Go.Proofs.YtdpbbagllhfjbaaDoorW.AI.Oct
set_option maxRecDepth 100000
set_option linter.unusedSimpArgs false
set_option linter.unusedVariables false
set_option linter.unusedSectionVars false
/-- Bytes of one's own: full, or what append made. -/
def TailAt (h : AHeap) (v : AV) (L : List Int) (n : Nat) : Prop := ∃ p, n ≤ p ∧ ((v = .sl p 0 L.length L.length ∧ h[p]? = some ⟨.tip false, .ints .u8 L⟩) ∨ (∃ o mn, v = .gsl p 0 L.length 1 mn ∧ h[p]? = some ⟨.tip o, .ints .u8 L⟩))
theorem TailAt.slen {h : AHeap} {v : AV} {L : List Int} {n : Nat} (t : TailAt h v L n) : slen v = some L.length := by
  obtain ⟨p, _, ⟨rfl, _⟩ | ⟨o, mn, rfl, _⟩⟩ := t <;> rfl
theorem TailAt.bv {h : AHeap} {v : AV} {L : List Int} {n : Nat} (t : TailAt h v L n) (hB : Byt L) : BV h v L := by
  obtain ⟨p, _, ⟨rfl, e⟩ | ⟨o, mn, rfl, e⟩⟩ := t
  · exact ⟨hB, Or.inr ⟨p, 0, L.length, .tip false, L, false, e, Or.inr ⟨false, rfl⟩, by omega, by rw [List.drop_zero, List.take_length], Or.inl ⟨rfl, by omega⟩⟩⟩
  · exact ⟨hB, Or.inr ⟨p, 0, 0, .tip o, L, mn, e, Or.inr ⟨o, rfl⟩, by omega, by rw [List.drop_zero, List.take_length], Or.inr rfl⟩⟩
theorem TailAt.src {h : AHeap} {v : AV} {L : List Int} {n : Nat} (t : TailAt h v L n) (hm : Mn v) (hB : Byt L) : Src h v L := by
  obtain ⟨p, _, ⟨rfl, e⟩ | ⟨o, mn, rfl, e⟩⟩ := t
  · exact ⟨hB, p, 0, L.length, .tip false, L, e, Or.inr ⟨false, rfl⟩, by omega, by rw [List.drop_zero, List.take_length], Or.inl ⟨rfl, by omega⟩⟩
  · obtain rfl : mn = false := by
      cases mn
      · rfl
      · exact absurd rfl (hm _ _ _ _)
    exact ⟨hB, p, 0, 0, .tip o, L, e, Or.inr ⟨o, rfl⟩, by omega, by rw [List.drop_zero, List.take_length], Or.inr rfl⟩
theorem TailAt.lt {h : AHeap} {v : AV} {L : List Int} {n : Nat} (t : TailAt h v L n) : v.lt n = false := by
  obtain ⟨p, hp, ⟨rfl, _⟩ | ⟨o, mn, rfl, _⟩⟩ := t <;> simp [AV.lt] <;> omega
theorem TailAt.mono {h : AHeap} {v : AV} {L : List Int} {n m : Nat} (t : TailAt h v L n) (hm : m ≤ n) : TailAt h v L m := by
  obtain ⟨p, hp, t⟩ := t
  exact ⟨p, by omega, t⟩
theorem TailAt.blk {h : AHeap} {v : AV} {L : List Int} {n : Nat} (t : TailAt h v L n) : ∃ p, blkS v = some p ∧ n ≤ p ∧ p < h.length := by
  obtain ⟨p, hp, ⟨rfl, e⟩ | ⟨o, mn, rfl, e⟩⟩ := t <;> exact ⟨p, rfl, hp, (List.getElem?_eq_some_iff.1 e).1⟩
theorem TailAt.na {h : AHeap} {v : AV} {L : List Int} {n : Nat} (t : TailAt h v L n) : noAny (some v) = some v := by
  obtain ⟨p, hp, ⟨rfl, e⟩ | ⟨o, mn, rfl, e⟩⟩ := t <;> rfl
/-- Bytes are appended to bytes of one's own. -/
theorem app_tail {H : AHeap} {v : AV} {L B : List Int} {m n : Nat} (hv : TailAt H v L n) (hm : B.length = m) (hl : L.length + m < 1000000) (hn : n ≤ H.length) :
    ∃ v' H' ws, aappend H (.ints .u8 [0]) 1 v (.ints .u8 B) m = some (v', H', ws) ∧ TailAt H' v' (L ++ B) n ∧ (∀ b ∈ ws, n ≤ b) ∧ Keeps H H' (blkS v) ∧ (Mn v → Mn v') := by
  obtain ⟨p, hp, ⟨rfl, e⟩ | ⟨o, mn, rfl, e⟩⟩ := hv
  · by_cases h0 : m = 0
    · subst h0
      obtain rfl : B = [] := List.length_eq_zero_iff.1 hm
      refine ⟨.sl p 0 L.length L.length, H, [p], ?_, ⟨p, hp, Or.inl ⟨by rw [List.append_nil], by rw [List.append_nil]; exact e⟩⟩, by simpa using hp, Keeps.refl _ _, fun _ _ _ _ _ h => by cases h⟩
      simp only [aappend, Nat.add_zero, Nat.le_refl, if_true, change, e, ACells.list, List.map_nil, storeL, Option.map_some, Bool.false_eq_true, if_false]
      have : H.set p ⟨.tip false, .ints .u8 L⟩ = H := List.ext_getElem? fun i => by
        by_cases hi : p = i
        · subst hi; rw [List.getElem?_set_self (List.getElem?_eq_some_iff.1 e).1, e]
        · rw [List.getElem?_set_ne hi]
      rw [this]
    · have hs : sliceCells H 1 (.sl p 0 L.length L.length) = some (.ints .u8 L) := sl_cells e
      have hle : ¬ L.length + m ≤ L.length := by omega
      refine ⟨.gsl H.length 0 (L.length + m) 1 false, H ++ [⟨.tip false, .ints .u8 (L ++ B)⟩], [], ?_, ⟨H.length, hn, Or.inr ⟨false, false, by rw [List.length_append, hm], end_get _ _ _⟩⟩, by simp, Keeps.app _ _ _ rfl, fun _ _ _ _ _ h => by cases h⟩
      simp only [aappend, if_neg hle, ACells.len, List.length_cons, List.length_nil, Nat.zero_add]
      rw [hs]
      simp only [Option.bind_some, ACells.app, if_true, roomy (show L.length + m < 1000000000 by omega)]
  · have hpl := (List.getElem?_eq_some_iff.1 e).1
    refine ⟨.gsl H.length 0 (L.length + m) 1 mn, ((if o then reTip p H.length H else H).set p ⟨.old H.length, .ints .u8 L⟩) ++ [⟨.tip true, .ints .u8 (L ++ B)⟩], [p], ?_, ⟨H.length, hn, Or.inr ⟨true, mn, by rw [List.length_append, hm], ?_⟩⟩, by simpa using hp, ?_, fun h b o n e he => by cases he; exact h _ _ _ _ rfl⟩
    · simp only [aappend, ACells.len, List.length_cons, List.length_nil, e]
      simp only [Nat.zero_add, Nat.mul_one, if_true]
      simp only [ACells.sub, List.drop_zero, Nat.mul_one, List.take_length, ACells.app, if_true, Option.bind_some]
      rw [roomy (by omega)]
      simp
    · rw [List.getElem?_append_right (by cases o <;> simp [len_reTip])]
      cases o <;> simp [len_reTip]
    · refine ⟨fun q x hq hx hne => ?_, by cases o <;> simp [len_reTip], fun hg => ?_⟩
      · have hpq : p ≠ q := fun e => hne (by rw [e]; rfl)
        rw [List.getElem?_append_left (by cases o <;> simp [len_reTip] <;> exact (List.getElem?_eq_some_iff.1 hq).1), List.getElem?_set_ne hpq]
        cases o
        · exact hq
        · exact reTip_keeps hq (hx p rfl)
      · cases o
        · exact good_set_old (y := ⟨.tip true, .ints .u8 (L ++ B)⟩) hg hpl
        · exact good_reTip (y := ⟨.tip true, .ints .u8 (L ++ B)⟩) hg hpl
end Go.Proofs.YtdpbbagllhfjbaaDoorW.AI.G

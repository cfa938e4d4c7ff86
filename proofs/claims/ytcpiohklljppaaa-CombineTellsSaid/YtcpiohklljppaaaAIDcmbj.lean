import Derived.Test.YtcpiohklljppaaaAIDcmbi
import Derived.Test.YtcpiohklljppaaaAIDcmbe
namespace Go.Proofs.YtcpiohklljppaaaW.AI.D
open Go Go.Proofs.YtcpiohklljppaaaW.AI
set_option maxRecDepth 100000
set_option linter.unusedSimpArgs false
set_option linter.unusedVariables false
set_option linter.unusedSectionVars false
def ucut3 (h : AHeap) (hi : Nat) : Option AV → Option (AV × AHeap × List Nat)
  | some .nils => (bounds 0 0 none (some hi)).bind fun _ => some (.nils, h, [])
  | some (.sl b o n c) => (bounds n c none (some hi)).map fun (l, u) => (.sl b (o + l * 3) (u - l) (c - l), h, [])
  | some (.gsl b o n e mn) => if e = 3 then (bounds n n none (some hi)).map fun (l, u) => (.gsl b (o + l * 3) (u - l) e mn, h, []) else none
  | _ => none
theorem ucut3_eq (call : CallT) (i : Nat) (y : MX) (a : Acts) (h : AHeap) : aop call (.slc none 3 (.t i) none (some y) none) a h = (aeval a y).bind fun v => (asN v).bind fun n => ucut3 h n (look a i) := by
  simp only [aop, optN]
  cases hy : aeval a y with
  | none => rw [aeval]; cases look a i with
    | none => rfl
    | some v => cases v <;> rfl
  | some w =>
    simp only [Option.bind_some]
    cases hn : asN w with
    | none => rw [aeval]; cases look a i with
      | none => rfl
      | some v => cases v <;> rfl
    | some n =>
      rw [aeval]
      cases look a i with
      | none => rfl
      | some v =>
        cases v <;> try rfl
        all_goals simp only [Option.bind_some, ucut3, Option.map_some, Option.getD_none, Nat.mul_one]
theorem SV.cut {h : AHeap} {v : AV} {L : List Sp} (u : SV h v L) {j : Nat} (hk : j ≤ L.length) : ∃ w, (∀ g, ucut3 g j (some v) = some (w, g, [])) ∧ SV h w (L.take j) := by
  have hl' : (L.take j).length = j := by rw [List.length_take]; omega
  obtain ⟨rfl, rfl⟩ | ⟨b, c, st, l, mn, e, hs, ht, hv⟩ := u
  · obtain rfl : j = 0 := by simpa using hk
    exact ⟨.nils, fun g => by simp [ucut3, bounds], Or.inl ⟨rfl, rfl⟩⟩
  · have ht' : l.take (j * 3) = flat3 (L.take j) := by
      rw [← flat3_take, ← ht, List.take_take]
      congr 1
      omega
    rcases hv with ⟨rfl, hc⟩ | rfl
    · refine ⟨.sl b 0 j c, fun g => ?_, Or.inr ⟨b, c, st, l, mn, e, hs, by rw [hl']; exact ht', Or.inl ⟨by rw [hl'], by omega⟩⟩⟩
      have : j ≤ c := by omega
      simp [ucut3, bounds, this]
    · refine ⟨.gsl b 0 j 3 mn, fun g => ?_, Or.inr ⟨b, 0, st, l, mn, e, hs, by rw [hl']; exact ht', Or.inr (by rw [hl'])⟩⟩
      simp [ucut3, bounds, hk]
theorem SV.new {h : AHeap} {v : AV} {L : List Sp} (u : SV h v L) : newCells h (.ints .i64 [0, 0, 0]) v = some (.ints .i64 (flat3 L)) := by
  obtain ⟨rfl, rfl⟩ | ⟨b, c, st, l, mn, e, hs, ht, hv⟩ := u
  · rfl
  · have hc : cellsAt h b = some (.ints .i64 l) := by rcases hs with rfl | ⟨o, rfl⟩ <;> simp [cellsAt, e]
    have hl : L.length * 3 ≤ l.length := by
      have := congrArg List.length ht
      rw [List.length_take, flat3_len] at this
      omega
    rcases hv with ⟨rfl, _⟩ | rfl
    · simp [newCells, sliceCells, hc, ACells.len, ACells.sub, hl, ht]
    · simp [newCells, sliceCells, hc, ACells.len, ACells.sub, hl, ht]
theorem app_own {H : AHeap} (L : List Sp) (hl : L.length ≤ 20) : ∃ t H', aappend H (.ints .i64 [0, 0, 0]) 24 .nils (.ints .i64 (flat3 L)) L.length = some (t, H', []) ∧ RW H' t L H.length ∧ Keeps H H' none := by
  by_cases h0 : L = []
  · subst h0
    exact ⟨.nils, H, rfl, Or.inl ⟨rfl, rfl⟩, Keeps.refl _ _⟩
  · have h1 : ¬ L.length = 0 := fun e => h0 (List.length_eq_zero_iff.1 e)
    have hr : room L.length 24 = true := by simp only [room, decide_eq_true_eq]; omega
    refine ⟨.gsl H.length 0 L.length 3 false, H ++ [⟨.tip false, .ints .i64 (flat3 L)⟩], ?_, Or.inr ⟨H.length, false, Nat.le_refl _, fend _ _ _, rfl⟩, Keeps.app _ _ _ rfl⟩
    simp [aappend, h1, hr, ACells.len, ABlk.new]
theorem rweights_nil {h : AHeap} {v : AV} (hg : Good h) (u : SV h v []) : W CP 37 [v] h = some (.nils, h, []) := by
  refine W_bothB (m := M37) (fun g => SV g v []) (fun _ => rfl) rfl rfl rfl cgl (fun h0 => ?_) (fun g hg u => ?_) hg u
  · simp only [AV.lts, Bool.and_eq_true] at h0
    exact u.gl h0.1
  have nv := u.na
  have lv := u.len
  have eM := rmay_c hg u (by simp)
  have : (([] : List Sp).all mayB && decide (([] : List Sp).length ≤ 16)) = true := rfl
  rw [this] at eM
  simp only [List.length_nil] at lv
  simp (maxDischargeDepth := 9) -implicitDefEqProofs only [push_cast, simprocAttr, M37, nv, lv, eM]
  refine wp_kRes (wp_kSeq (wp_kBlock ?_))
  refine wp_loop (fun k x h' ws => k = 0 ∧ x = [(0, v), (3, .int .i64 1), (4, .int .i64 0)] ∧ h' = g ∧ ws = []) 0 ?_ ?_
  · refine ⟨rfl, ?_, rfl, rfl⟩
    simp (maxDischargeDepth := 9) -implicitDefEqProofs only [push_cast, simprocAttr, nv]; try rfl
  rintro k xx h' ws ⟨rfl, rfl, hh, rfl⟩
  obtain rfl : g = h' := hh.symm
  simp (maxDischargeDepth := 9) -implicitDefEqProofs only [push_cast, simprocAttr, nadd1, nadd2, nadd3, nadd4, nadd5, nadd6, nadd7, nadd8, nadd9, nadd10, nadd11, nadd12, nv, lv]
  refine wp_kSeq (wp_kBlock ?_)
  refine wp_loop (fun k x h' ws => k = 0 ∧ x = [(0, v), (3, .int .i64 1), (5, .nils), (6, .int .i64 0)] ∧ h' = g ∧ ws = []) 0 ?_ ?_
  · refine ⟨rfl, ?_, rfl, rfl⟩
    simp (maxDischargeDepth := 9) -implicitDefEqProofs only [push_cast, simprocAttr, nv]; try rfl
  rintro k xx h' ws ⟨rfl, rfl, hh, rfl⟩
  obtain rfl : g = h' := hh.symm
  simp (maxDischargeDepth := 9) -implicitDefEqProofs only [push_cast, simprocAttr, nadd1, nadd2, nadd3, nadd4, nadd5, nadd6, nadd7, nadd8, nadd9, nadd10, nadd11, nadd12, nv, lv]
  exact quietB
theorem keepsB (h js : AHeap) (hg : Good (h ++ js)) : Keeps h (h ++ js) none := ⟨fun q x hq _ _ => by rw [List.getElem?_append_left (List.getElem?_eq_some_iff.1 hq).1]; exact hq, by simp, fun _ => hg⟩
/-- Both say the same weights. -/
theorem both_weights {h : AHeap} {v t : AV} {L : List Sp} (hg : Good h) (ut : SV h t L) (u : SV h v L) (hl : L.length ≤ 20) :
    ∃ a b H3 H4 K, W CM 36 [t] h = some (a, H3, []) ∧ W CM 37 [v] H3 = some (b, H4, []) ∧ IV .i64 H4 a K ∧ IV .i64 H4 b K ∧ Keeps h H4 none ∧ K.length ≤ 20 := by
  by_cases c : 16 < L.length ∨ L.all mayB = false
  · exact ⟨.nils, .nils, h, h, [], up (weights_no hg ut c (by omega)), up (rweights_no hg u c (by omega)), IV.nil _ _, IV.nil _ _, Keeps.refl _ _, by simp⟩
  have h16 : L.length ≤ 16 := by have := fun h => c (Or.inl h); omega
  have hm : L.all mayB = true := by
    cases e : L.all mayB with
    | true => rfl
    | false => exact absurd (Or.inr e) c
  obtain ⟨a, js, e1, t1, g1, _⟩ := weights_ok hg ut h16 hm
  by_cases h0 : L = []
  · subst h0
    exact ⟨a, .nils, h ++ js, h ++ js, [], up e1, up (rweights_nil g1 (u.app js)), t1.iv, IV.nil _ _, keepsB _ _ g1, by simp⟩
  obtain ⟨b, js', e2, t2, g2, _⟩ := rweights_ok g1 (u.app js) h0 h16 hm
  exact ⟨a, b, h ++ js, h ++ js ++ js', wts L, up e1, up e2, t1.iv.app js', t2.iv, keepsT (keepsB _ _ g1) (keepsB _ _ g2), by rw [wts_len]; omega⟩
end Go.Proofs.YtcpiohklljppaaaW.AI.D

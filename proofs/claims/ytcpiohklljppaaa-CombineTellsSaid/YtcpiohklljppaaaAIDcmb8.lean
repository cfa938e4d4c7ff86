import Derived.Test.YtcpiohklljppaaaAIDcmb7
namespace Go.Proofs.YtcpiohklljppaaaW.AI.D
open Go Go.Proofs.YtcpiohklljppaaaW.AI Go.RowKit Go.Shelf
set_option maxRecDepth 100000
set_option linter.unusedSimpArgs false
set_option linter.unusedVariables false
set_option linter.unusedSectionVars false
attribute [local go_sem] Oper.semAt_some
theorem mdvu_nn {d v A : Int} (hd : 0 ≤ d) (hv : 0 ≤ v) (hA : 0 < A) : 0 ≤ mdv true d v A := by
  have h1 := (ceil_le (n := d * v) hA).1
  have h2 := Int.mul_nonneg hd hv
  simp only [mdv, if_true]
  exact Int.nonneg_of_mul_nonneg_left (by omega) hA
/-- What ends in the ordinary way. -/
def nrm (K : Act → World → Prop) : Exit → Act → World → Prop
  | .normal, a, w => K a w
  | _, _, _ => False
set_option maxHeartbeats 8000000 in
theorem mean_raw {sv : Value} {L : List Sp} {H : Sp} {w : World} (s : Spans w sv L) (hl : L.length ≤ 9223372036854775806) :
    Calls Go.Proofs.Try.prog 34 #[sv, .agg #[.int .i64 H.1, .int .i64 H.2.1, .int .i64 H.2.2]] w fun e w' => e = .returned (.tuple #[.int .i64 (mnV L H).1, .int .i64 (mnV L H).2.1, .int .i64 (mnV L H).2.2]) ∧ Below w.heap.size w w' := by
  refine (callsIn_wide (n := 20)).1 ?_
  refine callsIn_of_wp_marks Go.Proofs.Try.func34 rfl trivial ?_ rfl
  simp only [Go.Proofs.Try.ntmps34, List.size_toArray, List.length_cons, List.length_nil, Nat.reduceAdd, Nat.reduceSub, Array.replicate_succ, Array.replicate_zero, List.push_toArray, List.append_toArray, List.nil_append, List.cons_append]
  have hB2 : Below w.heap.size w ((w.alloc (.cells #[sv] 64)).alloc (.cells #[.int .i64 H.1, .int .i64 H.2.1, .int .i64 H.2.2] 33)) := ((Below.refl _ w).alloc (Nat.le_refl _) _).alloc (by simp) _
  have hmx : Go.Proofs.Try.prog.follows .mixedOrders = true := by kernel_rfl
  obtain ⟨sa, sc, rfl⟩ : ∃ sa sc, sv = .slice sa L.length sc := by
    obtain ⟨rfl, rfl⟩ | ⟨q, cap, rfl, _⟩ := s
    · exact ⟨_, _, rfl⟩
    · exact ⟨_, _, rfl⟩
  have bP := (Boxed.new w 64 (.slice sa L.length sc)).alloc (.cells #[.int .i64 H.1, .int .i64 H.2.1, .int .i64 H.2.2] 33)
  have bH : Cel ((w.alloc (.cells #[.slice sa L.length sc] 64)).alloc (.cells #[.int .i64 H.1, .int .i64 H.2.1, .int .i64 H.2.2] 33)) (w.heap.size + 1) 0 [H.1, H.2.1, H.2.2] := by
    have hn := World.alloc_heap_new (w.alloc (.cells #[.slice sa L.length sc] 64)) (.cells #[.int .i64 H.1, .int .i64 H.2.1, .int .i64 H.2.2] 33)
    rw [World.size_alloc] at hn
    intro j x hx
    unfold World.cell?
    simp only [hn]
    rcases j with _ | _ | _ | j
    · simp_all
    · simp_all
    · simp_all
    · simp at hx
  have sW := fun (A : World) (h : Below w.heap.size w A) => s.kept (fun b hb => h.block b hb)
  by_cases h16 : 16 < L.length
  · have h16' : (16 : Int) < L.length := by omega
    have em : mnV L H = (0, 0, 1) := if_pos (Or.inl h16)
    gi_wp2
    refine ⟨trivial, ?_⟩
    gi_wp2
    refine ⟨trivial, ?_⟩
    gi_wp2
    exact ⟨_, results_tmp3 rfl _ _ _, by rw [em]; rfl, hB2⟩
  · have h16' : ¬ (16 : Int) < L.length := by omega
    gi_wp2
    refine ⟨trivial, ?_⟩
    refine (callsIn_wide.2 (may_raw (sW _ hB2) hl)).mono ?_
    rintro e w1 ⟨rfl, hB⟩
    have cP := cellk hB bP.cell
    have c0 : w1.cell? ⟨w.heap.size + 1, 0, none⟩ = some (.int .i64 H.1) := cellk hB (bH 0 _ rfl)
    have c1 : w1.cell? ⟨w.heap.size + 1, 1, none⟩ = some (.int .i64 H.2.1) := cellk hB (bH 1 _ rfl)
    have c2 : w1.cell? ⟨w.heap.size + 1, 2, none⟩ = some (.int .i64 H.2.2) := cellk hB (bH 2 _ rfl)
    have hB1 := hB2.trans (hB.mono hB2.size)
    clear hB
    by_cases hm : L.all mayB = false
    · have em : mnV L H = (0, 0, 1) := if_pos (Or.inr (Or.inl hm))
      rw [hm]
      gi_wp2
      refine ⟨trivial, ?_⟩
      gi_wp2
      exact ⟨_, results_tmp3 rfl _ _ _, by rw [em]; rfl, hB1⟩
    · rw [Bool.not_eq_false] at hm
      rw [hm]
      gi_wp2
      refine ⟨trivial, ?_⟩
      refine (callsIn_wide.2 (spanMay_raw H)).mono ?_
      rintro e w2 ⟨rfl, hB⟩
      have cP2 := cellk hB cP
      have d0 := cellk hB c0
      have d1 := cellk hB c1
      have d2 := cellk hB c2
      have hBw := hB1.trans (hB.mono hB1.size)
      clear hB hB1 hB2 cP c0 c1 c2 bP bH
      by_cases hH : mayB H = false
      · have em : mnV L H = (0, 0, 1) := if_pos (Or.inr (Or.inr hH))
        rw [hH]
        gi_wp2
        exact ⟨_, results_tmp3 rfl _ _ _, by rw [em]; rfl, hBw⟩
      rw [Bool.not_eq_false] at hH
      rw [hH]
      by_cases h0 : L = []
      · have em : mnV L H = (0, 0, 33) := by unfold mnV; rw [if_neg (by simp [h16, hm, hH]), if_pos h0]
        have hl0 : L.length = 0 := by rw [h0]; rfl
        rw [hl0] at cP2 ⊢
        gi_wp2
        exact ⟨_, results_tmp3 rfl _ _ _, by rw [em]; rfl, hBw⟩
      have hl0 : ¬ (L.length : Int) = 0 := by have := List.length_pos_iff.2 h0; omega
      obtain ⟨b, o, rfl⟩ : ∃ b o, sa = some ⟨b, o, none⟩ := by
        obtain ⟨_, h⟩ | ⟨q, cap, e, hc, hq, _⟩ := s
        · exact absurd h h0
        · cases e
          have := hq (by omega)
          obtain ⟨b, o, sp⟩ := q
          simp only at this
          subst this
          exact ⟨b, o, rfl⟩
      have sW2 : ∀ (A : World), Below w.heap.size w A → Cel A b o (flat3 L) := by
        intro A h
        obtain ⟨_, h⟩ | ⟨q, cap, e, hc, hq, hcel⟩ := sW A h
        · exact absurd h h0
        · cases e
          exact hcel
      have hcap : L.length ≤ sc := by
        obtain ⟨_, h⟩ | ⟨q, cap, e, hc, hq, hcel⟩ := s
        · exact absurd h h0
        · cases e
          exact hc
      have hB3 : Below w2.heap.size w2 (w2.alloc (.cells #[.int .i64 0] 2)) := (Below.refl _ w2).alloc (Nat.le_refl _) _
      have rl := cellk hB3 cP2
      have r0 := cellk hB3 d0
      have r1 := cellk hB3 d1
      have r2 := cellk hB3 d2
      gi_wp2
      refine ⟨trivial, ?_⟩
      refine (middles_in (n := 19) (by omega) _ _ _ _ _ _ _).mono ?_
      rintro e w' ⟨rfl, rfl⟩
      gi_wp2
      have hb2 : b < w2.heap.size := by
        obtain ⟨s, hs⟩ := List.exists_mem_of_ne_nil L h0
        obtain ⟨k, hk, rfl⟩ := List.getElem_of_mem hs
        exact World.block_lt_of_cell? w2 _ (sW2 w2 hBw _ _ (flat3_get (List.getElem?_eq_getElem hk)).1)
      have e1 : (w2.alloc (.cells #[.int .i64 0] 2)).heap.size = w2.heap.size + 1 := by simp
      have hB4 := hB3.alloc (Nat.le_trans (Nat.le_refl _) hB3.size) (.cells #[.slice (some ⟨b, o, none⟩) L.length sc] 64)
      have hB5 := hB4.alloc (Nat.le_trans (Nat.le_refl _) hB4.size) (.cells #[.int .i64 H.1, .int .i64 H.2.1, .int .i64 H.2.2] 33)
      have bS := ((Boxed.new w2 2 (.int .i64 0)).alloc (.cells #[.slice (some ⟨b, o, none⟩) L.length sc] 64)).alloc (.cells #[.int .i64 H.1, .int .i64 H.2.1, .int .i64 H.2.2] 33)
      have bN := (Boxed.new (w2.alloc (.cells #[.int .i64 0] 2)) 64 (.slice (some ⟨b, o, none⟩) L.length sc)).alloc (.cells #[.int .i64 H.1, .int .i64 H.2.1, .int .i64 H.2.2] 33)
      rw [World.size_alloc] at bN
      have bH : Cel (((w2.alloc (.cells #[.int .i64 0] 2)).alloc (.cells #[.slice (some ⟨b, o, none⟩) L.length sc] 64)).alloc (.cells #[.int .i64 H.1, .int .i64 H.2.1, .int .i64 H.2.2] 33)) (w2.heap.size + 1 + 1) 0 [H.1, H.2.1, H.2.2] := by
        have hn := World.alloc_heap_new ((w2.alloc (.cells #[.int .i64 0] 2)).alloc (.cells #[.slice (some ⟨b, o, none⟩) L.length sc] 64)) (.cells #[.int .i64 H.1, .int .i64 H.2.1, .int .i64 H.2.2] 33)
        rw [World.size_alloc, World.size_alloc] at hn
        intro j x hx
        unfold World.cell?
        simp only [hn]
        rcases j with _ | _ | _ | j
        · simp_all
        · simp_all
        · simp_all
        · simp at hx
      generalize hW4 : ((w2.alloc (.cells #[.int .i64 0] 2)).alloc (.cells #[.slice (some ⟨b, o, none⟩) L.length sc] 64)).alloc (.cells #[.int .i64 H.1, .int .i64 H.2.1, .int .i64 H.2.2] 33) = W4 at bS bN bH hB5 ⊢
      have hz : W4.heap.size = w2.heap.size + 3 := by rw [← hW4]; simp
      clear hW4 hB4 hB3 rl r0 r1 r2
      refine wpIn_rangeFunc_ownG rfl (by omega) (gf := 81) (lb := #[.pointer (some ⟨w2.heap.size + 1, 0, none⟩), .pointer (some ⟨w2.heap.size + 1 + 1, 0, none⟩)]) rfl trivial (Go.Proofs.enters_of Go.Proofs.Try.func81 (by kernel_rfl) rfl)
        (α := Fin L.length) (encs := fun x => #[.int .i64 (cm L H.2.1 H.2.2 x), .int .i64 (wtd L x)]) (Kp := KC w2.heap.size) (S := fun xs => xs = List.finRange L.length) (Sp := fun _ => True) (N := L.length) (w0 := W4)
        ?seq KC.trans (fun W l o o' _ h hc _ => KC.putObj W l o o' h hc) (Below.refl _ _) (fun _ => rfl)
        (fun pre W => (W.cell? ⟨w2.heap.size, 0, none⟩ = some (.int .i64 (sumF (fun x : Fin L.length => wtd L x) pre)) ∧ W.frozen? ⟨w2.heap.size, 0, none⟩ = false) ∧ Below w2.heap.size w2 W)
        (fun _ _ _ => False)
        (OwnFrom.and (Own.from (fun s A B row hs hg hr => ⟨cell_kept hs.1 hg hr, (frozen_kept hs.1 hg hr).trans hs.2⟩) _) (ownFrom_below (Nat.le_refl _) (by omega)))
        (fun _ _ _ _ _ hs _ _ => hs)
        ⟨⟨bS.cell, bS.frozen⟩, hB5⟩
        ?a1 ?assign ?body ?done ?stop
      case assign =>
        intro l x W K hK
        gi_wp2
        exact hK
      case seq =>
        intro l J Jx W hW hJa hJxa hY hJ0
        exact (mids_in (n := 20 - 1) (by omega) l (w2.heap.size + 1) (w2.heap.size + 1 + 1) w2.heap.size b o sc H.1 H.2.1 H.2.2 L (by omega) h0 hm hcap J Jx (fun s A B hj hg => hJa s A B none hj hg (fun r e => by cases e))
          (fun pre x W1 hj hl => by
            obtain ⟨fn, tmps, asg, bdy, hy, hR⟩ := hY pre x W1 hj hl
            refine ⟨fn, tmps, asg, bdy, hy, hR.mono ?_⟩
            rintro e W' (⟨rfl, h1, h2⟩ | ⟨rfl, h1⟩)
            · exact ⟨true, rfl, (fun _ => ⟨h1, h2⟩), (fun h => by cases h)⟩
            · exact ⟨false, rfl, (fun h => by cases h), (fun _ => h1)⟩)
          W (by omega) (by omega) (by omega) (by have := hW.size; omega) (cellk hW bN.cell) (fun j x hx => cellk hW (bH j x hx)) (sW2 W (hBw.trans ((hB5.trans (hW.mono (by omega))).mono hBw.size))) hJ0).mono fun e W' h => ⟨h.1, h.2.imp (fun h => ⟨_, rfl, h⟩) (fun ⟨pre, h⟩ => ⟨pre, trivial, h⟩)⟩
      case body =>
        rintro l pre x W ⟨⟨hcs, hfs⟩, hB⟩ _
        gi_wp2
        refine ⟨(KeepsOthers.setCell _ _ _).from _, KC.setCell _ _ _, ⟨by rw [sumF_snoc]; exact World.cell?_setCell_same' _ _ _ (by rw [hcs]; rfl), by rw [World.frozen?_setCell]; exact hfs⟩, hB.setCell (p := ⟨w2.heap.size, 0, none⟩) (Nat.le_refl _) _⟩
      case stop =>
        rintro D c pre W _ _ h _
        exact h.elim
      case done =>
        rintro D xs W hD rfl ⟨⟨hcs, _⟩, hB⟩ hK
        gi_wp2
        rename_i K ha
        obtain ⟨p1, p2⟩ := allP_in h0 (by omega)
        have hHi := mayS_iff.1 hH
        have hall : sumF (fun x : Fin L.length => wtd L x) (List.finRange L.length) = allP L := sumF_P L (wtd L) (wt1 (wid L)) (fun k s h => wtd_P h) (fun s hs => by have := wt1_in hs; omega) (by unfold allP at p2; omega)
        rw [hall] at hcs
        obtain ⟨n1, n2, n3⟩ := mean_in h0 (by omega) hHi.2.2.1 (fun s _ => cmS_in hHi.2.2.1 s)
        obtain ⟨j1, j2⟩ := jit_in h0 (by omega) hHi.2.2.1 (b := H.2.2 - H.2.1) (fun s _ => by have := cmS_in hHi.2.2.1 s; omega)
        have hcmx : ∀ (x : Fin L.length), ∃ s ∈ L, cm L H.2.1 H.2.2 x = cmS H.2.1 H.2.2 s ∧ wtd L x = wt1 (wid L) s := fun x => ⟨L[x.1], List.getElem_mem x.2, cm_P (List.getElem?_eq_getElem x.2), wtd_P (List.getElem?_eq_getElem x.2)⟩
        have hWw : Below w.heap.size w W := hBw.trans (hB.mono hBw.size)
        have cel1 : ∀ {A : World}, Below W.heap.size W A → Cel A (w.heap.size + 1) 0 [H.1, H.2.1, H.2.2] := by
          intro A h j x hx
          rcases j with _ | _ | _ | j
          · cases hx; exact cellk h (cellk hB d0)
          · cases hx; exact cellk h (cellk hB d1)
          · cases hx; exact cellk h (cellk hB d2)
          · simp at hx
        have hq2 : ∀ s ∈ L, 0 ≤ q2S L H.2.1 H.2.2 s := fun s hs => by
          have := wt1_in hs
          have := cmS_in hHi.2.2.1 s
          exact Int.ediv_nonneg (Int.mul_nonneg (by omega) (by omega)) (by omega)
        have hs2 : sumF (fun x : Fin L.length => qz (mdv false (cm L H.2.1 H.2.2 x - H.2.1) (wtd L x) (allP L))) (List.finRange L.length) = (L.map (q2S L H.2.1 H.2.2)).sum := by
          refine sumF_P L (fun k => qz (mdv false (cm L H.2.1 H.2.2 k - H.2.1) (wtd L k) (allP L))) (q2S L H.2.1 H.2.2) (fun k s h => ?_) hq2 (by unfold meanP at n2; omega)
          have hs := List.mem_of_getElem? h
          have l1 : q2S L H.2.1 H.2.2 s ≤ (L.map (q2S L H.2.1 H.2.2)).sum := le_sum hq2 s hs
          have l0 := hq2 s hs
          rw [cm_P h, wtd_P h]
          unfold qz
          rw [if_pos]
          · rfl
          · change I64 (q2S L H.2.1 H.2.2 s)
            unfold I64 meanP at *
            omega
        have hadd : ∀ (A : World), Below W.heap.size W A → CallsIn Fence.wide 19 Go.Proofs.Try.prog 59 #[.func (.func 60) #[] #[.pointer (some ⟨w.heap.size + 1, 0, none⟩), .pointer (some ⟨w2.heap.size, 0, none⟩)], .pointer (some ⟨w.heap.size, 0, none⟩), .pointer (some ⟨w.heap.size + 1, 0, none⟩)] A
            fun e W' => e = .returned (.int .i64 (L.map (q2S L H.2.1 H.2.2)).sum) ∧ Below A.heap.size A W' := by
          intro A hA
          rw [← hs2]
          refine added_in (by omega) 60 _ w.heap.size (w.heap.size + 1) b o sc H.1 H.2.1 H.2.2 L (by omega) h0 hm hcap A (cellk hA (cellk hB cP2)) (cel1 hA) (sW2 A (hWw.trans (hA.mono hWw.size))) (Go.Proofs.enters_of Go.Proofs.Try.func60 (by kernel_rfl) rfl) (fun x => qz (mdv false (cm L H.2.1 H.2.2 x - H.2.1) (wtd L x) (allP L))) (fun x => qe (mdv false (cm L H.2.1 H.2.2 x - H.2.1) (wtd L x) (allP L))) (fun x A' hA' => ?_)
          have hAA := hA.trans (hA'.mono hA.size)
          obtain ⟨s, hs, k1, k2⟩ := hcmx x
          have k3 := cmS_in hHi.2.2.1 s
          have k4 := wt1_in hs
          exact part2_raw (cel1 hAA) (b2 := w2.heap.size) (o2 := 0) (fun j x hx => by
            rcases j with _ | j
            · cases hx; exact cellk hAA hcs
            · simp at hx) (by rw [k1]; unfold I64; omega) (by rw [k2]; unfold I64; omega) (by omega)
        have hq3 : ∀ s ∈ L, 0 ≤ q3S L H.2.1 H.2.2 s := fun s hs => by
          have := wt1_in hs
          exact mdvu_nn (by omega) (by omega) (by omega)
        have hs3 : sumF (fun x : Fin L.length => qz (mdv true ((cm L H.2.1 H.2.2 x - meanP L H.2.1 H.2.2).natAbs : Int) (wtd L x) (allP L))) (List.finRange L.length) = jitP L H.2.1 H.2.2 := by
          refine sumF_P L (fun k => qz (mdv true ((cm L H.2.1 H.2.2 k - meanP L H.2.1 H.2.2).natAbs : Int) (wtd L k) (allP L))) (q3S L H.2.1 H.2.2) (fun k s h => ?_) hq3 (by unfold jitP at j2; omega)
          have hs := List.mem_of_getElem? h
          have l1 : q3S L H.2.1 H.2.2 s ≤ (L.map (q3S L H.2.1 H.2.2)).sum := le_sum hq3 s hs
          have l0 := hq3 s hs
          rw [cm_P h, wtd_P h]
          unfold qz
          rw [if_pos]
          · rfl
          · change I64 (q3S L H.2.1 H.2.2 s)
            unfold I64 jitP at *
            omega
        have hadd3 : ∀ (A : World), Below W.heap.size W A → ∀ bm, A.cell? ⟨bm, 0, none⟩ = some (.int .i64 (meanP L H.2.1 H.2.2)) → CallsIn Fence.wide 19 Go.Proofs.Try.prog 59 #[.func (.func 61) #[] #[.pointer (some ⟨bm, 0, none⟩), .pointer (some ⟨w2.heap.size, 0, none⟩)], .pointer (some ⟨w.heap.size, 0, none⟩), .pointer (some ⟨w.heap.size + 1, 0, none⟩)] A
            fun e W' => e = .returned (.int .i64 (jitP L H.2.1 H.2.2)) ∧ Below A.heap.size A W' := by
          intro A hA bm hbm
          rw [← hs3]
          refine added_in (by omega) 61 _ w.heap.size (w.heap.size + 1) b o sc H.1 H.2.1 H.2.2 L (by omega) h0 hm hcap A (cellk hA (cellk hB cP2)) (cel1 hA) (sW2 A (hWw.trans (hA.mono hWw.size))) (Go.Proofs.enters_of Go.Proofs.Try.func61 (by kernel_rfl) rfl) (fun x => qz (mdv true ((cm L H.2.1 H.2.2 x - meanP L H.2.1 H.2.2).natAbs : Int) (wtd L x) (allP L))) (fun x => qe (mdv true ((cm L H.2.1 H.2.2 x - meanP L H.2.1 H.2.2).natAbs : Int) (wtd L x) (allP L))) (fun x A' hA' => ?_)
          have hAA := hA.trans (hA'.mono hA.size)
          obtain ⟨s, hs, k1, k2⟩ := hcmx x
          have k3 := cmS_in hHi.2.2.1 s
          have k4 := wt1_in hs
          exact part3_raw (b1 := bm) (o1 := 0) (fun j x hx => by
            rcases j with _ | j
            · cases hx; exact cellk hA' hbm
            · simp at hx) (b2 := w2.heap.size) (o2 := 0) (fun j x hx => by
            rcases j with _ | j
            · cases hx; exact cellk hAA hcs
            · simp at hx) (by rw [k1]; omega) (by rw [k2]; unfold I64; omega) (by omega)
        clear hs2 hs3
        obtain ⟨S2, hS2⟩ : ∃ z, (L.map (q2S L H.2.1 H.2.2)).sum = z := ⟨_, rfl⟩
        rw [hS2] at hadd
        have hMM : meanP L H.2.1 H.2.2 = H.2.1 + S2 := by unfold meanP; rw [hS2]
        have hM : wrap64 (H.2.1 + S2) = meanP L H.2.1 H.2.2 := by unfold wrap64; omega
        have hWr : IntKind.i64.wrap (H.2.1 + S2) = H.2.1 + S2 := wr_i64 _ (by omega) (by omega)
        have bx := Boxed.new W.drew 2 (.int .i64 0)
        have hd0 : Below W.heap.size W W.drew := ⟨rfl, rfl, rfl, Nat.le_refl _, fun _ _ => rfl⟩
        have hd1 : Below W.heap.size W (W.drew.alloc (.cells #[.int .i64 0] 2)) := hd0.alloc (Nat.le_refl _) _
        have z1 : W.drew.cell? ⟨w.heap.size + 1, 1, none⟩ = some (.int .i64 H.2.1) := cel1 hd0 1 _ rfl
        have z2 : (W.drew.alloc (.cells #[.int .i64 0] 2)).cell? ⟨w.heap.size + 1, 1, none⟩ = some (.int .i64 H.2.1) := cel1 hd1 1 _ rfl
        have z3 : (W.alloc (.cells #[.int .i64 0] 2)).cell? ⟨w.heap.size + 1, 1, none⟩ = some (.int .i64 H.2.1) := cel1 ((Below.refl _ W).alloc (Nat.le_refl _) _) 1 _ rfl
        refine wpIn_mono (Q := nrm fun a W' => Below W.heap.size W W' ∧ ∃ bm, W'.cell? ⟨bm, 0, none⟩ = some (.int .i64 (meanP L H.2.1 H.2.2)) ∧ a = { tmps := #[.slice (some ⟨b, o, none⟩) L.length sc, .agg #[.int .i64 H.1, .int .i64 H.2.1, .int .i64 H.2.2], .pointer (some ⟨w.heap.size, 0, none⟩), .pointer (some ⟨w.heap.size + 1, 0, none⟩), .int .i64 0, .int .i64 0, .int .i64 0, .pointer (some ⟨w2.heap.size, 0, none⟩), undef, undef,
          .func (.func 59) #[] #[.pointer (some ⟨w.heap.size, 0, none⟩), .pointer (some ⟨w.heap.size + 1, 0, none⟩)], .pointer (some ⟨bm, 0, none⟩), undef, .bool false, .slice (some ⟨b, o, none⟩) L.length sc, .int .i64 L.length, .bool false, .bool false, .slice (some ⟨b, o, none⟩) L.length sc, .bool true, .bool false, .bool false, .bool false, .agg #[.int .i64 H.1, .int .i64 H.2.1, .int .i64 H.2.2], .bool true, .bool false, .bool false, .bool false,
          .slice (some ⟨b, o, none⟩) L.length sc, .int .i64 L.length, .bool false, .slice (some ⟨b, o, none⟩) L.length sc, .agg #[.int .i64 H.1, .int .i64 H.2.1, .int .i64 H.2.2], .func (.func 81) #[] #[.pointer (some ⟨w2.heap.size + 1, 0, none⟩), .pointer (some ⟨w2.heap.size + 1 + 1, 0, none⟩)], undef, undef, undef, undef, undef, .func (.func 59) #[] #[.pointer (some ⟨w.heap.size, 0, none⟩), .pointer (some ⟨w.heap.size + 1, 0, none⟩)],
          .pointer (some ⟨w.heap.size + 1, 1, none⟩), .int .i64 H.2.1, .func (.func 59) #[] #[.pointer (some ⟨w.heap.size, 0, none⟩), .pointer (some ⟨w.heap.size + 1, 0, none⟩)], .func (.func 60) #[] #[.pointer (some ⟨w.heap.size + 1, 0, none⟩), .pointer (some ⟨w2.heap.size, 0, none⟩)], .int .i64 S2, .int .i64 (meanP L H.2.1 H.2.2), undef, undef, undef, undef, undef], defers := [{ target := .collected D, args := #[] }] }) ?reg ?after
        case after =>
          rintro e a' W' h
          cases e with
          | normal =>
            obtain ⟨hBx, bm, hbm, rfl⟩ := h
            refine ha _ _ ?_
            gi_wp2
            refine ⟨trivial, ?_⟩
            refine (hadd3 _ hBx bm hbm).mono ?_
            rintro e w6 ⟨rfl, hB7⟩
            have hbm6 := cellk hB7 hbm
            gi_wp2
            have hDl := (Array.getElem?_eq_some_iff.1 hK).1
            have hK6 : w6.heap[D]? = some (.deferred (some [])) := (hB7.block D (Nat.lt_of_lt_of_le hDl hBx.size)).trans ((hBx.block D hDl).trans hK)
            refine ⟨by simp, .inl ⟨_, _, rfl, run_takeDeferred hK6, ?_⟩⟩
            have em : mnV L H = (meanP L H.2.1 H.2.2, jitP L H.2.1 H.2.2, 0) := by unfold mnV; rw [if_neg (by simp [h16, hm, hH]), if_neg h0]
            exact ⟨_, results_tmp3 rfl _ _ _, by rw [em, hMM]; rfl, (hWw.trans ((hBx.trans (hB7.mono hBx.size)).mono hWw.size)).trans (belowK_b (w := w) (Nat.le_refl _) w6 D _ _ (by have := hBw.size; omega) hK6 rfl rfl)⟩
          | _ => exact h.elim
        case reg =>
          gi_region_with_o (first
            | (refine ⟨trivial, ?_⟩; gi_at_call 59; refine (hadd _ hd0).mono ?_; rintro e w5 ⟨rfl, hB6⟩; have y0 := cellk hB6 z1; have y3 := cellk ((Below.refl _ w5).alloc (Nat.le_refl _) (.cells #[.int .i64 0] 2)) y0; have y9 := hd0)
            | (refine ⟨trivial, ?_⟩; gi_at_call 59; refine (hadd _ hd1).mono ?_; rintro e w5 ⟨rfl, hB6⟩; have y0 := cellk hB6 z2; have y1 : w5.cell? ⟨W.heap.size, 0, none⟩ = some (.int .i64 0) := cellk hB6 bx.cell; have y2 : w5.frozen? ⟨W.heap.size, 0, none⟩ = false := (hB6.frozen (p := ⟨W.drew.heap.size, 0, none⟩) (by simp)).trans bx.frozen))
          all_goals simp only [nrm, hWr, hMM]
          all_goals first
            | exact ⟨(hd0.trans (hB6.mono hd0.size)).alloc (Nat.le_trans hd0.size hB6.size) _, _, (Boxed.new w5 2 _).cell, rfl⟩
            | exact ⟨(hd1.trans (hB6.mono hd1.size)).setCell (p := ⟨W.heap.size, 0, none⟩) (Nat.le_refl _) _, _, World.cell?_setCell_same' _ _ _ (by rw [y1]; rfl), rfl⟩
end Go.Proofs.YtcpiohklljppaaaW.AI.D

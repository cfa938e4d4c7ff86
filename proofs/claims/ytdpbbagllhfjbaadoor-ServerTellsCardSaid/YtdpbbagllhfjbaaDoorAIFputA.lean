import Derived.Test.YtdpbbagllhfjbaaDoorAIFoctA
import Derived.Test.YtdpbbagllhfjbaaDoorAITools
namespace Go.Proofs.YtdpbbagllhfjbaaDoorW.AI.F
open Go Go.Proofs.YtdpbbagllhfjbaaDoorW.AI Go.Proofs.YtdpbbagllhfjbaaDoorW.AI.Oct
set_option maxRecDepth 100000
set_option linter.unusedSimpArgs false
set_option linter.unusedVariables false
set_option linter.unusedSectionVars false
theorem dg_cons (i : Nat) (v : Int) : dg (i + 1) v = (v / 256 ^ i % 256) :: dg i v := by
  simp only [dg, List.range_succ_eq_map, List.map_cons, List.map_map]
  refine congr (congrArg List.cons (by simp)) (List.map_congr_left fun k hk => ?_)
  have hk' := List.mem_range.1 hk
  simp only [Function.comp]
  congr 3
  omega
theorem new_one {H : AHeap} (d : Int) : newCells (H ++ [⟨.tip false, .ints .u8 [d]⟩]) (.ints .u8 [0]) (.sl H.length 0 1 1) = some (.ints .u8 [d]) := by
  have hq : (H ++ [(⟨.tip false, .ints .u8 [d]⟩ : ABlk)])[H.length]? = some ⟨.tip false, .ints .u8 [d]⟩ := by simp
  simp [newCells, sliceCells, cellsAt, hq, ACells.len, ACells.sub]
theorem wadd_mem {base : Nat} : ∀ {new ws : List Nat} {b : Nat}, b ∈ wadd base ws new → b ∈ ws ∨ (b ∈ new ∧ b < base)
  | [], ws, b, h => Or.inl h
  | a :: new, ws, b, h => by
    rw [wadd_cons] at h
    rcases wadd_mem h with h | h
    · split at h
      · rename_i hc
        rcases List.mem_append.1 h with h | h
        · exact Or.inl h
        · simp only [List.mem_singleton] at h
          subst h
          exact Or.inr ⟨List.mem_cons_self, hc.1⟩
      · exact Or.inl h
    · exact Or.inr ⟨List.mem_cons_of_mem _ h.1, h.2⟩
set_option maxHeartbeats 4000000 in
theorem reflay_key {h : AHeap} {v : AV} {l : List Int} {n : Int} {s : Nat} (hg : Good h) (hv : GsAt h v l) (hl : l.length + s < 900000) (n0 : 0 ≤ n) (n1 : n < 18446744073709551616) (s1 : 1 ≤ s) (s8 : s ≤ 8) :
    Wp (xbody (W CP) M116 [v, .int .u64 n, .int .i64 (s : Int)] h) fun r => GsAt r.2.1 r.1 (l ++ dg s n) ∧ Keeps h r.2.1 (blkOf v) ∧ (∀ b ∈ r.2.2, blkOf v = some b) ∧ (∃ p, blkOf r.1 = some p ∧ h.length ≤ p) := by
  have hsl := hv.slen
  have hna := na_slen hsl
  simp (maxDischargeDepth := 9) -implicitDefEqProofs only [push_cast, simprocAttr, M116, hna]
  refine wp_kRes (wp_kSeq (wp_kBlock ?_))
  refine wp_loop (fun k a h' ws => ∃ (i : Nat) (v7 : AV), k = s - i ∧ i ≤ s ∧ a = [(0, v), (1, .int .u64 (n / 256 ^ i)), (2, .int .i64 (s : Int)), (7, v7), (8, .int .i64 (i : Int))] ∧ GsAt h' v7 (dg i n).reverse ∧ (∀ p, blkOf v7 = some p → h.length ≤ p) ∧ Keeps h h' none ∧ ws = []) s ?_ ?_
  · refine ⟨0, .nils, by omega, by omega, ?_, Or.inl ⟨rfl, rfl⟩, by simp [blkOf], Keeps.refl _ _, rfl⟩
    simp (maxDischargeDepth := 9) -implicitDefEqProofs only [push_cast, simprocAttr, hna]
    simp
  · rintro k aa h1 ws ⟨i, v7, rfl, hi, rfl, hv7, hb7, hk, rfl⟩
    have hsl7 := hv7.slen
    have hna7 := na_slen hsl7
    by_cases hlt : i < s
    · have hlt' : (i : Int) < (s : Int) := by omega
      have v1 : IntKind.i64.wrap ((i : Int) + 1) = (i : Int) + 1 := wr_i64 _ (by omega) (by omega)
      obtain ⟨y, hy⟩ : ∃ y, n / 256 ^ i = y := ⟨_, rfl⟩
      have hp : (0 : Int) < 256 ^ i := Int.pow_pos (by omega)
      have y0 : 0 ≤ y := by rw [← hy]; exact Int.ediv_nonneg n0 (by omega)
      have y1 : y ≤ n := by rw [← hy]; exact Int.ediv_le_self _ n0
      have hnext : n / 256 ^ (i + 1) = y / 256 := by rw [← hy, Int.pow_succ, Int.ediv_ediv_of_nonneg (by omega)]
      obtain ⟨d, hd⟩ : ∃ d, y % 256 = d := ⟨_, rfl⟩
      obtain ⟨y2, hy2⟩ : ∃ d, y / 256 = d := ⟨_, rfl⟩
      have t1 : y.tmod 256 = d := by rw [Int.tmod_eq_emod_of_nonneg y0]; exact hd
      have t2 : y.tdiv 256 = y2 := by rw [Int.tdiv_eq_ediv_of_nonneg y0]; exact hy2
      have w1 : IntKind.u64.wrap d = d := wr_u64 _ (by omega) (by omega)
      have w2 : IntKind.u8.wrap d = d := wr_u8 _ (by omega) (by omega)
      have w3 : IntKind.u64.wrap y2 = y2 := wr_u64 _ (by omega) (by omega)
      have hkb : Keeps h1 (h1 ++ [⟨.tip false, .ints .u8 [d]⟩]) none := Keeps.app _ _ _ rfl
      have hv7' := hv7.keeps hkb (by simp)
      obtain ⟨v', h2, ws2, ea, g2, k2, w4, b2, l2⟩ := app_one (xs := [d]) (k := 1) hv7' rfl (by omega) (by simp [dg_len]; omega)
      have en := new_one (H := h1) d
      have hwd : wadd h.length [] ws2 = [] := wadd_ge fun b hb => hb7 b (w4 b hb)
      have hna2 := na_slen g2.slen
      rw [hy]
      simp (maxDischargeDepth := 9) -implicitDefEqProofs only [push_cast, simprocAttr, hna, hna7, hna2, hlt', v1, t1, t2, w1, w2, w3, en, ea, hwd]
      refine loop_next (s - (i + 1)) (by omega) ⟨i + 1, v', rfl, by omega, ?_, ?_, ?_, ?_, rfl⟩
      · rw [hnext, hy2]
        simp (maxDischargeDepth := 9) -implicitDefEqProofs only [push_cast, simprocAttr, hna, hna2]
        try simp
      · rw [dg_cons, List.reverse_cons, hy, hd]
        exact g2
      · intro p hp
        rw [b2] at hp
        cases hp
        have := hk.2.1
        simp
        omega
      · exact Keeps.trans hg (Keeps.trans hg hk hkb (by simp)) k2 fun q hq hl => by
          have := hb7 q hq
          omega
    · have hi2 : i = s := by omega
      subst hi2
      have hnl : ¬ (i : Int) < (i : Int) := by omega
      have wi : IntKind.i64.wrap ((i : Int) - 1) = (i : Int) - 1 := wr_i64 _ (by omega) (by omega)
      have hdl : (dg i n).length = i := dg_len i n
      obtain ⟨p7, mn7, o7, rfl, hp7⟩ : ∃ p mn o, v7 = .gsl p 0 i 1 mn ∧ h1[p]? = some ⟨.tip o, .ints .u8 (dg i n).reverse⟩ := by
        rcases hv7 with ⟨_, e⟩ | ⟨p, mn, o, e1, e2⟩
        · have := congrArg List.length e
          simp [hdl] at this
          omega
        · exact ⟨p, mn, o, by rw [e1]; simp [hdl], e2⟩
      have hb7' : h.length ≤ p7 := hb7 p7 rfl
      have hp7l := (List.getElem?_eq_some_iff.1 hp7).1
      have hvb : ∀ q, blkOf v = some q → q < h.length := by
        intro q hq
        rcases hv with ⟨rfl, _⟩ | ⟨p, mn, o, rfl, e⟩
        · cases hq
        · cases hq; exact (List.getElem?_eq_some_iff.1 e).1
      simp (maxDischargeDepth := 9) -implicitDefEqProofs only [push_cast, simprocAttr, hna, hna7, wi]
      refine wp_kSeq (wp_kBlock ?_)
      refine wp_loop (fun k a h' ws => ∃ (c : Nat) (v0 : AV), k = i - c ∧ c ≤ i ∧ a = [(0, v0), (7, .gsl p7 0 i 1 mn7), (9, .int .i64 ((i : Int) - 1 - (c : Int)))] ∧ GsAt h' v0 (l ++ (dg i n).take c) ∧ ((c = 0 ∧ v0 = v) ∨ ∃ p', blkOf v0 = some p' ∧ h1.length ≤ p') ∧ h'[p7]? = some ⟨.tip o7, .ints .u8 (dg i n).reverse⟩ ∧ Keeps h h' (blkOf v) ∧ h1.length ≤ h'.length ∧ (∀ b ∈ ws, blkOf v = some b)) i ?_ ?_
      · refine ⟨0, v, by omega, by omega, ?_, ?_, Or.inl ⟨rfl, rfl⟩, hp7, ⟨fun q x e1 e2 _ => hk.1 q x e1 (by simp) (by simp), hk.2⟩, Nat.le_refl _, by simp⟩
        · simp (maxDischargeDepth := 9) -implicitDefEqProofs only [push_cast, simprocAttr, hna, hna7]
          simp
        · rw [List.take_zero, List.append_nil]
          exact hv.keeps hk (by simp)
      · rintro k aa h' ws ⟨c, v0, rfl, hc, rfl, hv0, hb0, hq7, hkk, hll, hws⟩
        have hsl0 := hv0.slen
        have hna0 := na_slen hsl0
        by_cases hlt : c < i
        · obtain ⟨t, ht⟩ : ∃ t, i - 1 - c = t := ⟨_, rfl⟩
          have ht' : (i : Int) - 1 - (c : Int) = (t : Int) := by omega
          have c1 : (0 : Int) ≤ (t : Int) := by omega
          have ti : t < i := by omega
          obtain ⟨d, hd⟩ : ∃ d, (dg i n)[c]? = some d := ⟨_, List.getElem?_eq_getElem (by omega)⟩
          have hdr : (dg i n).reverse[t]? = some d := by
            rw [List.getElem?_reverse (by omega), hdl, ← hd]
            congr 1
            omega
          have w2 : IntKind.i64.wrap ((t : Int) - 1) = (t : Int) - 1 := wr_i64 _ (by omega) (by omega)
          have hq7l := (List.getElem?_eq_some_iff.1 hq7).1
          have hkb : Keeps h' (h' ++ [⟨.tip false, .ints .u8 [d]⟩]) none := Keeps.app _ _ _ rfl
          have hv0' := hv0.keeps hkb (by simp)
          obtain ⟨v', h2, ws2, ea, g2, k2, w4, b2, l2⟩ := app_one (xs := [d]) (k := 1) hv0' rfl (by omega) (by simp; omega)
          have en := new_one (H := h') d
          have hna2 := na_slen g2.slen
          have hn7 : blkOf v0 ≠ some p7 := by
            rcases hb0 with ⟨_, rfl⟩ | ⟨p', e1, e2⟩
            · intro e
              have := hvb _ e
              omega
            · intro e
              rw [e1] at e
              cases e
              omega
          simp (maxDischargeDepth := 9) -implicitDefEqProofs only [push_cast, simprocAttr, hna, hna7, hna0, hna2, ht', c1, ti, hq7, hq7l, hdr, w2, en, ea]
          refine loop_next (i - (c + 1)) (by omega) ⟨c + 1, v', rfl, by omega, ?_, ?_, Or.inr ⟨_, b2, ?_⟩, ?_, ?_, ?_, ?_⟩
          · rw [show (i : Int) - 1 - ((c + 1 : Nat) : Int) = (t : Int) - 1 by omega]
            simp (maxDischargeDepth := 9) -implicitDefEqProofs only [push_cast, simprocAttr, hna, hna2]
          · rw [List.take_add_one, hd]
            simpa using g2
          · simp; omega
          · exact k2.1 p7 _ (hkb.1 p7 _ hq7 (fun j _ => by simp) (by simp)) (fun j _ => by simp) hn7
          · exact Keeps.trans hg (Keeps.trans hg hkk hkb (by simp)) k2 fun q hq hl => by
              rcases hb0 with ⟨_, rfl⟩ | ⟨p', e1, e2⟩
              · exact hq
              · rw [e1] at hq
                cases hq
                have := hk.2.1
                omega
          · rw [l2]; simp; omega
          · intro b hb
            rcases wadd_mem hb with hb | ⟨hb, hbl⟩
            · exact hws b hb
            · have hq := w4 b hb
              rcases hb0 with ⟨_, rfl⟩ | ⟨p', e1, e2⟩
              · exact hq
              · rw [e1] at hq
                cases hq
                have := hk.2.1
                omega
        · obtain rfl : c = i := by omega
          have c1 : ¬ (0 : Int) ≤ (c : Int) - 1 - (c : Int) := by omega
          simp (maxDischargeDepth := 9) -implicitDefEqProofs only [push_cast, simprocAttr, hna, hna7, hna0, c1]
          rw [List.take_of_length_le (by omega)] at hv0
          refine ⟨hv0, hkk, hws, ?_⟩
          rcases hb0 with ⟨e, _⟩ | ⟨p', e1, e2⟩
          · omega
          · exact ⟨p', e1, by have := hk.2.1; omega⟩
theorem addr_no {v : AV} {p n : Nat} (h : blkOf v = some p) (hp : n ≤ p) : v.lt n = false := by
  cases v <;> simp [blkOf] at h
  subst h
  simp [AV.lt]
  omega
theorem reflay_c {h : AHeap} {v : AV} {l : List Int} {n : Int} {s : Nat} (hg : Good h) (hv : GsAt h v l) (hl : l.length + s < 900000) (n0 : 0 ≤ n) (n1 : n < 18446744073709551616) (s1 : 1 ≤ s) (s8 : s ≤ 8) :
    ∃ v' h' ws, W CP 116 [v, .int .u64 n, .int .i64 (s : Int)] h = some (v', h', ws) ∧ GsAt h' v' (l ++ dg s n) ∧ Keeps h h' (blkOf v) ∧ (∀ b ∈ ws, blkOf v = some b) ∧ (∃ p, blkOf v' = some p ∧ h.length ≤ p) := by
  obtain ⟨⟨v', h', ws⟩, e, g1, g2, g3, p, g4, g5⟩ := reflay_key hg hv hl n0 n1 s1 s8
  refine ⟨v', h', ws, ?_, g1, g2, g3, p, g4, g5⟩
  cases h0 : AV.lts 0 [v, .int .u64 n, .int .i64 (s : Int)] with
  | false => rw [W_body (m := M116) rfl rfl h0 e, show (M116).trim = true from rfl, if_pos rfl, trim_addr (addr_no g4 g5)]
  | true =>
    rcases hv with ⟨rfl, rfl⟩ | ⟨p, mn, o, rfl, _⟩
    · obtain ⟨⟨v2, h2, ws2⟩, e2, _, _, _, p2, g6, g7⟩ := reflay_key (h := CP.gl) (v := .nils) (l := []) rfl (Or.inl ⟨rfl, rfl⟩) (by simpa using hl) n0 n1 s1 s8
      rw [W_made (m := M116) rfl rfl h0 e2 (addr_no g6 (Nat.zero_le _)) e, show (M116).trim = true from rfl, if_pos rfl, trim_addr (addr_no g4 g5)]
    · simp [AV.lts, AV.lt] at h0
end Go.Proofs.YtdpbbagllhfjbaaDoorW.AI.F
namespace Go.Proofs.YtdpbbagllhfjbaaDoorW.AI.F
open Go Go.Proofs.YtdpbbagllhfjbaaDoorW.AI Go.Proofs.YtdpbbagllhfjbaaDoorW.AI.Oct
set_option maxRecDepth 100000
set_option linter.unusedSimpArgs false
set_option linter.unusedVariables false
set_option linter.unusedSectionVars false
def mayH (p0 p1 p2 : Int) : Bool := decide (p0 ≤ 3) && decide (1 ≤ p1) && decide (p1 ≤ 4) && decide (p2 ≤ 7)
theorem gl_good : Good CP.gl := rfl
theorem may_c {p0 p1 p2 p3 p4 p5 p6 p7 p8 p9 p10 p11 p12 p15 p16 : Int} {x : AV} {s : Bool} (hx : x.isCell = true) {h : AHeap} (hg : Good h) : W CP 65 [.agg [.int .u8 p0, .int .u8 p1, .int .u8 p2, .int .u8 p3, .int .i8 p4, .int .i8 p5, .int .u32 p6, .int .u32 p7, .int .u32 p8, .int .u64 p9, .int .u64 p10, .int .u64 p11, .int .u64 p12, x, .bool s, .int .u32 p15, .int .u64 p16]] h = some (.bool (mayH p0 p1 p2), h, []) := by
  refine W_both (m := M65) (fun _ => True) (fun _ => rfl) rfl rfl rfl gl_good trivial (fun g hg _ => ?_) hg trivial
  unfold mayH
  by_cases c1 : p0 ≤ 3 <;> by_cases c2 : 1 ≤ p1 <;> by_cases c3 : p1 ≤ 4 <;> by_cases c4 : p2 ≤ 7
  all_goals simp (maxDischargeDepth := 9) -implicitDefEqProofs only [push_cast, simprocAttr, M65, hx, c1, c2, c3, c4, decide_true, decide_false, Bool.true_and, Bool.false_and, Bool.and_true, Bool.and_false]
  all_goals exact quiet_i
theorem refMay_c {p0 p1 p2 p3 p4 p5 p6 p7 p8 p9 p10 p11 p12 p15 p16 : Int} {x : AV} {s : Bool} (hx : x.isCell = true) {h : AHeap} (hg : Good h) : W CP 101 [.agg [.int .u8 p0, .int .u8 p1, .int .u8 p2, .int .u8 p3, .int .i8 p4, .int .i8 p5, .int .u32 p6, .int .u32 p7, .int .u32 p8, .int .u64 p9, .int .u64 p10, .int .u64 p11, .int .u64 p12, x, .bool s, .int .u32 p15, .int .u64 p16]] h = some (.bool (mayH p0 p1 p2), h, []) := by
  refine W_both (m := M101) (fun _ => True) (fun _ => rfl) rfl rfl rfl gl_good trivial (fun g hg _ => ?_) hg trivial
  unfold mayH
  have x1 : (p0 < 4) = (p0 ≤ 3) := by apply propext; omega
  have x2 : (0 < p1) = (1 ≤ p1) := by apply propext; omega
  have x3 : (p1 < 5) = (p1 ≤ 4) := by apply propext; omega
  have x4 : (p2 < 8) = (p2 ≤ 7) := by apply propext; omega
  by_cases c1 : p0 ≤ 3 <;> by_cases c2 : 1 ≤ p1 <;> by_cases c3 : p1 ≤ 4 <;> by_cases c4 : p2 ≤ 7
  all_goals simp (maxDischargeDepth := 9) -implicitDefEqProofs only [push_cast, simprocAttr, M101, hx, x1, x2, x3, x4, c1, c2, c3, c4, decide_true, decide_false, Bool.true_and, Bool.false_and, Bool.and_true, Bool.and_false]
  all_goals exact quiet_i
theorem signed_c {n : Int} (n0 : -128 ≤ n) (n1 : n ≤ 127) (h : AHeap) : W CP 117 [.int .i8 n] h = some (.int .u64 (n % 256), h, []) := by
  refine W_val (m := M117) (fun _ => rfl) rfl rfl rfl ?_ h
  by_cases c : n < 0
  · have w1 : IntKind.i64.wrap n = n := wr_i64 _ (by omega) (by omega)
    have w2 : IntKind.i64.wrap (256 + n) = 256 + n := wr_i64 _ (by omega) (by omega)
    have w3 : IntKind.u64.wrap (256 + n) = n % 256 := by rw [wr_u64 _ (by omega) (by omega)]; omega
    simp (maxDischargeDepth := 9) -implicitDefEqProofs only [push_cast, simprocAttr, M117, c, w1, w2, w3]
  · have w3 : IntKind.u64.wrap n = n % 256 := by rw [wr_u64 _ (by omega) (by omega)]; omega
    simp (maxDischargeDepth := 9) -implicitDefEqProofs only [push_cast, simprocAttr, M117, c, w3]
/-- The numbers of a head. -/
def headV (p0 p1 p2 p3 p4 p5 p6 p7 p8 p9 p10 p11 p12 : Int) : List Int := [p0 * 64 + p1 * 8 + p2, p3, p4 % 256, p5 % 256, p6, p7, p8, p9, p10, p11, p12]
def sizesN : List Nat := [1, 1, 1, 1, 4, 4, 4, 8, 8, 8, 8]
/-- A stage of ref04.Put. -/
def PSt (g : AHeap) (bx : ABlk) (H : AHeap) (v : AV) (l : List Int) : Prop := GsAt H v l ∧ H[g.length]? = some bx ∧ (∀ p, blkOf v = some p → g.length < p) ∧ Keeps g H none ∧ l.length < 800000
theorem PSt.step {g : AHeap} {bx : ABlk} {H : AHeap} {v : AV} {l : List Int} {n S : Int} {s : Nat} (hS : (s : Int) = S) (hb : ∀ j, bx.st ≠ .old j) (hg : Good g) (a : PSt g bx H v l) (hl : l.length + s < 800000) (n0 : 0 ≤ n) (n1 : n < 18446744073709551616) (s1 : 1 ≤ s) (s8 : s ≤ 8) :
    ∃ v' H' ws, W CP 116 [v, .int .u64 n, .int .i64 S] H = some (v', H', ws) ∧ PSt g bx H' v' (l ++ dg s n) ∧ (∀ al, wadd g.length al ws = al) ∧ (∃ p, blkOf v' = some p ∧ g.length < p) := by
  obtain ⟨a1, a2, a3, a4, a5⟩ := a
  subst hS
  have hgl := (List.getElem?_eq_some_iff.1 a2).1
  obtain ⟨v', H', ws, e, g1, g2, g3, p, g4, g5⟩ := reflay_c (a4.2.2 hg) a1 (by omega) n0 n1 s1 s8
  refine ⟨v', H', ws, e, ⟨g1, g2.1 _ _ a2 (fun j _ => hb j) fun e => ?_, fun q hq => ?_, Keeps.trans hg a4 g2 fun q hq hl => ?_, ?_⟩, fun al => wadd_ge fun b hb => ?_, p, g4, by omega⟩
  · have := a3 _ e; omega
  · rw [g4] at hq; cases hq; omega
  · have := a3 _ hq; omega
  · rw [List.length_append, dg_len]; omega
  · have := a3 _ (g3 b hb); omega
set_option maxHeartbeats 8000000 in
theorem refPut_key {p0 p1 p2 p3 p4 p5 p6 p7 p8 p9 p10 p11 p12 p15 p16 : Int} {x : AV} {s : Bool} (hx : x.isCell = true) (hm : mayH p0 p1 p2 = true) (q0 : 0 ≤ p0) (q1 : 0 ≤ p1) (q2 : 0 ≤ p2) (q3 : 0 ≤ p3) (r3 : p3 ≤ 255) (q4 : -128 ≤ p4) (r4 : p4 ≤ 127) (q5 : -128 ≤ p5) (r5 : p5 ≤ 127) (q6 : 0 ≤ p6) (r6 : p6 ≤ 4294967295) (q7 : 0 ≤ p7) (r7 : p7 ≤ 4294967295) (q8 : 0 ≤ p8) (r8 : p8 ≤ 4294967295)
    (q9 : 0 ≤ p9) (r9 : p9 ≤ 18446744073709551615) (q10 : 0 ≤ p10) (r10 : p10 ≤ 18446744073709551615) (q11 : 0 ≤ p11) (r11 : p11 ≤ 18446744073709551615) (q12 : 0 ≤ p12) (r12 : p12 ≤ 18446744073709551615) (g : AHeap) (hg : Good g) :
    Wp (xbody (W CP) M99 [.agg [.int .u8 p0, .int .u8 p1, .int .u8 p2, .int .u8 p3, .int .i8 p4, .int .i8 p5, .int .u32 p6, .int .u32 p7, .int .u32 p8, .int .u64 p9, .int .u64 p10, .int .u64 p11, .int .u64 p12, x, .bool s, .int .u32 p15, .int .u64 p16]] g) fun r => r.1.lt g.length = false ∧ r.2.2 = [] ∧ Keeps g r.2.1 none ∧ ∃ v p, r.1 = .tup [v, .int .i64 0] ∧ blkOf v = some p ∧ g.length ≤ p ∧ GsAt r.2.1 v (layB sizesN (headV p0 p1 p2 p3 p4 p5 p6 p7 p8 p9 p10 p11 p12)) := by
  have hm' := hm
  simp only [mayH, Bool.and_eq_true, decide_eq_true_eq] at hm'
  obtain ⟨⟨⟨m1, m2⟩, m3⟩, m4⟩ := hm'
  have eM := refMay_c (p0 := p0) (p1 := p1) (p2 := p2) (p3 := p3) (p4 := p4) (p5 := p5) (p6 := p6) (p7 := p7) (p8 := p8) (p9 := p9) (p10 := p10) (p11 := p11) (p12 := p12) (p15 := p15) (p16 := p16) (s := s) hx (good_app (js := [⟨.tip false, .vals [.int .u8 p0, .int .u8 p1, .int .u8 p2, .int .u8 p3, .int .i8 p4, .int .i8 p5, .int .u32 p6, .int .u32 p7, .int .u32 p8, .int .u64 p9, .int .u64 p10, .int .u64 p11, .int .u64 p12, x, .bool s, .int .u32 p15, .int .u64 p16]⟩]) hg rfl)
  rw [hm] at eM
  have eS4 := fun h => signed_c q4 r4 h
  have eS5 := fun h => signed_c q5 r5 h
  obtain ⟨b4, hb4, b41, b42⟩ : ∃ z, p4 % 256 = z ∧ 0 ≤ z ∧ z < 256 := ⟨_, rfl, by omega, by omega⟩
  obtain ⟨b5, hb5, b51, b52⟩ : ∃ z, p5 % 256 = z ∧ 0 ≤ z ∧ z < 256 := ⟨_, rfl, by omega, by omega⟩
  rw [hb4] at eS4
  rw [hb5] at eS5
  have w0 : IntKind.u64.wrap p0 = p0 := wr_u64 _ (by omega) (by omega)
  have w1 : IntKind.u64.wrap p1 = p1 := wr_u64 _ (by omega) (by omega)
  have w2 : IntKind.u64.wrap p2 = p2 := wr_u64 _ (by omega) (by omega)
  have w3 : IntKind.u64.wrap p3 = p3 := wr_u64 _ (by omega) (by omega)
  have w6 : IntKind.u64.wrap p6 = p6 := wr_u64 _ (by omega) (by omega)
  have w7 : IntKind.u64.wrap p7 = p7 := wr_u64 _ (by omega) (by omega)
  have w8 : IntKind.u64.wrap p8 = p8 := wr_u64 _ (by omega) (by omega)
  have x0 : IntKind.u64.wrap (p0 * 64) = p0 * 64 := wr_u64 _ (by omega) (by omega)
  have x1 : IntKind.u64.wrap (p1 * 8) = p1 * 8 := wr_u64 _ (by omega) (by omega)
  have x2 : IntKind.u64.wrap (p0 * 64 + p1 * 8) = p0 * 64 + p1 * 8 := wr_u64 _ (by omega) (by omega)
  have x3 : IntKind.u64.wrap (p0 * 64 + p1 * 8 + p2) = p0 * 64 + p1 * 8 + p2 := wr_u64 _ (by omega) (by omega)
  have hbx : ∀ j, (⟨.tip false, .vals [.int .u8 p0, .int .u8 p1, .int .u8 p2, .int .u8 p3, .int .i8 p4, .int .i8 p5, .int .u32 p6, .int .u32 p7, .int .u32 p8, .int .u64 p9, .int .u64 p10, .int .u64 p11, .int .u64 p12, x, .bool s, .int .u32 p15, .int .u64 p16]⟩ : ABlk).st ≠ .old j := fun j => by simp
  have s0 : PSt g ⟨.tip false, .vals [.int .u8 p0, .int .u8 p1, .int .u8 p2, .int .u8 p3, .int .i8 p4, .int .i8 p5, .int .u32 p6, .int .u32 p7, .int .u32 p8, .int .u64 p9, .int .u64 p10, .int .u64 p11, .int .u64 p12, x, .bool s, .int .u32 p15, .int .u64 p16]⟩ (g ++ [⟨.tip false, .vals [.int .u8 p0, .int .u8 p1, .int .u8 p2, .int .u8 p3, .int .i8 p4, .int .i8 p5, .int .u32 p6, .int .u32 p7, .int .u32 p8, .int .u64 p9, .int .u64 p10, .int .u64 p11, .int .u64 p12, x, .bool s, .int .u32 p15, .int .u64 p16]⟩]) .nils [] := ⟨Or.inl ⟨rfl, rfl⟩, by simp, by simp [blkOf], Keeps.app _ _ _ rfl, by simp⟩
  obtain ⟨v1, H1, ws1, e1, s1, a1, z1⟩ := PSt.step (n := p0 * 64 + p1 * 8 + p2) (S := 1) (s := 1) rfl hbx hg s0 (by simp [dg_len]) (by omega) (by omega) (by omega) (by omega)
  have k1 := s1.2.1
  have l1 := (List.getElem?_eq_some_iff.1 k1).1
  have n1 := na_slen s1.1.slen
  obtain ⟨v2, H2, ws2, e2, s2, a2, z2⟩ := PSt.step (n := p3) (S := 1) (s := 1) rfl hbx hg s1 (by simp [dg_len]) (by omega) (by omega) (by omega) (by omega)
  have k2 := s2.2.1
  have l2 := (List.getElem?_eq_some_iff.1 k2).1
  have n2 := na_slen s2.1.slen
  obtain ⟨v3, H3, ws3, e3, s3, a3, z3⟩ := PSt.step (n := b4) (S := 1) (s := 1) rfl hbx hg s2 (by simp [dg_len]) (by omega) (by omega) (by omega) (by omega)
  have k3 := s3.2.1
  have l3 := (List.getElem?_eq_some_iff.1 k3).1
  have n3 := na_slen s3.1.slen
  obtain ⟨v4, H4, ws4, e4, s4, a4, z4⟩ := PSt.step (n := b5) (S := 1) (s := 1) rfl hbx hg s3 (by simp [dg_len]) (by omega) (by omega) (by omega) (by omega)
  have k4 := s4.2.1
  have l4 := (List.getElem?_eq_some_iff.1 k4).1
  have n4 := na_slen s4.1.slen
  obtain ⟨v5, H5, ws5, e5, s5, a5, z5⟩ := PSt.step (n := p6) (S := 4) (s := 4) rfl hbx hg s4 (by simp [dg_len]) (by omega) (by omega) (by omega) (by omega)
  have k5 := s5.2.1
  have l5 := (List.getElem?_eq_some_iff.1 k5).1
  have n5 := na_slen s5.1.slen
  obtain ⟨v6, H6, ws6, e6, s6, a6, z6⟩ := PSt.step (n := p7) (S := 4) (s := 4) rfl hbx hg s5 (by simp [dg_len]) (by omega) (by omega) (by omega) (by omega)
  have k6 := s6.2.1
  have l6 := (List.getElem?_eq_some_iff.1 k6).1
  have n6 := na_slen s6.1.slen
  obtain ⟨v7, H7, ws7, e7, s7, a7, z7⟩ := PSt.step (n := p8) (S := 4) (s := 4) rfl hbx hg s6 (by simp [dg_len]) (by omega) (by omega) (by omega) (by omega)
  have k7 := s7.2.1
  have l7 := (List.getElem?_eq_some_iff.1 k7).1
  have n7 := na_slen s7.1.slen
  obtain ⟨v8, H8, ws8, e8, s8, a8, z8⟩ := PSt.step (n := p9) (S := 8) (s := 8) rfl hbx hg s7 (by simp [dg_len]) (by omega) (by omega) (by omega) (by omega)
  have k8 := s8.2.1
  have l8 := (List.getElem?_eq_some_iff.1 k8).1
  have n8 := na_slen s8.1.slen
  obtain ⟨v9, H9, ws9, e9, s9, a9, z9⟩ := PSt.step (n := p10) (S := 8) (s := 8) rfl hbx hg s8 (by simp [dg_len]) (by omega) (by omega) (by omega) (by omega)
  have k9 := s9.2.1
  have l9 := (List.getElem?_eq_some_iff.1 k9).1
  have n9 := na_slen s9.1.slen
  obtain ⟨v10, H10, ws10, e10, s10, a10, z10⟩ := PSt.step (n := p11) (S := 8) (s := 8) rfl hbx hg s9 (by simp [dg_len]) (by omega) (by omega) (by omega) (by omega)
  have k10 := s10.2.1
  have l10 := (List.getElem?_eq_some_iff.1 k10).1
  have n10 := na_slen s10.1.slen
  obtain ⟨v11, H11, ws11, e11, s11, a11, z11⟩ := PSt.step (n := p12) (S := 8) (s := 8) rfl hbx hg s10 (by simp [dg_len]) (by omega) (by omega) (by omega) (by omega)
  have k11 := s11.2.1
  have l11 := (List.getElem?_eq_some_iff.1 k11).1
  have n11 := na_slen s11.1.slen
  simp (maxDischargeDepth := 9) -implicitDefEqProofs only [push_cast, simprocAttr, M99, hx, eM, eS4, eS5, w0, w1, w2, w3, w6, w7, w8, x0, x1, x2, x3, e1, a1, k1, l1, n1, e2, a2, k2, l2, n2, e3, a3, k3, l3, n3, e4, a4, k4, l4, n4, e5, a5, k5, l5, n5, e6, a6, k6, l6, n6, e7, a7, k7, l7, n7, e8, a8, k8, l8, n8, e9, a9, k9, l9, n9, e10, a10, k10, l10, n10, e11, a11, k11, l11, n11]
  obtain ⟨pp, hp1, hp2⟩ := z11
  refine ⟨by simp [AV.lt, AV.lts, addr_no hp1 (show g.length ≤ pp by omega)], s11.2.2.2.1, v11, pp, rfl, hp1, by omega, ?_⟩
  have := s11.1
  simp only [List.nil_append, List.append_assoc] at this
  simpa [layB, sizesN, headV, hb4, hb5] using this
theorem refPut_c {p0 p1 p2 p3 p4 p5 p6 p7 p8 p9 p10 p11 p12 p15 p16 : Int} {x : AV} {s : Bool} (hx : x.isCell = true) (hm : mayH p0 p1 p2 = true) (q0 : 0 ≤ p0) (q1 : 0 ≤ p1) (q2 : 0 ≤ p2) (q3 : 0 ≤ p3) (r3 : p3 ≤ 255) (q4 : -128 ≤ p4) (r4 : p4 ≤ 127) (q5 : -128 ≤ p5) (r5 : p5 ≤ 127) (q6 : 0 ≤ p6) (r6 : p6 ≤ 4294967295) (q7 : 0 ≤ p7) (r7 : p7 ≤ 4294967295) (q8 : 0 ≤ p8) (r8 : p8 ≤ 4294967295) (q9 : 0 ≤ p9) (r9 : p9 ≤ 18446744073709551615) (q10 : 0 ≤ p10) (r10 : p10 ≤ 18446744073709551615) (q11 : 0 ≤ p11) (r11 : p11 ≤ 18446744073709551615) (q12 : 0 ≤ p12) (r12 : p12 ≤ 18446744073709551615) {h : AHeap} (hg : Good h) :
    ∃ v h' p, W CP 99 [.agg [.int .u8 p0, .int .u8 p1, .int .u8 p2, .int .u8 p3, .int .i8 p4, .int .i8 p5, .int .u32 p6, .int .u32 p7, .int .u32 p8, .int .u64 p9, .int .u64 p10, .int .u64 p11, .int .u64 p12, x, .bool s, .int .u32 p15, .int .u64 p16]] h = some (.tup [v, .int .i64 0], h', []) ∧ Keeps h h' none ∧ blkOf v = some p ∧ h.length ≤ p ∧ GsAt h' v (layB sizesN (headV p0 p1 p2 p3 p4 p5 p6 p7 p8 p9 p10 p11 p12)) := by
  obtain ⟨⟨v, h', ws⟩, e, rfl, hk, v', p, rfl, h1, h2, h3⟩ := W_addr (C := CP) (f := 99) (args := [.agg [.int .u8 p0, .int .u8 p1, .int .u8 p2, .int .u8 p3, .int .i8 p4, .int .i8 p5, .int .u32 p6, .int .u32 p7, .int .u32 p8, .int .u64 p9, .int .u64 p10, .int .u64 p11, .int .u64 p12, x, .bool s, .int .u32 p15, .int .u64 p16]]) (m := M99) Good (fun g r => r.2.2 = [] ∧ Keeps g r.2.1 none ∧ ∃ v p, r.1 = .tup [v, .int .i64 0] ∧ blkOf v = some p ∧ g.length ≤ p ∧ GsAt r.2.1 v (layB sizesN (headV p0 p1 p2 p3 p4 p5 p6 p7 p8 p9 p10 p11 p12))) (fun _ => rfl) rfl rfl gl_good (fun g hg => refPut_key (p15 := p15) (p16 := p16) (s := s) hx hm q0 q1 q2 q3 r3 q4 r4 q5 r5 q6 r6 q7 r7 q8 r8 q9 r9 q10 r10 q11 r11 q12 r12 g hg) hg
  exact ⟨v', h', p, e, hk, h1, h2, h3⟩
end Go.Proofs.YtdpbbagllhfjbaaDoorW.AI.F
namespace Go.Proofs.YtdpbbagllhfjbaaDoorW.AI.F
open Go Go.Proofs.YtdpbbagllhfjbaaDoorW.AI Go.Proofs.YtdpbbagllhfjbaaDoorW.AI.Oct
set_option maxRecDepth 100000
set_option linter.unusedSimpArgs false
set_option linter.unusedVariables false
set_option linter.unusedSectionVars false
/-- The sizes lie where they are laid. -/
def At0 (h : AHeap) : Prop := h[1]? = some ⟨.ext, .ints .i64 sizesL⟩ ∧ 1 < h.length
theorem At0.app {h : AHeap} (a : At0 h) (js : AHeap) : At0 (h ++ js) := ⟨by rw [List.getElem?_append_left a.2]; exact a.1, by simp; have := a.2; omega⟩
theorem at0_gl : At0 CP.gl := ⟨rfl, by decide⟩
def GA (h : AHeap) : Prop := Good h ∧ At0 h
def putJs (bx : ABlk) (V : List Int) (r : Nat) : AHeap := [bx, ⟨.tip false, .ints .u64 V⟩, ⟨.tip false, .vals [.sl r 0 11 11]⟩, ⟨.tip false, .ints .i64 [0]⟩, ⟨.tip false, .ints .u8 (layB sizesN V)⟩]
theorem put_or (a b c : Int) (a0 : 0 ≤ a) (a1 : a ≤ 3) (b0 : 0 ≤ b) (b1 : b ≤ 7) (c0 : 0 ≤ c) (c1 : c ≤ 7) : abits .or .u64 (abits .or .u64 (a * 64) (b * 8)) c = a * 64 + b * 8 + c := by
  rcases (by omega : a = 0 ∨ a = 1 ∨ a = 2 ∨ a = 3) with rfl | rfl | rfl | rfl <;> rcases (by omega : b = 0 ∨ b = 1 ∨ b = 2 ∨ b = 3 ∨ b = 4 ∨ b = 5 ∨ b = 6 ∨ b = 7) with rfl | rfl | rfl | rfl | rfl | rfl | rfl | rfl <;> rcases (by omega : c = 0 ∨ c = 1 ∨ c = 2 ∨ c = 3 ∨ c = 4 ∨ c = 5 ∨ c = 6 ∨ c = 7) with rfl | rfl | rfl | rfl | rfl | rfl | rfl | rfl <;> rfl
set_option maxHeartbeats 8000000 in
theorem hput_key {p0 p1 p2 p3 p4 p5 p6 p7 p8 p9 p10 p11 p12 p15 p16 : Int} {x : AV} {s : Bool} (hx : x.isCell = true) (hm : mayH p0 p1 p2 = true) (q0 : 0 ≤ p0) (q1 : 0 ≤ p1) (q2 : 0 ≤ p2) (q3 : 0 ≤ p3) (r3 : p3 ≤ 255) (q4 : -128 ≤ p4) (r4 : p4 ≤ 127) (q5 : -128 ≤ p5) (r5 : p5 ≤ 127) (q6 : 0 ≤ p6) (r6 : p6 ≤ 4294967295) (q7 : 0 ≤ p7) (r7 : p7 ≤ 4294967295) (q8 : 0 ≤ p8) (r8 : p8 ≤ 4294967295) (q9 : 0 ≤ p9) (r9 : p9 ≤ 18446744073709551615) (q10 : 0 ≤ p10) (r10 : p10 ≤ 18446744073709551615) (q11 : 0 ≤ p11) (r11 : p11 ≤ 18446744073709551615) (q12 : 0 ≤ p12) (r12 : p12 ≤ 18446744073709551615) (g : AHeap) (hg : GA g) :
    Wp (xbody (W CP) M73 [.agg [.int .u8 p0, .int .u8 p1, .int .u8 p2, .int .u8 p3, .int .i8 p4, .int .i8 p5, .int .u32 p6, .int .u32 p7, .int .u32 p8, .int .u64 p9, .int .u64 p10, .int .u64 p11, .int .u64 p12, x, .bool s, .int .u32 p15, .int .u64 p16]] g) fun r => r.1.lt g.length = false ∧ r = (.tup [.sl (g.length + 4) 0 48 48, .int .i64 0], g ++ putJs ⟨.tip false, .vals [.int .u8 p0, .int .u8 p1, .int .u8 p2, .int .u8 p3, .int .i8 p4, .int .i8 p5, .int .u32 p6, .int .u32 p7, .int .u32 p8, .int .u64 p9, .int .u64 p10, .int .u64 p11, .int .u64 p12, x, .bool s, .int .u32 p15, .int .u64 p16]⟩ (headV p0 p1 p2 p3 p4 p5 p6 p7 p8 p9 p10 p11 p12) (g.length + 1), []) := by
  obtain ⟨hg, hat⟩ := hg
  have h0 := hat.1
  have h1 := hat.2
  have h2 : ¬ g.length ≤ 1 := by omega
  have hm' := hm
  simp only [mayH, Bool.and_eq_true, decide_eq_true_eq] at hm'
  obtain ⟨⟨⟨m1, m2⟩, m3⟩, m4⟩ := hm'
  have eM := may_c (p0 := p0) (p1 := p1) (p2 := p2) (p3 := p3) (p4 := p4) (p5 := p5) (p6 := p6) (p7 := p7) (p8 := p8) (p9 := p9) (p10 := p10) (p11 := p11) (p12 := p12) (p15 := p15) (p16 := p16) (s := s) hx (good_app (js := [⟨.tip false, .vals [.int .u8 p0, .int .u8 p1, .int .u8 p2, .int .u8 p3, .int .i8 p4, .int .i8 p5, .int .u32 p6, .int .u32 p7, .int .u32 p8, .int .u64 p9, .int .u64 p10, .int .u64 p11, .int .u64 p12, x, .bool s, .int .u32 p15, .int .u64 p16]⟩]) hg rfl)
  rw [hm] at eM
  obtain ⟨b4, hb4, b41, b42⟩ : ∃ z, p4 % 256 = z ∧ 0 ≤ z ∧ z < 256 := ⟨_, rfl, by omega, by omega⟩
  obtain ⟨b5, hb5, b51, b52⟩ : ∃ z, p5 % 256 = z ∧ 0 ≤ z ∧ z < 256 := ⟨_, rfl, by omega, by omega⟩
  have w0 : IntKind.u64.wrap p0 = p0 := wr_u64 _ (by omega) (by omega)
  have w1 : IntKind.u64.wrap p1 = p1 := wr_u64 _ (by omega) (by omega)
  have w2 : IntKind.u64.wrap p2 = p2 := wr_u64 _ (by omega) (by omega)
  have w3 : IntKind.u64.wrap p3 = p3 := wr_u64 _ (by omega) (by omega)
  have w6 : IntKind.u64.wrap p6 = p6 := wr_u64 _ (by omega) (by omega)
  have w7 : IntKind.u64.wrap p7 = p7 := wr_u64 _ (by omega) (by omega)
  have w8 : IntKind.u64.wrap p8 = p8 := wr_u64 _ (by omega) (by omega)
  have u4 : IntKind.u8.wrap p4 = b4 := hb4
  have u5 : IntKind.u8.wrap p5 = b5 := hb5
  have w4 : IntKind.u64.wrap b4 = b4 := wr_u64 _ (by omega) (by omega)
  have w5 : IntKind.u64.wrap b5 = b5 := wr_u64 _ (by omega) (by omega)
  have x0 : IntKind.u64.wrap (p0 * 64) = p0 * 64 := wr_u64 _ (by omega) (by omega)
  have x1 : IntKind.u64.wrap (p1 * 8) = p1 * 8 := wr_u64 _ (by omega) (by omega)
  have x2 := put_or p0 p1 p2 q0 m1 q1 (by omega) q2 m4
  have hL := lay_ok (h := g ++ [⟨.tip false, .vals [.int .u8 p0, .int .u8 p1, .int .u8 p2, .int .u8 p3, .int .i8 p4, .int .i8 p5, .int .u32 p6, .int .u32 p7, .int .u32 p8, .int .u64 p9, .int .u64 p10, .int .u64 p11, .int .u64 p12, x, .bool s, .int .u32 p15, .int .u64 p16]⟩, ⟨.tip false, .ints .u64 (headV p0 p1 p2 p3 p4 p5 p6 p7 p8 p9 p10 p11 p12)⟩]) (q := 1) (cS := 11) (r := g.length + 1) (cap := 11) (Ls := sizesN) (V := headV p0 p1 p2 p3 p4 p5 p6 p7 p8 p9 p10 p11 p12) (good_app hg rfl) ⟨Or.inl (by rw [List.getElem?_append_left h1]; exact h0), by decide⟩ ⟨Or.inr (by rw [List.getElem?_append_right (by omega)]; simp), by simp [headV]⟩ rfl (by decide) ?_ ?_
  · have hN : headV p0 p1 p2 p3 p4 p5 p6 p7 p8 p9 p10 p11 p12 = [p0 * 64 + p1 * 8 + p2, p3, b4, b5, p6, p7, p8, p9, p10, p11, p12] := by unfold headV; rw [hb4, hb5]
    have hs : sizesN.sum = 48 := rfl
    have hl1 : sizesN.length = 11 := rfl
    have hl2 : (headV p0 p1 p2 p3 p4 p5 p6 p7 p8 p9 p10 p11 p12).length = 11 := rfl
    rw [hs, hl1, hl2, hN] at hL
    rw [hN]
    simp only [List.length_append, List.length_cons, List.length_nil, Nat.add_assoc, Nat.reduceAdd, List.append_assoc, List.cons_append, List.nil_append] at hL
    unfold putJs
    simp (maxDischargeDepth := 9) -implicitDefEqProofs only [push_cast, simprocAttr, M73, nadd1, nadd2, nadd3, nadd4, nadd5, nadd6, nadd7, nadd8, nadd9, nadd10, nadd11, nadd12, hx, eM, h0, h1, h2, w0, w1, w2, w3, w4, w5, w6, w7, w8, u4, u5, x0, x1, x2, hL, sizesL]
    simp [AV.lt, AV.lts]
  · intro v hv
    simp only [headV, List.mem_cons, List.not_mem_nil, or_false] at hv
    rcases hv with rfl | rfl | rfl | rfl | rfl | rfl | rfl | rfl | rfl | rfl | rfl <;> omega
  · intro i s v h1 h2
    have : i < 11 := (List.getElem?_eq_some_iff.1 h1).1
    rcases (by omega : i = 0 ∨ i = 1 ∨ i = 2 ∨ i = 3 ∨ i = 4 ∨ i = 5 ∨ i = 6 ∨ i = 7 ∨ i = 8 ∨ i = 9 ∨ i = 10) with rfl | rfl | rfl | rfl | rfl | rfl | rfl | rfl | rfl | rfl | rfl
    all_goals
      simp only [sizesN, headV, List.getElem?_cons_zero, List.getElem?_cons_succ, Option.some.injEq] at h1 h2
      subst h1 h2
      simp only [Int.reducePow]
      omega
theorem put_c {p0 p1 p2 p3 p4 p5 p6 p7 p8 p9 p10 p11 p12 p15 p16 : Int} {x : AV} {s : Bool} (hx : x.isCell = true) (hm : mayH p0 p1 p2 = true) (q0 : 0 ≤ p0) (q1 : 0 ≤ p1) (q2 : 0 ≤ p2) (q3 : 0 ≤ p3) (r3 : p3 ≤ 255) (q4 : -128 ≤ p4) (r4 : p4 ≤ 127) (q5 : -128 ≤ p5) (r5 : p5 ≤ 127) (q6 : 0 ≤ p6) (r6 : p6 ≤ 4294967295) (q7 : 0 ≤ p7) (r7 : p7 ≤ 4294967295) (q8 : 0 ≤ p8) (r8 : p8 ≤ 4294967295) (q9 : 0 ≤ p9) (r9 : p9 ≤ 18446744073709551615) (q10 : 0 ≤ p10) (r10 : p10 ≤ 18446744073709551615) (q11 : 0 ≤ p11) (r11 : p11 ≤ 18446744073709551615) (q12 : 0 ≤ p12) (r12 : p12 ≤ 18446744073709551615) {h : AHeap} (hg : Good h) (ha : At0 h) :
    W CP 73 [.agg [.int .u8 p0, .int .u8 p1, .int .u8 p2, .int .u8 p3, .int .i8 p4, .int .i8 p5, .int .u32 p6, .int .u32 p7, .int .u32 p8, .int .u64 p9, .int .u64 p10, .int .u64 p11, .int .u64 p12, x, .bool s, .int .u32 p15, .int .u64 p16]] h = some (.tup [.sl (h.length + 4) 0 48 48, .int .i64 0], h ++ putJs ⟨.tip false, .vals [.int .u8 p0, .int .u8 p1, .int .u8 p2, .int .u8 p3, .int .i8 p4, .int .i8 p5, .int .u32 p6, .int .u32 p7, .int .u32 p8, .int .u64 p9, .int .u64 p10, .int .u64 p11, .int .u64 p12, x, .bool s, .int .u32 p15, .int .u64 p16]⟩ (headV p0 p1 p2 p3 p4 p5 p6 p7 p8 p9 p10 p11 p12) (h.length + 1), []) := by
  obtain ⟨r, e, rfl⟩ := W_addr (C := CP) (f := 73) (args := [.agg [.int .u8 p0, .int .u8 p1, .int .u8 p2, .int .u8 p3, .int .i8 p4, .int .i8 p5, .int .u32 p6, .int .u32 p7, .int .u32 p8, .int .u64 p9, .int .u64 p10, .int .u64 p11, .int .u64 p12, x, .bool s, .int .u32 p15, .int .u64 p16]]) (m := M73) GA (fun g r => r = (.tup [.sl (g.length + 4) 0 48 48, .int .i64 0], g ++ putJs ⟨.tip false, .vals [.int .u8 p0, .int .u8 p1, .int .u8 p2, .int .u8 p3, .int .i8 p4, .int .i8 p5, .int .u32 p6, .int .u32 p7, .int .u32 p8, .int .u64 p9, .int .u64 p10, .int .u64 p11, .int .u64 p12, x, .bool s, .int .u32 p15, .int .u64 p16]⟩ (headV p0 p1 p2 p3 p4 p5 p6 p7 p8 p9 p10 p11 p12) (g.length + 1), [])) (fun _ => rfl) rfl rfl ⟨gl_good, at0_gl⟩ (fun g hg => hput_key (p15 := p15) (p16 := p16) (s := s) hx hm q0 q1 q2 q3 r3 q4 r4 q5 r5 q6 r6 q7 r7 q8 r8 q9 r9 q10 r10 q11 r11 q12 r12 g hg) ⟨hg, ha⟩
  exact e
end Go.Proofs.YtdpbbagllhfjbaaDoorW.AI.F
namespace Go.Proofs.YtdpbbagllhfjbaaDoorW.AI.F
open Go Go.Proofs.YtdpbbagllhfjbaaDoorW.AI Go.Proofs.YtdpbbagllhfjbaaDoorW.AI.Oct
set_option maxRecDepth 100000
set_option linter.unusedSimpArgs false
set_option linter.unusedVariables false
set_option linter.unusedSectionVars false
end Go.Proofs.YtdpbbagllhfjbaaDoorW.AI.F
namespace Go.Proofs.YtdpbbagllhfjbaaDoorW.AI.F
open Go Go.Proofs.YtdpbbagllhfjbaaDoorW.AI Go.Proofs.YtdpbbagllhfjbaaDoorW.AI.Oct
set_option maxRecDepth 100000
set_option linter.unusedSimpArgs false
set_option linter.unusedVariables false
set_option linter.unusedSectionVars false
end Go.Proofs.YtdpbbagllhfjbaaDoorW.AI.F

import Derived.Test.YtdpbbagllhfjbaaDoorAIGoctA
import Derived.Test.YtdpbbagllhfjbaaDoorAITools
namespace Go.Proofs.YtdpbbagllhfjbaaDoorW.AI.G
open Go Go.Proofs.YtdpbbagllhfjbaaDoorW.AI Go.Proofs.YtdpbbagllhfjbaaDoorW.AI.Oct
set_option maxRecDepth 100000
set_option linter.unusedSimpArgs false
set_option linter.unusedVariables false
set_option linter.unusedSectionVars false
theorem trim_no {n : Nat} {v : AV} {h : AHeap} {ws : List Nat} {b : Nat} {x : ABlk} (hb : b ∈ ws) (hx : h[b]? = some x) (hl : x.c.lt n = false) : trimR n (v, h, ws) = (v, h, ws) := by
  unfold trimR
  rw [if_neg]
  intro h1
  simp only [Bool.and_eq_true] at h1
  have := List.all_eq_true.1 h1.1.2 b hb
  rw [hx] at this
  simp only at this
  rw [hl] at this
  cases this
theorem wadd_mem6 {base : Nat} : ∀ {new ws : List Nat} {b : Nat}, b ∈ wadd base ws new → b ∈ ws ∨ (b ∈ new ∧ b < base)
  | [], ws, b, h => Or.inl h
  | a :: new, ws, b, h => by
    rw [wadd_cons] at h
    rcases wadd_mem6 h with h | h
    · split at h
      · rename_i hc
        rcases List.mem_append.1 h with h | h
        · exact Or.inl h
        · simp only [List.mem_singleton] at h
          subst h
          exact Or.inr ⟨List.mem_cons_self, hc.1⟩
      · exact Or.inl h
    · exact Or.inr ⟨List.mem_cons_of_mem _ h.1, h.2⟩
theorem new_one8 {H : AHeap} (d : Int) : newCells (H ++ [⟨.tip false, .ints .u64 [d]⟩]) (.ints .u64 [0]) (.sl H.length 0 1 1) = some (.ints .u64 [d]) := by
  have hq : (H ++ [(⟨.tip false, .ints .u64 [d]⟩ : ABlk)])[H.length]? = some ⟨.tip false, .ints .u64 [d]⟩ := by simp
  simp [newCells, sliceCells, cellsAt, hq, ACells.len, ACells.sub]
set_option maxHeartbeats 2000000 in
theorem take1_c {H : AHeap} {c s : Nat} {lv k x : AV} {N bs : List Int} (hg : Good H) (a0 : H[c]? = some ⟨.tip false, .vals [lv]⟩) (hN : Gs8At H lv N) (hne : blkOf lv ≠ some c) (hb : BytAt H x bs) (hbs : bs.length = s) (s1 : 1 ≤ s) (s8 : s ≤ 8) (hn : N.length < 900000) :
    ∃ lv' H' ws, W CP 71 [k, x, .ptr c 0] H = some (.bool true, H', ws) ∧ H'[c]? = some ⟨.tip false, .vals [lv']⟩ ∧ Gs8At H' lv' (N ++ [be bs]) ∧ (∃ p, blkOf lv' = some p ∧ H.length ≤ p) ∧ H.length ≤ H'.length ∧ Good H' ∧ (∀ b ∈ ws, b = c ∨ blkOf lv = some b) ∧ c ∈ ws ∧
      (∀ q z, H[q]? = some z → q ≠ c → (∀ j, blkOf lv = some j → z.st ≠ .old j) → blkOf lv ≠ some q → H'[q]? = some z) := by
  have hcl := (List.getElem?_eq_some_iff.1 a0).1
  have hnx := na_slen hb.1
  have ev := value_c hb (by omega) (by omega)
  have hna := na_slen hN.slen
  obtain ⟨d, hd⟩ : ∃ d, be bs = d := ⟨_, rfl⟩
  rw [hd] at ev
  have hkb : Keeps H (H ++ [⟨.tip false, .ints .u64 [d]⟩]) none := Keeps.app _ _ _ rfl
  obtain ⟨v', h2, ws2, ea, g2, k2, w4, b2, l2⟩ := app_one8 (xs := [d]) (k := 1) (hN.keeps hkb (by simp)) rfl (by omega) (by omega)
  have en := new_one8 (H := H) d
  have hna2 := na_slen g2.slen
  have hc2 : h2[c]? = some ⟨.tip false, .vals [lv]⟩ := k2.1 c _ (hkb.1 c _ a0 (by simp) (by simp)) (fun j _ => by simp) hne
  have hc2l := (List.getElem?_eq_some_iff.1 hc2).1
  have hcl2 : ¬ H.length ≤ c := by omega
  have hcw : ¬ c ∈ ws2 := fun h => hne (w4 c h)
  obtain ⟨y, mn, rfl⟩ : ∃ p mn, v' = .gsl p 0 (N.length + 1) 1 mn := by
    rcases g2 with ⟨_, e⟩ | ⟨p, mn, o, e, _⟩
    · simp at e
    · exact ⟨p, mn, by rw [e]; simp⟩
  have key : Wp (xbody (W CP) M71 [k, x, .ptr c 0] H) fun r => r.1 = .bool true ∧ r.2.1 = h2.set c ⟨.tip false, .vals [.gsl y 0 (N.length + 1) 1 mn]⟩ ∧ r.2.2 = wadd H.length (wadd H.length [] ws2) [c] := by
    simp (maxDischargeDepth := 9) -implicitDefEqProofs only [push_cast, simprocAttr, M71, nadd1, nadd2, nadd3, nadd4, nadd5, nadd6, nadd7, nadd8, nadd9, nadd10, nadd11, nadd12, a0, hcl, ev, hna, hnx, hna2, en, ea, hc2, hc2l, hcw, hcl2]
  obtain ⟨⟨r, H', ws⟩, e, rfl, rfl, rfl⟩ := key
  have hy : y = H.length + 1 := by
    simp only [blkOf, Option.some.injEq] at b2
    rw [b2]; simp
  have hcm : c ∈ wadd H.length (wadd H.length [] ws2) [c] := by
    rw [wadd_one]
    by_cases h : c ∈ wadd H.length [] ws2
    · rw [if_neg (fun e => e.2 h)]; exact h
    · rw [if_pos ⟨hcl, h⟩]; simp
  have hG2 := k2.2.2 (hkb.2.2 hg)
  have hyc : y ≠ c := by omega
  rw [hd]
  refine ⟨.gsl y 0 (N.length + 1) 1 mn, h2.set c ⟨.tip false, .vals [.gsl y 0 (N.length + 1) 1 mn]⟩, wadd H.length (wadd H.length [] ws2) [c], ?_, List.getElem?_set_self hc2l, ?_, ⟨y, rfl, by omega⟩, by rw [List.length_set, l2]; simp; omega, good_set hG2 rfl, ?_, hcm, ?_⟩
  · rw [W_body (m := M71) rfl rfl (by simp [AV.lts, AV.lt]) e, show (M71).trim = true from rfl, if_pos rfl]
    rw [trim_no (n := H.length) (x := ⟨.tip false, .vals [.gsl y 0 (N.length + 1) 1 mn]⟩) hcm (List.getElem?_set_self hc2l) (by rw [hy]; simp [ACells.lt, AV.lts, AV.lt]; intro; omega)]
  · rcases g2 with ⟨h, _⟩ | ⟨p, mn', o, h1, h3⟩
    · cases h
    · simp only [AV.gsl.injEq] at h1
      obtain ⟨rfl, _, hl, _, rfl⟩ := h1
      exact Or.inr ⟨y, mn, o, by rw [hl], by rw [List.getElem?_set_ne (Ne.symm hyc)]; exact h3⟩
  · intro b hb
    have : b = c ∨ b ∈ wadd H.length [] ws2 := by
      rw [wadd_one] at hb
      split at hb
      · rcases List.mem_append.1 hb with h | h
        · exact Or.inr h
        · exact Or.inl (by simpa using h)
      · exact Or.inr hb
    rcases this with h | h
    · exact Or.inl h
    · rcases wadd_mem6 h with h | ⟨h, _⟩
      · simp at h
      · exact Or.inr (w4 b h)
  · intro q x h1 h3 h4 h5
    rw [List.getElem?_set_ne (Ne.symm h3)]
    exact k2.1 q x (hkb.1 q x h1 (by simp) (by simp)) h4 h5
end Go.Proofs.YtdpbbagllhfjbaaDoorW.AI.G
namespace Go.Proofs.YtdpbbagllhfjbaaDoorW.AI.G
open Go Go.Proofs.YtdpbbagllhfjbaaDoorW.AI Go.Proofs.YtdpbbagllhfjbaaDoorW.AI.Oct
set_option maxRecDepth 100000
set_option linter.unusedSimpArgs false
set_option linter.unusedVariables false
set_option linter.unusedSectionVars false
/-- The numbers of bytes, each of so many. -/
def takeV : List Nat → List Int → List Int
  | [], _ => []
  | s :: Ls, D => be (D.take s) :: takeV Ls (D.drop s)
theorem takeV_len : ∀ (Ls : List Nat) (D : List Int), (takeV Ls D).length = Ls.length
  | [], _ => rfl
  | s :: Ls, D => by simp only [takeV, List.length_cons, takeV_len Ls]
theorem takeV_snoc : ∀ (Ls : List Nat) (s : Nat) (D : List Int), takeV (Ls ++ [s]) D = takeV Ls D ++ [be ((D.drop Ls.sum).take s)]
  | [], s, D => by simp [takeV]
  | a :: Ls, s, D => by
    simp only [List.cons_append, takeV, List.sum_cons]
    rw [takeV_snoc Ls s, List.drop_drop]
def Liv (st : BSt) : Prop := st = .ext ∨ ∃ o, st = .tip o
theorem Liv.nd {st : BSt} (h : Liv st) : st ≠ .dead := by
  rcases h with rfl | ⟨o, rfl⟩ <;> simp
/-- Bytes that lie in a block, as a slice that may be cut. -/
def Src (h : AHeap) (x : AV) (D : List Int) : Prop := Byt D ∧ ∃ b o c st l, h[b]? = some ⟨st, .ints .u8 l⟩ ∧ Liv st ∧ o + D.length ≤ l.length ∧ (l.drop o).take D.length = D ∧ ((x = .sl b o D.length c ∧ D.length ≤ c) ∨ x = .gsl b o D.length 1 false)
theorem cellsAt_of {h : AHeap} {b : Nat} {st : BSt} {c : ACells} (e : h[b]? = some ⟨st, c⟩) (hs : st ≠ .dead) : cellsAt h b = some c := by
  unfold cellsAt
  rw [e]
  cases st <;> first | rfl | exact absurd rfl hs
theorem bytAt_sl {h : AHeap} {b o n c : Nat} {st : BSt} {l : List Int} (e : h[b]? = some ⟨st, .ints .u8 l⟩) (hs : st ≠ .dead) (hl : o + n ≤ l.length) (hB : Byt ((l.drop o).take n)) : BytAt h (.sl b o n c) ((l.drop o).take n) := by
  refine ⟨by simp [slen]; omega, ?_, hB⟩
  simp only [sliceCells, cellsAt_of e hs, Option.bind_some, ACells.len, ACells.sub, Nat.mul_one]
  rw [if_pos hl]
theorem bytAt_gsl {h : AHeap} {b o n : Nat} {m : Bool} {st : BSt} {l : List Int} (e : h[b]? = some ⟨st, .ints .u8 l⟩) (hs : st ≠ .dead) (hl : o + n ≤ l.length) (hB : Byt ((l.drop o).take n)) : BytAt h (.gsl b o n 1 m) ((l.drop o).take n) := by
  refine ⟨by simp [slen]; omega, ?_, hB⟩
  simp only [sliceCells, cellsAt_of e hs, Option.bind_some, ACells.len, ACells.sub, Nat.mul_one, if_true]
  rw [if_pos hl]
theorem Src.bytAt {h : AHeap} {x : AV} {D : List Int} (s : Src h x D) : BytAt h x D := by
  obtain ⟨hB, b, o, c, st, l, e, hs, hl, hd, ⟨rfl, _⟩ | rfl⟩ := s
  · have := bytAt_sl (c := c) e hs.nd hl (by rw [hd]; exact hB); rwa [hd] at this
  · have := bytAt_gsl (m := false) e hs.nd hl (by rw [hd]; exact hB); rwa [hd] at this
theorem Src.mono {h h' : AHeap} {x : AV} {D : List Int} (s : Src h x D) (hm : ∀ (q : Nat) (z : ABlk), h[q]? = some z → (∃ l, z.c = .ints .u8 l) → h'[q]? = some z) : Src h' x D := by
  obtain ⟨hB, b, o, c, st, l, e, hs, hl, hd, k⟩ := s
  exact ⟨hB, b, o, c, st, l, hm _ _ e ⟨_, rfl⟩, hs, hl, hd, k⟩
theorem Src.app {h : AHeap} {x : AV} {D : List Int} (s : Src h x D) (js : AHeap) : Src (h ++ js) x D :=
  s.mono fun q z e _ => by rw [List.getElem?_append_left (List.getElem?_eq_some_iff.1 e).1]; exact e
/-- What follows so many bytes of a slice, and these bytes. -/
def offX (x : AV) (k : Nat) : AV := match x with
  | .sl b o n c => .sl b (o + k) (n - k) (c - k)
  | .gsl b o n e m => .gsl b (o + k) (n - k) e m
  | v => v
theorem offX_0 (x : AV) : offX x 0 = x := by cases x <;> rfl
theorem offX_off (x : AV) (a b : Nat) : offX (offX x a) b = offX x (a + b) := by cases x <;> simp only [offX] <;> congr 1 <;> omega
theorem Src.off {h : AHeap} {x : AV} {D : List Int} (s : Src h x D) {k : Nat} (hk : k ≤ D.length) : Src h (offX x k) (D.drop k) := by
  obtain ⟨hB, b, o, c, st, l, e, hs, hl, hd, kk⟩ := s
  refine ⟨fun z hz => hB z (List.mem_of_mem_drop hz), b, o + k, c - k, st, l, e, hs, by rw [List.length_drop]; omega, ?_, ?_⟩
  · rw [List.length_drop]
    conv => rhs; rw [← hd]
    rw [List.drop_take, List.drop_drop]
  · rw [List.length_drop]
    rcases kk with ⟨rfl, h1⟩ | rfl
    · exact Or.inl ⟨rfl, by omega⟩
    · exact Or.inr rfl
theorem Src.len {h : AHeap} {x : AV} {D : List Int} (s : Src h x D) : slen x = some D.length := s.bytAt.1
theorem good_low {H : AHeap} (hg : Good H) {q : Nat} {z : ABlk} (hz : H[q]? = some z) {j : Nat} (hj : H.length ≤ j) : z.st ≠ .old j := by
  intro e
  have h3 := List.all_eq_true.1 hg z (List.mem_of_getElem? hz)
  unfold oldIn at h3
  rw [e] at h3
  have := of_decide_eq_true h3
  omega
theorem gs8_nil (h : AHeap) : Gs8At h .nils [] := Or.inl ⟨rfl, rfl⟩
theorem mem_wadd_ws {base : Nat} : ∀ {new ws : List Nat} {b : Nat}, b ∈ ws → b ∈ wadd base ws new
  | [], ws, b, h => h
  | a :: new, ws, b, h => by
    rw [wadd_cons]
    refine mem_wadd_ws ?_
    split
    · exact List.mem_append_left _ h
    · exact h
theorem mem_wadd_of {base : Nat} : ∀ {new ws : List Nat} {b : Nat}, b ∈ new → b < base → b ∈ wadd base ws new
  | a :: new, ws, b, h, hb => by
    rw [wadd_cons]
    rcases List.mem_cons.1 h with rfl | h
    · refine mem_wadd_ws ?_
      by_cases hw : b ∈ ws
      · rw [if_neg (fun e => e.2 hw)]; exact hw
      · rw [if_pos ⟨hb, hw⟩]; simp
    · exact mem_wadd_of h hb
set_option maxHeartbeats 4000000 in
theorem cut8_ok {H : AHeap} {q cS c : Nat} {x : AV} {Ls : List Nat} {D : List Int} (hg : Good H) (hS : SzAt H q (szI Ls)) (a0 : H[c]? = some ⟨.tip false, .vals [.nils]⟩) (hx : Src H x D) (hne : Ls ≠ []) (hl : Ls.sum ≤ D.length) (hok : ∀ s ∈ Ls, 1 ≤ s ∧ s ≤ 8) (hLl : Ls.length < 900000) :
    ∃ lv H' ws, W CP 70 [.sl q 0 Ls.length cS, x, .fn 71 [.ptr c 0]] H = some (.tup [], H', ws) ∧ H'[c]? = some ⟨.tip false, .vals [lv]⟩ ∧ Gs8At H' lv (takeV Ls D) ∧ (∃ p, blkOf lv = some p ∧ H.length ≤ p) ∧ Good H' ∧ (∀ b ∈ ws, b = c) ∧ H.length ≤ H'.length ∧ (∀ q z, H[q]? = some z → q ≠ c → H'[q]? = some z) := by
  have hc := (List.getElem?_eq_some_iff.1 a0).1
  have hll : Ls.length < 1000000 := by have := hS.2; simpa using this
  have key : Wp (xbody (W CP) M70 [.sl q 0 Ls.length cS, x, .fn 71 [.ptr c 0]] H) fun r => r.1 = .tup [] ∧ (∃ lv, r.2.1[c]? = some ⟨.tip false, .vals [lv]⟩ ∧ Gs8At r.2.1 lv (takeV Ls D) ∧ (∃ p, blkOf lv = some p ∧ H.length ≤ p)) ∧ Good r.2.1 ∧ (∀ b ∈ r.2.2, b = c) ∧ c ∈ r.2.2 ∧ H.length ≤ r.2.1.length ∧ (∀ q z, H[q]? = some z → q ≠ c → r.2.1[q]? = some z) := by
    have hnx := na_slen hx.len
    simp (maxDischargeDepth := 9) -implicitDefEqProofs only [push_cast, simprocAttr, M70, hnx]
    refine wp_kRes (wp_kBlock ?_)
    refine wp_loop (fun k a h' ws => ∃ i : Nat, k = Ls.length - i ∧ i ≤ Ls.length ∧ a = [(1, offX x (Ls.take i).sum), (2, .fn 71 [.ptr c 0]), (8, .sl q 0 Ls.length cS), (9, .int .i64 (Ls.length : Int)), (10, .int .i64 (i : Int))] ∧
      (∃ lv, h'[c]? = some ⟨.tip false, .vals [lv]⟩ ∧ Gs8At h' lv (takeV (Ls.take i) D) ∧ (∀ p, blkOf lv = some p → H.length ≤ p) ∧ (0 < i → ∃ p, blkOf lv = some p)) ∧ Good h' ∧ (∀ b ∈ ws, b = c) ∧ (0 < i → c ∈ ws) ∧ H.length ≤ h'.length ∧ (∀ q z, H[q]? = some z → q ≠ c → h'[q]? = some z)) Ls.length ?_ ?_
    · refine ⟨0, by omega, by omega, ?_, ⟨.nils, a0, gs8_nil _, by simp [blkOf], by omega⟩, hg, by simp, by omega, Nat.le_refl _, fun q z e _ => e⟩
      simp (maxDischargeDepth := 9) -implicitDefEqProofs only [push_cast, simprocAttr, List.take_zero, List.sum_nil, offX_0, hnx]
    · rintro k aa h' ws ⟨i, rfl, hi, rfl, ⟨lv, g0, gN, gp, gi⟩, gG, hws, hcw, gl, gk⟩
      have v1 : IntKind.i64.wrap ((i : Int) + 1) = (i : Int) + 1 := wr_i64 _ (by omega) (by omega)
      by_cases hlt : i < Ls.length
      · have hlt' : (i : Int) < (Ls.length : Int) := by omega
        obtain ⟨s, hs⟩ : ∃ s, Ls[i]? = some s := ⟨_, List.getElem?_eq_getElem hlt⟩
        have hsI : (szI Ls)[i]? = some (s : Int) := by simp [hs]
        obtain ⟨s1, s8⟩ := hok s (List.mem_of_getElem? hs)
        have e1 := sum_take_succ hs
        have e2 := sum_take_le Ls (i + 1)
        have qc : q ≠ c := by
          rintro rfl
          rcases hS.1 with e | e <;> rw [a0] at e <;> cases e
        have gS : h'[q]? = some ⟨.ext, .ints .i64 (szI Ls)⟩ ∨ h'[q]? = some ⟨.tip false, .ints .i64 (szI Ls)⟩ := hS.1.imp (fun e => gk _ _ e qc) (fun e => gk _ _ e qc)
        have hx' : Src h' x D := hx.mono fun q z e hz => gk q z e (by rintro rfl; rw [a0] at e; cases e; obtain ⟨l, hl⟩ := hz; cases hl)
        have htk : Ls.take (i + 1) = Ls.take i ++ [s] := by rw [List.take_add_one, hs]; rfl
        have htv : takeV (Ls.take (i + 1)) D = takeV (Ls.take i) D ++ [be ((D.drop (Ls.take i).sum).take s)] := by rw [htk, takeV_snoc]
        obtain ⟨o, ho⟩ : ∃ o, (Ls.take i).sum = o := ⟨_, rfl⟩
        rw [ho] at htv e1
        have hxo := hx'.off (k := o) (by omega)
        have gne : blkOf lv ≠ some c := fun e => by have := gp c e; omega
        obtain ⟨hB, b, oo, cc, st, l, he, hst, hol, hdl, hk⟩ := hxo
        rw [List.length_drop] at hol hk
        have hM : s ≤ D.length - o := by omega
        have hpart : (l.drop oo).take s = (D.drop o).take s := by
          have h1 := congrArg (List.take s) hdl
          rw [List.take_take, Nat.min_eq_left (by rw [List.length_drop]; omega)] at h1
          exact h1
        have hBp : Byt ((l.drop oo).take s) := by rw [hpart]; exact fun z hz => hB z (List.mem_of_mem_take hz)
        have hlenp : ((l.drop oo).take s).length = s := by simp; omega
        have hsz : (takeV (Ls.take i) D).length < 900000 := by rw [takeV_len, List.length_take]; omega
        have hpb := bytAt_sl (c := s) he hst.nd (by omega) hBp
        obtain ⟨lv', H', ws', eT, t0, tN, ⟨p, tp, tl⟩, tL, tG, tw, tcw, tk⟩ := take1_c (k := .int .i64 (i : Int)) gG g0 gN gne hpb hlenp s1 s8 hsz
        have hm0 : (0 : Nat) ≤ s := by omega
        have hxs : offX x (o + s) = offX (offX x o) s := (offX_off x o s).symm
        have kst : ∀ q z, H[q]? = some z → q ≠ c → (∀ j, blkOf lv = some j → z.st ≠ .old j) ∧ blkOf lv ≠ some q := by
          intro q z hz hqc
          refine ⟨fun j hj => good_low hg hz (gp j hj), fun hj => ?_⟩
          have := gp q hj
          have := (List.getElem?_eq_some_iff.1 hz).1
          omega
        have post : (∃ lv, H'[c]? = some ⟨.tip false, .vals [lv]⟩ ∧ Gs8At H' lv (takeV (Ls.take (i + 1)) D) ∧ (∀ p, blkOf lv = some p → H.length ≤ p) ∧ (0 < i + 1 → ∃ p, blkOf lv = some p)) ∧ Good H' ∧ (∀ b ∈ wadd H.length ws ws', b = c) ∧ (0 < i + 1 → c ∈ wadd H.length ws ws') ∧ H.length ≤ H'.length ∧ (∀ q z, H[q]? = some z → q ≠ c → H'[q]? = some z) := by
          refine ⟨⟨lv', t0, ?_, fun p' hp' => ?_, fun _ => ⟨p, tp⟩⟩, tG, fun b hb => ?_, fun _ => mem_wadd_of tcw hc, by omega, fun q z hz hq => ?_⟩
          · rw [htv, ← hpart]; exact tN
          · rw [tp] at hp'; cases hp'; omega
          · rcases wadd_mem6 hb with hb | ⟨hb, hl⟩
            · exact hws b hb
            · rcases tw b hb with e | e
              · exact e
              · have := gp b e; omega
          · exact tk q z (gk q z hz hq) hq (kst q z hz hq).1 (kst q z hz hq).2
        rw [ho]
        rcases hk with ⟨hk, hcc⟩ | hk
        · have hcs : s ≤ cc := by omega
          have hsn : s ≤ D.length - o := by omega
          have hxn : offX x (o + s) = .sl b (oo + s) (D.length - o - s) (cc - s) := by rw [hxs, hk]; rfl
          rw [hk]
          rcases gS with gS | gS
          all_goals
            have gql := (List.getElem?_eq_some_iff.1 gS).1
            simp (maxDischargeDepth := 9) -implicitDefEqProofs only [push_cast, simprocAttr, hlt, hlt', v1, gS, gql, hsI, hm0, hcs, hsn, hcc, Nat.sub_zero, Nat.mul_one, Nat.add_zero, Nat.zero_add, eT]
            refine loop_next (Ls.length - (i + 1)) (by omega) ⟨i + 1, rfl, by omega, ?_, post⟩
            rw [e1, hxn]
            simp (maxDischargeDepth := 9) -implicitDefEqProofs only [push_cast, simprocAttr]; try simp
        · have hsn : s ≤ D.length - o := by omega
          have hxn : offX x (o + s) = .gsl b (oo + s) (D.length - o - s) 1 false := by rw [hxs, hk]; rfl
          rw [hk]
          rcases gS with gS | gS
          all_goals
            have gql := (List.getElem?_eq_some_iff.1 gS).1
            simp (maxDischargeDepth := 9) -implicitDefEqProofs only [push_cast, simprocAttr, hlt, hlt', v1, gS, gql, hsI, hm0, hsn, Nat.sub_zero, Nat.mul_one, Nat.add_zero, Nat.zero_add, eT]
            refine loop_next (Ls.length - (i + 1)) (by omega) ⟨i + 1, rfl, by omega, ?_, post⟩
            rw [e1, hxn]
            simp (maxDischargeDepth := 9) -implicitDefEqProofs only [push_cast, simprocAttr]; try simp
      · have hi2 : i = Ls.length := by omega
        subst hi2
        have hnl : ¬ (Ls.length : Int) < (Ls.length : Int) := by omega
        have hpos : 0 < Ls.length := List.length_pos_iff.2 hne
        rw [List.take_length] at gN
        simp (maxDischargeDepth := 9) -implicitDefEqProofs only [push_cast, simprocAttr]
        obtain ⟨p, hp⟩ := gi hpos
        exact ⟨⟨lv, g0, gN, p, hp, gp p hp⟩, gG, hws, hcw hpos, gl, gk⟩
  obtain ⟨⟨r, H', ws⟩, e, rfl, ⟨lv, g0, gN, p, hp, hpl⟩, gG, hws, hcw, gl, gk⟩ := key
  refine ⟨lv, H', ws, ?_, g0, gN, ⟨p, hp, hpl⟩, gG, hws, gl, gk⟩
  rw [W_body (m := M70) rfl rfl (by simp [AV.lts, AV.lt]) e, show (M70).trim = true from rfl, if_pos rfl]
  refine congrArg some (trim_no hcw g0 ?_)
  have hlv : lv.lt H.length = false := by
    rcases gN with ⟨rfl, _⟩ | ⟨p', mn, o, rfl, _⟩
    · cases hp
    · simp only [blkOf, Option.some.injEq] at hp
      simp [AV.lt]; omega
  simp [ACells.lt, AV.lts, hlv]
end Go.Proofs.YtdpbbagllhfjbaaDoorW.AI.G
namespace Go.Proofs.YtdpbbagllhfjbaaDoorW.AI.G
open Go Go.Proofs.YtdpbbagllhfjbaaDoorW.AI Go.Proofs.YtdpbbagllhfjbaaDoorW.AI.Oct
set_option maxRecDepth 100000
set_option linter.unusedSimpArgs false
set_option linter.unusedVariables false
set_option linter.unusedSectionVars false
/-- A row of bytes of one's own, no nil. -/
def RowAt (h : AHeap) (v : AV) (D : List Int) : Prop := ∃ p, h[p]? = some ⟨.tip false, .ints .u8 D⟩ ∧ ((v = .sl p 0 0 0 ∧ D = []) ∨ v = .gsl p 0 D.length 1 false)
def blkS : AV → Option Nat
  | .gsl p _ _ _ _ => some p
  | .sl p _ _ _ => some p
  | _ => none
theorem RowAt.src {h : AHeap} {v : AV} {D : List Int} (r : RowAt h v D) (hB : Byt D) : Src h v D := by
  obtain ⟨p, e, k⟩ := r
  refine ⟨hB, p, 0, 0, .tip false, D, e, Or.inr ⟨false, rfl⟩, by omega, by simp, ?_⟩
  rcases k with ⟨rfl, rfl⟩ | rfl
  · exact Or.inl ⟨rfl, by simp⟩
  · exact Or.inr rfl
theorem RowAt.app {h : AHeap} {v : AV} {D : List Int} (r : RowAt h v D) (js : AHeap) : RowAt (h ++ js) v D := by
  obtain ⟨p, e, k⟩ := r
  exact ⟨p, by rw [List.getElem?_append_left (List.getElem?_eq_some_iff.1 e).1]; exact e, k⟩
theorem roomy {n : Nat} (h : n < 1000000000) : room n 1 = true := by
  simp only [room, decide_eq_true_eq]
  omega
theorem app_fresh {h : AHeap} {D : List Int} (hl : D.length < 1000000000) :
    aappend (h ++ [⟨.tip false, .ints .u8 []⟩]) (.ints .u8 [0]) 1 (.sl h.length 0 0 0) (.ints .u8 D) D.length = if D = [] then some (.sl h.length 0 0 0, h ++ [⟨.tip false, .ints .u8 []⟩], [h.length]) else some (.gsl (h.length + 1) 0 D.length 1 false, h ++ [⟨.tip false, .ints .u8 []⟩, ⟨.tip false, .ints .u8 D⟩], []) := by
  have e0 : (h ++ [(⟨.tip false, .ints .u8 []⟩ : ABlk)])[h.length]? = some ⟨.tip false, .ints .u8 []⟩ := by simp
  split
  · rename_i hD
    subst hD
    simp [aappend, change, storeL, ACells.list, e0]
  · rename_i hD
    have hp : ¬ 0 + D.length ≤ 0 := by
      intro h
      have : D.length = 0 := by omega
      exact hD (List.length_eq_zero_iff.1 this)
    simp only [aappend, if_neg hp]
    have e1 : sliceCells (h ++ [(⟨.tip false, .ints .u8 []⟩ : ABlk)]) (ACells.ints .u8 [0]).len (.sl h.length 0 0 0) = some (.ints .u8 []) := by
      simp [sliceCells, cellsAt, e0, ACells.len, ACells.sub]
    rw [e1]
    simp [ACells.app, roomy hl, ACells.len]
set_option maxHeartbeats 1000000 in
theorem clone_c {h : AHeap} {x : AV} {D : List Int} (hg : Good h) (hs : Src h x D) (hl : D.length < 1000000000) : ∃ v js, W CP 66 [x] h = some (v, h ++ js, []) ∧ RowAt (h ++ js) v D ∧ (∃ p, blkS v = some p ∧ h.length ≤ p) ∧ js.all notOld = true := by
  have ea := app_fresh (h := h) hl
  have hb := (hs.app [⟨.tip false, .ints .u8 []⟩]).bytAt.2.1
  have hx0 : AV.lts 0 [x] = false := by
    obtain ⟨_, b, o, c, st, l, _, _, _, _, ⟨rfl, _⟩ | rfl⟩ := hs <;> simp [AV.lts, AV.lt]
  by_cases hD : D = []
  · rw [if_pos hD] at ea
    have key : xbody (W CP) M66 [x] h = some (.sl h.length 0 0 0, h ++ [⟨.tip false, .ints .u8 []⟩], []) := by
      obtain ⟨_, b, o, c, st, l, _, _, _, _, ⟨rfl, _⟩ | rfl⟩ := hs
      all_goals simp (maxDischargeDepth := 9) -implicitDefEqProofs only [push_cast, simprocAttr, M66, nadd1, nadd2, nadd3, nadd4, nadd5, nadd6, nadd7, nadd8, nadd9, nadd10, nadd11, nadd12, newCells, hb, ea]
    refine ⟨_, [⟨.tip false, .ints .u8 []⟩], ?_, ⟨h.length, by simp [hD], Or.inl ⟨rfl, hD⟩⟩, ⟨h.length, rfl, Nat.le_refl _⟩, rfl⟩
    rw [W_body (m := M66) rfl rfl hx0 key, show (M66).trim = true from rfl, if_pos rfl, trim_addr (by simp [AV.lt])]
  · rw [if_neg hD] at ea
    have key : xbody (W CP) M66 [x] h = some (.gsl (h.length + 1) 0 D.length 1 false, h ++ [⟨.tip false, .ints .u8 []⟩, ⟨.tip false, .ints .u8 D⟩], []) := by
      obtain ⟨_, b, o, c, st, l, _, _, _, _, ⟨rfl, _⟩ | rfl⟩ := hs
      all_goals simp (maxDischargeDepth := 9) -implicitDefEqProofs only [push_cast, simprocAttr, M66, nadd1, nadd2, nadd3, nadd4, nadd5, nadd6, nadd7, nadd8, nadd9, nadd10, nadd11, nadd12, newCells, hb, ea]
    refine ⟨_, [⟨.tip false, .ints .u8 []⟩, ⟨.tip false, .ints .u8 D⟩], ?_, ⟨h.length + 1, ?_, Or.inr rfl⟩, ⟨h.length + 1, rfl, by omega⟩, rfl⟩
    · rw [W_body (m := M66) rfl rfl hx0 key, show (M66).trim = true from rfl, if_pos rfl, trim_addr (by simp [AV.lt])]
    · rw [List.getElem?_append_right (by omega)]; simp
theorem SzAt.lt {h : AHeap} {r : Nat} {V : List Int} (s : SzAt h r V) : r < h.length := by
  rcases s.1 with e | e
  · exact (List.getElem?_eq_some_iff.1 e).1
  · exact (List.getElem?_eq_some_iff.1 e).1
theorem gs8_app {h : AHeap} {v : AV} {l : List Int} (g : Gs8At h v l) (js : AHeap) : Gs8At (h ++ js) v l := by
  rcases g with ⟨rfl, rfl⟩ | ⟨p, mn, o, rfl, e⟩
  · exact Or.inl ⟨rfl, rfl⟩
  · exact Or.inr ⟨p, mn, o, rfl, by rw [List.getElem?_append_left (List.getElem?_eq_some_iff.1 e).1]; exact e⟩
set_option maxHeartbeats 2000000 in
theorem take_ok {h : AHeap} {q cS : Nat} {x : AV} {Ls : List Nat} {D : List Int} (hg : Good h) (hS : SzAt h q (szI Ls)) (hx : Src h x D) (hne : Ls ≠ []) (hok : ∀ s ∈ Ls, 1 ≤ s ∧ s ≤ 8) (hl : Ls.sum ≤ D.length) (hD : D.length < 1000000000) (hLl : Ls.length < 900000) :
    ∃ lv rv js p r, W CP 39 [.sl q 0 Ls.length cS, x] h = some (.tup [lv, rv, .int .i64 0], h ++ js, []) ∧ Gs8At (h ++ js) lv (takeV Ls D) ∧ RowAt (h ++ js) rv (D.drop Ls.sum) ∧ Good (h ++ js) ∧ blkOf lv = some p ∧ h.length ≤ p ∧ blkS rv = some r ∧ p < r := by
  have ew := width_c (c := cS) hg hS
  rw [all_okS hok, if_pos rfl, sumS_szI, len_szI] at ew
  have h8 := sum_le8 hok
  have hG1 : Good (h ++ [⟨.tip false, .vals [.nils]⟩]) := good_app hg rfl
  obtain ⟨lv, H', ws, eC, c0, cN, ⟨p, cp, cl⟩, cG, cw, cL, ck⟩ := cut8_ok (cS := cS) (c := h.length) hG1 (hS.app _) (by simp) (hx.app _) hne hl hok hLl
  have hx' : Src H' x D := (hx.app _).mono fun q z e hz => ck q z e (by
    rintro rfl
    rw [List.getElem?_append_right (Nat.le_refl _)] at e
    obtain ⟨l, hl⟩ := hz
    simp at e
    subst e
    cases hl)
  obtain ⟨rv, js, eR, rR, ⟨r, rb, rl⟩, rN⟩ := clone_c cG (hx'.off hl) (by rw [List.length_drop]; omega)
  have hwd : wadd h.length [] ws = [] := wadd_ge fun b hb => by have := cw b hb; omega
  have hL1 : h.length + 1 ≤ H'.length := by simpa using cL
  have hL2 : ¬ H'.length ≤ h.length := by omega
  have hL3 : h.length < H'.length := by omega
  have hna := na_slen cN.slen
  have hnr : noAny (some rv) = some rv := by
    obtain ⟨_, _, ⟨rfl, _⟩ | rfl⟩ := rR <;> rfl
  obtain ⟨N, hN⟩ : ∃ N, Ls.sum = N := ⟨_, rfl⟩
  rw [hN] at ew eR hl rR ⊢
  have hsum : ¬ (D.length : Int) < (N : Int) := by omega
  have key : xbody (W CP) M39 [.sl q 0 Ls.length cS, x] h = some (.tup [lv, rv, .int .i64 0], H' ++ js, []) := by
    have hcc := hl
    obtain ⟨_, b, o, c, st, l, _, _, _, _, ⟨rfl, hcc⟩ | rfl⟩ := hx
    all_goals
      simp only [offX] at eR
      simp (maxDischargeDepth := 9) -implicitDefEqProofs only [push_cast, simprocAttr, M39, nadd1, nadd2, nadd3, nadd4, nadd5, nadd6, nadd7, nadd8, nadd9, nadd10, nadd11, nadd12, ew, eC, eR, c0, hna, hnr, hl, hcc, hwd, hL2, hL3, hsum]
  have hpl : h.length + 1 ≤ p := by simpa using cl
  have hpH : p < H'.length := by
    rcases cN with ⟨rfl, _⟩ | ⟨p', mn, o, rfl, e⟩
    · cases cp
    · simp only [blkOf, Option.some.injEq] at cp
      subst cp
      exact (List.getElem?_eq_some_iff.1 e).1
  have kk : Keeps h (H' ++ js) none := by
    refine ⟨fun q z hq _ _ => ?_, by simp; omega, fun _ => good_app cG rN⟩
    have hql := (List.getElem?_eq_some_iff.1 hq).1
    have h1 := ck q z (by rw [List.getElem?_append_left hql]; exact hq) (by omega)
    rw [List.getElem?_append_left (List.getElem?_eq_some_iff.1 h1).1]; exact h1
  obtain ⟨ks, hks⟩ := kk.behind
  have hlv : lv.lt h.length = false := by
    rcases cN with ⟨rfl, _⟩ | ⟨p', mn, o, rfl, _⟩
    · cases cp
    · simp only [blkOf, Option.some.injEq] at cp
      simp [AV.lt]; omega
  refine ⟨lv, rv, ks, p, r, ?_, by rw [← hks]; exact gs8_app cN js, by rw [← hks]; exact rR, by rw [← hks]; exact good_app cG rN, cp, by omega, rb, by omega⟩
  rw [W_body (m := M39) rfl rfl (by simp [AV.lts, AV.lt]) key, show (M39).trim = true from rfl, if_pos rfl, trim_addr (by simp [AV.lt, AV.lts, hlv]), hks]
end Go.Proofs.YtdpbbagllhfjbaaDoorW.AI.G

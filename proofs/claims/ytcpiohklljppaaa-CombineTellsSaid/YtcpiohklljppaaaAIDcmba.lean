import Derived.Test.YtcpiohklljppaaaAIDcmb9
namespace Go.Proofs.YtcpiohklljppaaaW.AI.D
open Go Go.Proofs.YtcpiohklljppaaaW.AI
set_option maxRecDepth 100000
set_option linter.unusedSimpArgs false
set_option linter.unusedVariables false
set_option linter.unusedSectionVars false
theorem glM : Good CM.gl := rfl
theorem extM {js : AHeap} (h : Ext js) : Good (CM.gl ++ js) := good_app glM (List.all_eq_true.2 fun x hx => by unfold notOld; rcases h x hx with e | e <;> rw [e])
theorem al24 (h : AHeap) : W CM 38 [] h = some (.bool true, h, []) := W_known (n := 60) (fun _ => rfl) (by kernel_rfl) h
theorem W_anyN {C : Cfg} {f : Nat} {m : MFunc} {args : List AV} (I : AHeap → Prop) (R : Nat → AHeap → AV → Prop) (hp : ∀ h, C.prim f args h = none) (hm : C.mp f = some m) (ht : m.trim = true) (hg0 : Good C.gl) (hi0 : AV.lts 0 args = true → I C.gl)
    (up : ∀ n h js v, R n h v → R n (h ++ js) v) (down : ∀ n h js v, v.lt h.length = true → R n (h ++ js) v → R n h v) (base : ∀ n k h v, v.lt 0 = true → R n h v → R k h v)
    (e : ∀ g, Good g → I g → Wp (xbody (W C) m args g) fun r => R g.length r.2.1 r.1 ∧ Keeps g r.2.1 none ∧ r.2.2 = []) {h : AHeap} (hg : Good h) (hi : I h) :
    ∃ v js, W C f args h = some (v, h ++ js, []) ∧ R h.length (h ++ js) v ∧ Good (h ++ js) := by
  obtain ⟨⟨v, h', ws⟩, e1, r1, k1, rfl⟩ := e h hg hi
  obtain ⟨js, rfl⟩ := k1.behind
  have hG := k1.2.2 hg
  have body : ∀ {q : AV × AHeap × List Nat}, q = (v, h ++ js, []) → (∃ w js', some (trimR h.length q) = some (w, h ++ js', []) ∧ R h.length (h ++ js') w ∧ Good (h ++ js')) := by
    rintro q rfl
    cases hv : v.lt h.length with
    | false => exact ⟨v, js, by rw [big_trim hv], r1, hG⟩
    | true => exact ⟨v, [], by rw [trim_of rfl hv (by simp) hg, List.append_nil], by rw [List.append_nil]; exact down _ _ _ _ hv r1, by rw [List.append_nil]; exact hg⟩
  cases h0 : AV.lts 0 args with
  | false =>
    rw [W_body (hp h) hm h0 e1, ht, if_pos rfl]
    exact body rfl
  | true =>
    obtain ⟨⟨v2, h2, ws2⟩, e2, r2, k2, rfl⟩ := e C.gl hg0 (hi0 h0)
    obtain ⟨j2, rfl⟩ := k2.behind
    cases h3 : v2.lt 0 with
    | false =>
      rw [W_made (hp h) hm h0 e2 h3 e1, ht, if_pos rfl]
      exact body rfl
    | true =>
      refine ⟨v2, [], ?_, ?_, by rw [List.append_nil]; exact hg⟩
      · rw [List.append_nil]; exact W_pure hp hm h0 h3 e2 h
      · have a1 : R C.gl.length ([] ++ (C.gl ++ j2)) v2 := r2
        have a2 : R C.gl.length [] v2 := down _ [] _ _ h3 a1
        have := up _ [] h _ (base _ h.length _ _ h3 a2)
        rw [List.append_nil]; exact this
theorem andM' {m : Nat} (hm : m < 9223372036854775808) (a : Int) : 0 ≤ abits .and .i64 a (m : Int) ∧ abits .and .i64 a (m : Int) ≤ (m : Int) := by
  have e : ((BitVec.ofInt IntKind.i64.bits a &&& BitVec.ofInt IntKind.i64.bits (m : Int)).toNat : Int) ≤ (m : Int) := by
    have h1 : (BitVec.ofInt IntKind.i64.bits a &&& BitVec.ofInt IntKind.i64.bits (m : Int)).toNat = (BitVec.ofInt IntKind.i64.bits a).toNat &&& m := by
      have : (BitVec.ofInt IntKind.i64.bits (m : Int)).toNat = m := by
        rw [BitVec.ofInt_natCast, BitVec.toNat_ofNat]
        exact Nat.mod_eq_of_lt (Nat.lt_of_lt_of_le hm (by decide))
      rw [BitVec.toNat_and, this]
    rw [h1]
    have := Nat.and_le_right (n := (BitVec.ofInt IntKind.i64.bits a).toNat) (m := m)
    omega
  have e0 : (0 : Int) ≤ ((BitVec.ofInt IntKind.i64.bits a &&& BitVec.ofInt IntKind.i64.bits (m : Int)).toNat : Int) := Int.natCast_nonneg _
  have : abits .and .i64 a (m : Int) = ((BitVec.ofInt IntKind.i64.bits a &&& BitVec.ofInt IntKind.i64.bits (m : Int)).toNat : Int) := by
    have e1 : abits .and .i64 a (m : Int) = IntKind.i64.wrap ((BitVec.ofInt IntKind.i64.bits a &&& BitVec.ofInt IntKind.i64.bits (m : Int)).toNat : Int) := rfl
    rw [e1]
    exact wr_i64 _ (by omega) (by omega)
  rw [this]
  exact ⟨e0, e⟩
/-- A row of spans that append has made, behind n. -/
def RW (h : AHeap) (v : AV) (L : List Sp) (n : Nat) : Prop := (v = .nils ∧ L = []) ∨ ∃ b o, n ≤ b ∧ h[b]? = some ⟨.tip o, .ints .i64 (flat3 L)⟩ ∧ v = .gsl b 0 L.length 3 false
section
variable {h h' : AHeap} {v : AV} {L : List Sp} {n : Nat}
theorem RW.nil (h : AHeap) (n : Nat) : RW h .nils [] n := Or.inl ⟨rfl, rfl⟩
theorem RW.len (u : RW h v L n) : slen v = some L.length := by
  obtain ⟨rfl, rfl⟩ | ⟨b, o, _, _, rfl⟩ := u <;> rfl
theorem RW.na (u : RW h v L n) : noAny (some v) = some v := na_slen u.len
theorem RW.cell (u : RW h v L n) : v.isCell = true := by
  obtain ⟨rfl, rfl⟩ | ⟨b, o, _, _, rfl⟩ := u <;> rfl
theorem RW.keep (u : RW h v L n) (hm : ∀ (q : Nat) (z : ABlk), n ≤ q → h[q]? = some z → h'[q]? = some z) : RW h' v L n := by
  obtain q | ⟨b, o, hb, e, r⟩ := u
  · exact Or.inl q
  · exact Or.inr ⟨b, o, hb, hm _ _ hb e, r⟩
theorem RW.kept (u : RW h v L n) (k : Keeps h h' none) : RW h' v L n := u.keep fun q z _ e => keepsN k _ _ e
theorem RW.app (u : RW h v L n) (js : AHeap) : RW (h ++ js) v L n := u.keep fun q z _ e => by rw [List.getElem?_append_left (List.getElem?_eq_some_iff.1 e).1]; exact e
theorem RW.mono (u : RW h v L n) {m : Nat} (hm : m ≤ n) : RW h v L m := by
  obtain q | ⟨b, o, hb, e, r⟩ := u
  · exact Or.inl q
  · exact Or.inr ⟨b, o, by omega, e, r⟩
theorem RW.shape (u : RW h v L n) : v = .nils ∨ ∃ b k, v = .gsl b 0 k 3 false := by
  obtain ⟨rfl, rfl⟩ | ⟨b, o, _, _, rfl⟩ := u
  · exact Or.inl rfl
  · exact Or.inr ⟨_, _, rfl⟩
end
/-- One span behind a row. -/
theorem appW {H : AHeap} {v : AV} {L : List Sp} {s : Sp} {n : Nat} (t : RW H v L n) (hl : L.length < 1000) (hn : n ≤ H.length) :
    ∃ v' H' ws, aappend H (.ints .i64 [0, 0, 0]) 24 v (.ints .i64 [s.1, s.2.1, s.2.2]) 1 = some (v', H', ws) ∧ RW H' v' (L ++ [s]) n ∧ (∀ b ∈ ws, n ≤ b) ∧ Keeps H H' (blkU v) ∧ (v'.isCell = true) := by
  have hf := flat3_len L
  have hfe : flat3 (L ++ [s]) = flat3 L ++ [s.1, s.2.1, s.2.2] := by rw [flat3_app]; rfl
  have hr : room (L.length + 1) 24 = true := by simp only [room, decide_eq_true_eq]; omega
  obtain ⟨rfl, rfl⟩ | ⟨p, o, hp, e, rfl⟩ := t
  · refine ⟨.gsl H.length 0 1 3 false, H ++ [⟨.tip false, .ints .i64 [s.1, s.2.1, s.2.2]⟩], [], ?_, Or.inr ⟨H.length, false, hn, by simp [flat3_cons, flat3_nil], rfl⟩, by simp, Keeps.app _ _ _ rfl, rfl⟩
    have hr1 : room 1 24 = true := by decide
    simp [aappend, hr1, ACells.len]
  · have hpl := (List.getElem?_eq_some_iff.1 e).1
    refine ⟨.gsl H.length 0 (L.length + 1) 3 false, ((if o then reTip p H.length H else H).set p ⟨.old H.length, .ints .i64 (flat3 L)⟩) ++ [⟨.tip true, .ints .i64 (flat3 L ++ [s.1, s.2.1, s.2.2])⟩], [p], ?_, Or.inr ⟨H.length, true, hn, ?_, by simp⟩, by simpa using hp, ?_, rfl⟩
    · have hsub : (ACells.ints .i64 (flat3 L)).sub 0 (L.length * 3) = .ints .i64 (flat3 L) := by
        simp only [ACells.sub, List.drop_zero]
        rw [← hf, List.take_length]
      simp only [aappend, ACells.len, List.length_cons, List.length_nil, e]
      simp only [Nat.zero_add, Nat.reduceAdd, if_true, hf, hsub, ACells.app, Option.bind_some, hr]
      try simp
    · rw [hfe, List.getElem?_append_right (by cases o <;> simp [len_reTip])]
      cases o <;> simp [len_reTip]
    · refine ⟨fun q' x hq hx hne => ?_, by cases o <;> simp [len_reTip], fun hg => ?_⟩
      · have hpq : p ≠ q' := fun e => hne (by rw [e]; rfl)
        rw [List.getElem?_append_left (by cases o <;> simp [len_reTip] <;> exact (List.getElem?_eq_some_iff.1 hq).1), List.getElem?_set_ne hpq]
        cases o
        · exact hq
        · exact reTip_keeps hq (hx p rfl)
      · cases o
        · exact good_set_old (y := ⟨.tip true, .ints .i64 (flat3 L ++ [s.1, s.2.1, s.2.2])⟩) hg hpl
        · exact good_reTip (y := ⟨.tip true, .ints .i64 (flat3 L ++ [s.1, s.2.1, s.2.2])⟩) hg hpl
theorem newS {H : AHeap} {q : Nat} {s : Sp} (e : H[q]? = some ⟨.tip false, .ints .i64 [s.1, s.2.1, s.2.2]⟩) : newCells H (.ints .i64 [0, 0, 0]) (.sl q 0 1 1) = some (.ints .i64 [s.1, s.2.1, s.2.2]) := by
  simp [newCells, sliceCells, cellsAt, e, ACells.len, ACells.sub]
theorem RW.sv {h : AHeap} {v : AV} {L : List Sp} {n : Nat} (u : RW h v L n) : SV h v L := by
  obtain q | ⟨b, o, _, e, rfl⟩ := u
  · exact Or.inl q
  · exact Or.inr ⟨b, 0, .tip o, flat3 L, false, e, Or.inr ⟨o, rfl⟩, by rw [← flat3_len, List.take_length], Or.inr rfl⟩
theorem RW.down {h js : AHeap} {v : AV} {L : List Sp} {n : Nat} (u : RW (h ++ js) v L n) (hv : v.lt h.length = true) : RW h v L n := by
  obtain q | ⟨b, o, hb, e, rfl⟩ := u
  · exact Or.inl q
  · have hp : b < h.length := by simpa [AV.lt] using hv
    rw [List.getElem?_append_left hp] at e
    exact Or.inr ⟨b, o, hb, e, rfl⟩
theorem RW.blk {h : AHeap} {v : AV} {L : List Sp} {n : Nat} (u : RW h v L n) : ∀ b, blkU v = some b → n ≤ b := by
  obtain ⟨rfl, _⟩ | ⟨b, o, hb, _, rfl⟩ := u
  · intro b h; cases h
  · intro b' h; cases h; exact hb
/-- The fields of one. -/
theorem SV.atf {h : AHeap} {v : AV} {L : List Sp} (u : SV h v L) {i : Nat} {s : Sp} (hs : L[i]? = some s) : ∃ b, (∀ g, uia 3 g i (some v) = some (.ptr b (i * 3), g, [])) ∧ uld (some 3) h (some (.ptr b (i * 3))) = some (spV s, h, []) ∧ uld none h (some (.ptr b (i * 3))) = some (.int .i64 s.1, h, []) ∧ uld none h (some (.ptr b (i * 3 + 1))) = some (.int .i64 s.2.1, h, []) ∧ uld none h (some (.ptr b (i * 3 + 2))) = some (.int .i64 s.2.2, h, []) ∧ b < h.length := by
  obtain ⟨g1, g2, g3⟩ := flat3_get hs
  obtain ⟨hi, _⟩ := List.getElem?_eq_some_iff.1 hs
  obtain ⟨rfl, rfl⟩ | ⟨b, c, st, l, mn, e, _, ht, hv⟩ := u
  · simp at hs
  · have gg : ∀ {j : Nat} {x : Int}, (flat3 L)[j]? = some x → l[j]? = some x := by
      intro j x hx
      rw [← ht, List.getElem?_take] at hx
      split at hx
      · exact hx
      · cases hx
    have hc : cellsAt h b = some (.ints .i64 l) := by
      obtain ⟨u0, e0, _⟩ : ∃ b', (∀ g, uia 3 g i (some v) = some (.ptr b' (i * 3), g, [])) ∧ uld (some 3) h (some (.ptr b' (i * 3))) = some (spV s, h, []) ∧ b' < h.length := SV.at (Or.inr ⟨b, c, st, l, mn, e, by assumption, ht, hv⟩) hs
      have hst : BLiv st := by assumption
      rcases hst with rfl | ⟨o, rfl⟩ <;> simp [cellsAt, e]
    have hl : ∀ g, uia 3 g i (some v) = some (.ptr b (i * 3), g, []) := by
      intro g
      rcases hv with ⟨rfl, _⟩ | rfl <;> simp [uia, hi]
    refine ⟨b, hl, ?_, ?_, ?_, ?_, (List.getElem?_eq_some_iff.1 e).1⟩
    · simp [uld, hc, loadA, loadN, ACells.get?, gg g1, gg g2, gg g3]
    · simp [uld, hc, loadA, ACells.get?, gg g1]
    · simp [uld, hc, loadA, ACells.get?, gg g2]
    · simp [uld, hc, loadA, ACells.get?, gg g3]
-- ------------------------------------------------------------------ spans that may be
def an (a : Int) : Int := abits .and .i64 a 1152921504606846975
theorem an_in (a : Int) : 0 ≤ an a ∧ an a ≤ 1152921504606846975 := andM' (m := 1152921504606846975) (by decide) a
def fitS (s : Sp) : Sp := if an s.2.2 < an s.2.1 then (0, an s.2.2, an s.2.1) else (0, an s.2.1, an s.2.2)
def fitL (L : List Sp) : List Sp := (L.take 16).map fitS
theorem fitS_in (s : Sp) : (fitS s).1 = 0 ∧ 0 ≤ (fitS s).2.1 ∧ (fitS s).2.1 ≤ (fitS s).2.2 ∧ (fitS s).2.2 ≤ 1152921504606846975 := by
  have h1 := an_in s.2.1
  have h2 := an_in s.2.2
  unfold fitS
  split <;> (refine ⟨rfl, ?_, ?_, ?_⟩ <;> simp only <;> omega)
theorem fitL_len (L : List Sp) : (fitL L).length = min L.length 16 := by unfold fitL; rw [List.length_map, List.length_take]; omega
theorem fitL_in {L : List Sp} {s : Sp} (h : s ∈ fitL L) : s.1 = 0 ∧ 0 ≤ s.2.1 ∧ s.2.1 ≤ s.2.2 ∧ s.2.2 ≤ 1152921504606846975 := by
  obtain ⟨t, _, rfl⟩ := List.mem_map.1 h
  exact fitS_in t
theorem fit_may {s : Sp} (h : s.1 = 0 ∧ 0 ≤ s.2.1 ∧ s.2.1 ≤ s.2.2 ∧ s.2.2 ≤ 1152921504606846975) : mayB s = true := mayS_iff.2 ⟨⟨by omega, by omega⟩, by omega, by omega, by omega⟩
theorem fitL_may (L : List Sp) : (fitL L).all mayB = true := List.all_eq_true.2 fun s hs => fit_may (fitL_in hs)
set_option maxHeartbeats 8000000 in
theorem fit_c {h : AHeap} {v : AV} {L : List Sp} (hg : Good h) (u : SV h v L) :
    ∃ r js, W CP 39 [v] h = some (r, h ++ js, []) ∧ RW (h ++ js) r (fitL L) h.length ∧ Good (h ++ js) := by
  refine W_anyN (m := M39) (fun g => SV g v L) (fun n g r => RW g r (fitL L) n) (fun _ => rfl) rfl rfl cgl (fun h0 => ?_) (fun n h js v r => r.app js) (fun n h js v hv r => r.down hv) (fun n k h v hv r => ?_) (fun g hg u => ?_) hg u
  · simp only [AV.lts, Bool.and_eq_true] at h0
    exact u.gl h0.1
  · obtain q | ⟨b, o, _, _, rfl⟩ := r
    · exact Or.inl q
    · simp [AV.lt] at hv
  have nv := u.na
  have lv := u.len
  obtain ⟨m, hml⟩ : ∃ m, L.length = m := ⟨_, rfl⟩
  rw [hml] at lv
  simp (maxDischargeDepth := 9) -implicitDefEqProofs only [push_cast, simprocAttr, M39, nv, lv]
  refine wp_kRes (wp_kSeq (wp_kBlock ?_))
  refine wp_loop (fun k x h' ws => ∃ (i : Nat) (t : AV), k = 16 - i ∧ i ≤ m ∧ i ≤ 16 ∧ x = [(0, v), (3, t), (4, .int .i64 (i : Int))] ∧ RW h' t ((fitL L).take i) g.length ∧ Keeps g h' none ∧ ws = []) 16 ?_ ?_
  · refine ⟨0, .nils, by omega, by omega, by omega, ?_, Or.inl ⟨rfl, rfl⟩, Keeps.refl _ _, rfl⟩
    simp (maxDischargeDepth := 9) -implicitDefEqProofs only [push_cast, simprocAttr, nv]; try rfl
  rintro k xx h' ws ⟨i, t, rfl, hi, hi2, rfl, rt, kh, rfl⟩
  have hg' := kh.2.2 hg
  have nt := rt.na
  have v1 : IntKind.i64.wrap ((i : Int) + 1) = (i : Int) + 1 := wr_i64 _ (by omega) (by omega)
  have hfull : m = i ∨ 16 = i → (fitL L).take i = fitL L := fun _ => List.take_of_length_le (by rw [fitL_len]; omega)
  by_cases hlt : i < m
  · have hlt' : (i : Int) < (m : Int) := by omega
    by_cases h16 : i < 16
    · have h16' : (i : Int) < 16 := by omega
      obtain ⟨s, hs⟩ : ∃ s, L[i]? = some s := ⟨_, List.getElem?_eq_getElem (by omega)⟩
      obtain ⟨b, x1, _, _, x2, x3, x4⟩ := (u.kept kh).atf hs
      have hfi : (fitL L)[i]? = some (fitS s) := by unfold fitL; rw [List.getElem?_map, List.getElem?_take, if_pos h16, hs]; rfl
      have hnx : (fitL L).take (i + 1) = (fitL L).take i ++ [fitS s] := by rw [List.take_add_one, hfi]; rfl
      have eL : abits .and .i64 s.2.1 1152921504606846975 = an s.2.1 := rfl
      have eH : abits .and .i64 s.2.2 1152921504606846975 = an s.2.2 := rfl
      have g1 : ¬ h'.length < g.length := by have := kh.2.1; omega
      obtain ⟨lo, hlo⟩ : ∃ z, an s.2.1 = z := ⟨_, rfl⟩
      obtain ⟨hi', hhi⟩ : ∃ z, an s.2.2 = z := ⟨_, rfl⟩
      have hfS : fitS s = if hi' < lo then (0, hi', lo) else (0, lo, hi') := by unfold fitS; rw [hlo, hhi]
      rw [hlo] at eL
      rw [hhi] at eH
      have key : ∀ a c : Int, fitS s = (0, a, c) → ∃ Y1 Y2 t' H' ws', h' ++ [(⟨.tip false, .ints .i64 [0, a, c]⟩ : ABlk)] = Y1 ∧ Y1[h'.length]? = some ⟨.tip false, .ints .i64 [0, a, c]⟩ ∧ h'.length < Y1.length ∧ Y1 ++ [(⟨.tip false, .ints .i64 [0, a, c]⟩ : ABlk)] = Y2 ∧ newCells Y2 (.ints .i64 [0, 0, 0]) (.sl Y1.length 0 1 1) = some (.ints .i64 [0, a, c]) ∧
          aappend Y2 (.ints .i64 [0, 0, 0]) 24 t (.ints .i64 [0, a, c]) 1 = some (t', H', ws') ∧ RW H' t' ((fitL L).take (i + 1)) g.length ∧ (∀ l, wadd g.length l ws' = l) ∧ Keeps g H' none := by
        intro a c hac
        have bY1 : (h' ++ [(⟨.tip false, .ints .i64 [0, a, c]⟩ : ABlk)])[h'.length]? = some ⟨.tip false, .ints .i64 [0, a, c]⟩ := fend _ _ _
        obtain ⟨Y1, hY1⟩ : ∃ Y, h' ++ [(⟨.tip false, .ints .i64 [0, a, c]⟩ : ABlk)] = Y := ⟨_, rfl⟩
        have kY1 : Keeps h' Y1 none := by rw [← hY1]; exact Keeps.app h' [⟨.tip false, .ints .i64 [0, a, c]⟩] none rfl
        rw [hY1] at bY1
        obtain ⟨Y2, hY2⟩ : ∃ Y, Y1 ++ [(⟨.tip false, .ints .i64 [0, a, c]⟩ : ABlk)] = Y := ⟨_, rfl⟩
        have kY2 : Keeps Y1 Y2 none := by rw [← hY2]; exact Keeps.app Y1 [⟨.tip false, .ints .i64 [0, a, c]⟩] none rfl
        have eN : newCells Y2 (.ints .i64 [0, 0, 0]) (.sl Y1.length 0 1 1) = some (.ints .i64 [0, a, c]) := newS (s := (0, a, c)) (by rw [← hY2]; exact fend _ _ _)
        have k2 := keepsT kh (keepsT kY1 kY2)
        obtain ⟨t', H', ws', eA, rt', hws', kA, _⟩ := appW (s := fitS s) (rt.kept (keepsT kY1 kY2)) (by rw [List.length_take]; omega) k2.2.1
        rw [← hnx] at rt'
        rw [hac] at eA
        exact ⟨Y1, Y2, t', H', ws', hY1, bY1, (List.getElem?_eq_some_iff.1 bY1).1, hY2, eN, eA, rt', fun l => wadd_ge hws', keepsO hg k2 kA rt.blk⟩
      by_cases c : hi' < lo
      · rw [if_pos c] at hfS
        obtain ⟨Y1, Y2, t', H', ws', hY1, bY1, lY1, hY2, eN, eA, rt', hww, kF⟩ := key _ _ hfS
        have nt' := rt'.na
        simp (maxDischargeDepth := 9) -implicitDefEqProofs only [push_cast, simprocAttr, nadd1, nadd2, nadd3, nadd4, nadd5, nadd6, nadd7, nadd8, nadd9, nadd10, nadd11, nadd12, ABlk.new, hlt', h16', v1, nv, lv, nt, ↓uia_eq, x1, ↓uld_eq 19, x2, ↓uld_eq 25, x3, eL, eH, g1, c, hY1, bY1, lY1, hY2, eN, eA, hww, nt']
        refine loop_next (16 - (i + 1)) (by omega) ⟨i + 1, t', rfl, by omega, by omega, ?_, rt', kF, rfl⟩
        simp (maxDischargeDepth := 9) -implicitDefEqProofs only [push_cast, simprocAttr, nv, nt']; try simp
      · rw [if_neg c] at hfS
        obtain ⟨Y1, Y2, t', H', ws', hY1, bY1, lY1, hY2, eN, eA, rt', hww, kF⟩ := key _ _ hfS
        have nt' := rt'.na
        simp (maxDischargeDepth := 9) -implicitDefEqProofs only [push_cast, simprocAttr, nadd1, nadd2, nadd3, nadd4, nadd5, nadd6, nadd7, nadd8, nadd9, nadd10, nadd11, nadd12, ABlk.new, hlt', h16', v1, nv, lv, nt, ↓uia_eq, x1, ↓uld_eq 19, x2, ↓uld_eq 25, x3, eL, eH, g1, c, hY1, bY1, lY1, hY2, eN, eA, hww, nt']
        refine loop_next (16 - (i + 1)) (by omega) ⟨i + 1, t', rfl, by omega, by omega, ?_, rt', kF, rfl⟩
        simp (maxDischargeDepth := 9) -implicitDefEqProofs only [push_cast, simprocAttr, nv, nt']; try simp
    · have h16' : ¬ (i : Int) < 16 := by omega
      rw [hfull (by omega)] at rt
      simp (maxDischargeDepth := 9) -implicitDefEqProofs only [push_cast, simprocAttr, nadd1, nadd2, nadd3, nadd4, nadd5, nadd6, nadd7, nadd8, nadd9, nadd10, nadd11, nadd12, hlt', h16', nv, lv, nt]
      exact ⟨rt, kh⟩
  · have hlt' : ¬ (i : Int) < (m : Int) := by omega
    rw [hfull (by omega)] at rt
    simp (maxDischargeDepth := 9) -implicitDefEqProofs only [push_cast, simprocAttr, nadd1, nadd2, nadd3, nadd4, nadd5, nadd6, nadd7, nadd8, nadd9, nadd10, nadd11, nadd12, hlt', nv, lv, nt]
    exact ⟨rt, kh⟩
end Go.Proofs.YtcpiohklljppaaaW.AI.D

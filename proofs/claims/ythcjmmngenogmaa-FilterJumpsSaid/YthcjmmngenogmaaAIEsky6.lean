import Derived.Test.YthcjmmngenogmaaAIEskyA
import Derived.Test.YthcjmmngenogmaaAIInt
namespace Go.Proofs.YthcjmmngenogmaaW.AI.E
open Go Go.Proofs.YthcjmmngenogmaaW.AI
set_option maxRecDepth 100000
set_option linter.unusedSimpArgs false
set_option linter.unusedVariables false
set_option linter.unusedSectionVars false
theorem W_anyN {C : Cfg} {f : Nat} {m : MFunc} {args : List AV} (I : AHeap → Prop) (R : Nat → AHeap → AV → Prop) (hp : ∀ h, C.prim f args h = none) (hm : C.mp f = some m) (ht : m.trim = true) (hg0 : Good C.gl) (hi0 : AV.lts 0 args = true → I C.gl)
    (up : ∀ n h js v, R n h v → R n (h ++ js) v) (down : ∀ n h js v, v.lt h.length = true → R n (h ++ js) v → R n h v) (base : ∀ n k h v, v.lt 0 = true → R n h v → R k h v)
    (e : ∀ g, Good g → I g → Wp (xbody (W C) m args g) fun r => R g.length r.2.1 r.1 ∧ Keeps g r.2.1 none ∧ r.2.2 = []) {h : AHeap} (hg : Good h) (hi : I h) :
    ∃ v js, W C f args h = some (v, h ++ js, []) ∧ R h.length (h ++ js) v ∧ Good (h ++ js) := by
  obtain ⟨⟨v, h', ws⟩, e1, r1, k1, rfl⟩ := e h hg hi
  obtain ⟨js, rfl⟩ := k1.behind
  have hG := k1.2.2 hg
  have body : ∀ {q : AV × AHeap × List Nat}, q = (v, h ++ js, []) → (∃ w js', some (trimR h.length q) = some (w, h ++ js', []) ∧ R h.length (h ++ js') w ∧ Good (h ++ js')) := by
    rintro q rfl
    cases hv : v.lt h.length with
    | false => exact ⟨v, js, by rw [big_trim hv], r1, hG⟩
    | true => exact ⟨v, [], by rw [trim_of rfl hv (by simp) hg, List.append_nil], by rw [List.append_nil]; exact down _ _ _ _ hv r1, by rw [List.append_nil]; exact hg⟩
  cases h0 : AV.lts 0 args with
  | false =>
    rw [W_body (hp h) hm h0 e1, ht, if_pos rfl]
    exact body rfl
  | true =>
    obtain ⟨⟨v2, h2, ws2⟩, e2, r2, k2, rfl⟩ := e C.gl hg0 (hi0 h0)
    obtain ⟨j2, rfl⟩ := k2.behind
    cases h3 : v2.lt 0 with
    | false =>
      rw [W_made (hp h) hm h0 e2 h3 e1, ht, if_pos rfl]
      exact body rfl
    | true =>
      refine ⟨v2, [], ?_, ?_, by rw [List.append_nil]; exact hg⟩
      · rw [List.append_nil]; exact W_pure hp hm h0 h3 e2 h
      · have a1 : R C.gl.length ([] ++ (C.gl ++ j2)) v2 := r2
        have a2 : R C.gl.length [] v2 := down _ [] _ _ h3 a1
        have := up _ [] h _ (base _ h.length _ _ h3 a2)
        rw [List.append_nil]; exact this
/-- A row of pieces of one's own. -/
def TP (h : AHeap) (v : AV) (P : List (Int × Int)) (n : Nat) : Prop := ∃ b, n ≤ b ∧ ((v = .sl b 0 P.length P.length ∧ h[b]? = some ⟨.tip false, .ints .i64 (flatP P)⟩) ∨ ∃ o, v = .gsl b 0 P.length 2 false ∧ h[b]? = some ⟨.tip o, .ints .i64 (flatP P)⟩)
theorem TP.pv {h : AHeap} {v : AV} {P : List (Int × Int)} {n : Nat} (t : TP h v P n) : PV h v P := by
  obtain ⟨b, _, ⟨rfl, e⟩ | ⟨o, rfl, e⟩⟩ := t
  · exact ⟨b, _, e, Or.inr ⟨_, rfl⟩, Or.inl ⟨_, rfl, Nat.le_refl _⟩⟩
  · exact ⟨b, _, e, Or.inr ⟨_, rfl⟩, Or.inr rfl⟩
theorem TP.blk {h : AHeap} {v : AV} {P : List (Int × Int)} {n : Nat} (t : TP h v P n) : ∀ q, blkU v = some q → n ≤ q := by
  intro q hq
  obtain ⟨b, hb, ⟨rfl, e⟩ | ⟨o, rfl, e⟩⟩ := t <;> cases hq <;> exact hb
theorem flatP_app (P Q : List (Int × Int)) : flatP (P ++ Q) = flatP P ++ flatP Q := by unfold flatP; simp
theorem appP {H : AHeap} {v : AV} {P : List (Int × Int)} {f o : Int} {n : Nat} (t : TP H v P n) (hl : P.length < 1000) (hn : n ≤ H.length) :
    ∃ v' H' ws, aappend H (.ints .i64 [0, 0]) 16 v (.ints .i64 [f, o]) 1 = some (v', H', ws) ∧ TP H' v' (P ++ [(f, o)]) n ∧ (∀ b ∈ ws, n ≤ b) ∧ Keeps H H' (blkU v) := by
  have hr : room (P.length + 1) 16 = true := by simp only [room, decide_eq_true_eq]; omega
  have hf := flatP_len P
  have hfe : flatP (P ++ [(f, o)]) = flatP P ++ [f, o] := by rw [flatP_app]; rfl
  obtain ⟨p, hp, ⟨rfl, e⟩ | ⟨q, rfl, e⟩⟩ := t
  · have hs : sliceCells H (ACells.ints .i64 [0, 0]).len (.sl p 0 P.length P.length) = some (.ints .i64 (flatP P)) := by
      simp [sliceCells, cellsAt, e, ACells.len, ACells.sub, hf]
      try rw [← hf, List.take_length]
    have hle : ¬ P.length + 1 ≤ P.length := by omega
    refine ⟨.gsl H.length 0 (P.length + 1) 2 false, H ++ [⟨.tip false, .ints .i64 (flatP P ++ [f, o])⟩], [], ?_, ⟨H.length, hn, Or.inr ⟨false, by simp, by rw [hfe]; simp⟩⟩, by simp, Keeps.app _ _ _ rfl⟩
    simp only [aappend, if_neg hle]
    rw [hs]
    simp [ACells.app, hr, ACells.len]
  · have hpl := (List.getElem?_eq_some_iff.1 e).1
    refine ⟨.gsl H.length 0 (P.length + 1) 2 false, ((if q then reTip p H.length H else H).set p ⟨.old H.length, .ints .i64 (flatP P)⟩) ++ [⟨.tip true, .ints .i64 (flatP P ++ [f, o])⟩], [p], ?_, ⟨H.length, hn, Or.inr ⟨true, by simp, ?_⟩⟩, by simpa using hp, ?_⟩
    · have hsub : (ACells.ints .i64 (flatP P)).sub 0 (P.length * 2) = .ints .i64 (flatP P) := by
        simp only [ACells.sub, List.drop_zero]
        rw [← hf, List.take_length]
      simp only [aappend, ACells.len, List.length_cons, List.length_nil, e]
      simp only [Nat.zero_add, Nat.reduceAdd, if_true, hf, hsub, ACells.app, Option.bind_some, hr]
      try simp
    · rw [hfe, List.getElem?_append_right (by cases q <;> simp [len_reTip])]
      cases q <;> simp [len_reTip]
    · refine ⟨fun q' x hq hx hne => ?_, by cases q <;> simp [len_reTip], fun hg => ?_⟩
      · have hpq : p ≠ q' := fun e => hne (by rw [e]; rfl)
        rw [List.getElem?_append_left (by cases q <;> simp [len_reTip] <;> exact (List.getElem?_eq_some_iff.1 hq).1), List.getElem?_set_ne hpq]
        cases q
        · exact hq
        · exact reTip_keeps hq (hx p rfl)
      · cases q
        · exact good_set_old (y := ⟨.tip true, .ints .i64 (flatP P ++ [f, o])⟩) hg hpl
        · exact good_reTip (y := ⟨.tip true, .ints .i64 (flatP P ++ [f, o])⟩) hg hpl
theorem kill_getS {b i : Nat} {h : AHeap} {x : ABlk} (hx : h[i]? = some x) (hs : x.st ≠ .old b) : (kill b h)[i]? = some x := by
  unfold kill
  rw [List.getElem?_map, hx]
  simp [hs]
theorem kill_lenS (b : Nat) (h : AHeap) : (kill b h).length = h.length := by simp [kill]
theorem kill_goodS {b : Nat} {h : AHeap} (hg : Good h) : Good (kill b h) := by
  unfold Good at hg ⊢
  rw [kill_lenS]
  rw [List.all_eq_true] at hg ⊢
  intro x hx
  unfold kill at hx
  obtain ⟨y, hy, rfl⟩ := List.mem_map.1 hx
  have := hg y hy
  split
  · rfl
  · exact this
/-- The Off of one piece is written. -/
theorem setP {H : AHeap} {b : Nat} {o : Bool} {P : List (Int × Int)} {z : ABlk} (e : H[b]? = some ⟨.tip o, .ints .i64 (flatP P)⟩) (hz : notOld z = true) : Keeps H ((if o then kill b H else H).set b z) (some b) ∧ ((if o then kill b H else H).set b z)[b]? = some z := by
  have hl := (List.getElem?_eq_some_iff.1 e).1
  refine ⟨⟨fun q x hq hx hne => ?_, by cases o <;> simp [kill_lenS], fun hg => ?_⟩, by cases o <;> simp [kill_lenS, hl]⟩
  · have hpq : b ≠ q := fun e => hne (by rw [e])
    rw [List.getElem?_set_ne hpq]
    cases o
    · exact hq
    · exact kill_getS hq (hx b rfl)
  · cases o
    · exact good_set hg hz
    · exact good_set (kill_goodS hg) hz
theorem flatP_set : ∀ {P : List (Int × Int)} {i : Nat} {f o v : Int}, P[i]? = some (f, o) → (flatP P).set (i * 2 + 1) v = flatP (P.set i (f, v))
  | [], i, f, o, v, h => by simp at h
  | p :: P, 0, f, o, v, h => by simp at h; subst h; simp [flatP]
  | p :: P, i + 1, f, o, v, h => by
    have := flatP_set (P := P) (i := i) (f := f) (o := o) (v := v) (by simpa using h)
    unfold flatP at this ⊢
    simp only [List.map_cons, List.flatten_cons, List.set_cons_succ]
    rw [show (i + 1) * 2 + 1 = i * 2 + 1 + 2 by omega, List.set_append_right _ _ (by simp)]
    simp only [List.length_cons, List.length_nil]
    rw [show i * 2 + 1 + 2 - (0 + 1 + 1) = i * 2 + 1 by omega, this]
/-- The pieces that are made. -/
def mkF (L : List Int) : Nat → Int
  | 0 => 0
  | i + 1 => mkF L i + 1 + (match L[i]? with | some x => x.tmod 70368744177664 | none => 0)
def mkO (O : List Int) (i : Nat) : Int := match O[i]? with | some x => x.tmod 500001 | none => 0
def mkP (L O : List Int) (m : Nat) : List (Int × Int) := ((List.range m).map fun i => (mkF L i, mkO O i)) ++ [(mkF L m, 0)]
theorem mkP_len (L O : List Int) (m : Nat) : (mkP L O m).length = m + 1 := by simp [mkP]
theorem mkP_last (L O : List Int) (m : Nat) : (mkP L O m)[m]? = some (mkF L m, 0) := by
  unfold mkP
  rw [List.getElem?_append_right (by simp)]
  simp
theorem mkP_next (L O : List Int) (m : Nat) : (mkP L O m).set m (mkF L m, mkO O m) ++ [(mkF L (m + 1), 0)] = mkP L O (m + 1) := by
  unfold mkP
  rw [List.range_succ, List.map_append, List.set_append_right _ _ (by simp)]
  simp
theorem mkF_in {L : List Int} (hL : ∀ x ∈ L, 0 ≤ x) : ∀ i : Nat, 0 ≤ mkF L i ∧ mkF L i ≤ i * 70368744177664
  | 0 => by simp [mkF]
  | i + 1 => by
    have ih := mkF_in hL i
    simp only [mkF]
    split
    · rename_i x hx
      have h0 := hL x (List.mem_of_getElem? hx)
      rw [Int.tmod_eq_emod_of_nonneg h0]
      have := Int.emod_lt_of_pos x (show (0 : Int) < 70368744177664 by decide)
      have := Int.emod_nonneg x (show (70368744177664 : Int) ≠ 0 by decide)
      omega
    · omega
theorem mkF_inc {L : List Int} (hL : ∀ x ∈ L, 0 ≤ x) (i : Nat) : mkF L i < mkF L (i + 1) := by
  simp only [mkF]
  split
  · rename_i x hx
    have h0 := hL x (List.mem_of_getElem? hx)
    rw [Int.tmod_eq_emod_of_nonneg h0]
    have := Int.emod_nonneg x (show (70368744177664 : Int) ≠ 0 by decide)
    omega
  · omega
theorem mkO_in (O : List Int) (i : Nat) : -500000 ≤ mkO O i ∧ mkO O i ≤ 500000 := by
  unfold mkO
  split
  · rename_i x _
    rcases Int.le_total 0 x with h | h
    · rw [Int.tmod_eq_emod_of_nonneg h]; omega
    · obtain ⟨y, rfl⟩ : ∃ y, x = -y := ⟨-x, by omega⟩
      rw [Int.neg_tmod, Int.tmod_eq_emod_of_nonneg (by omega)]; omega
  · omega
theorem mkP_get {L O : List Int} {m i : Nat} {p : Int × Int} (h : (mkP L O m)[i]? = some p) : p.1 = mkF L i ∧ i ≤ m ∧ -500000 ≤ p.2 ∧ p.2 ≤ 500000 := by
  have hi := (List.getElem?_eq_some_iff.1 h).1
  rw [mkP_len] at hi
  by_cases c : i < m
  · unfold mkP at h
    rw [List.getElem?_append_left (by simpa using c)] at h
    simp [c] at h
    subst h
    have := mkO_in O i
    exact ⟨rfl, by omega, this.1, this.2⟩
  · obtain rfl : i = m := by omega
    rw [mkP_last] at h
    cases h
    exact ⟨rfl, Nat.le_refl _, by simp, by simp⟩
theorem mkP_ok {L O : List Int} {m : Nat} (hL : ∀ x ∈ L, 0 ≤ x) (hm : m ≤ 10) : Pcs (mkP L O m) := by
  refine ⟨by rw [mkP_len]; omega, by rw [mkP_len]; omega, fun p hp => ?_, fun p hp => ?_, fun i p q hp hq => ?_⟩
  · obtain ⟨i, hi⟩ := List.mem_iff_getElem?.1 hp
    obtain ⟨e, hl, h1, h2⟩ := mkP_get hi
    have := mkF_in hL i
    rw [e]
    omega
  · exact (mkP_get hp).1
  · rw [(mkP_get hp).1, (mkP_get hq).1]
    exact mkF_inc hL i
/-- What is made. -/
def MadR (hz : Int) (P : List (Int × Int)) (n : Nat) (H : AHeap) (r : AV) : Prop := ∃ p, r = .ptr p 0 ∧ n ≤ p ∧ SkAt H p hz (mkOf 64) 0 P
set_option maxHeartbeats 8000000 in
theorem made_c {h : AHeap} {lv ov : AV} {L O : List Int} {z : Int} (hg : Good h) (uL : IV .u64 h lv L) (uO : IV .i32 h ov O) (z0 : 0 ≤ z) (z1 : z < 4294967296) (rL : ∀ x ∈ L, 0 ≤ x ∧ x < 18446744073709551616) (rO : ∀ x ∈ O, -2147483648 ≤ x ∧ x ≤ 2147483647) (lL : L.length ≤ 9223372036854775807) (lO : O.length ≤ 9223372036854775807) :
    ∃ P r js, W CP 13 [.int .u32 z, lv, ov] h = some (r, h ++ js, []) ∧ MadR (1000 + z % 999999001) P h.length (h ++ js) r ∧ Good (h ++ js) := by
  obtain ⟨M, hM1, hM2, hM3, hM4⟩ : ∃ M : Nat, M ≤ 10 ∧ M ≤ L.length ∧ M ≤ O.length ∧ (M < L.length → M < O.length → M = 10) := by
    refine ⟨min 10 (min L.length O.length), by omega, by omega, by omega, by omega⟩
  refine ⟨mkP L O M, ?_⟩
  refine W_anyN (m := M13) (fun g => IV .u64 g lv L ∧ IV .i32 g ov O) (MadR (1000 + z % 999999001) (mkP L O M)) (fun _ => rfl) rfl rfl glG (fun h0 => ?_) (fun n h js r b => ?_) (fun n h js r hv b => ?_) (fun n k h r hv b => ?_) (fun g hg u => ?_) hg ⟨uL, uO⟩
  · simp only [AV.lts, Bool.and_eq_true] at h0
    exact ⟨uL.gl h0.2.1, uO.gl h0.2.2.1⟩
  · obtain ⟨p, e, hp, s⟩ := b
    exact ⟨p, e, hp, s.app js⟩
  · obtain ⟨p, rfl, hp, s⟩ := b
    have hb : p < h.length := by simpa [AV.lt] using hv
    refine ⟨p, rfl, hp, ?_⟩
    obtain ⟨⟨q, hq, e1, e2⟩, s1, s2, s3, s4, s5, s6, s7⟩ := s
    rw [List.getElem?_append_left hb] at e1
    rw [List.getElem?_append_left (by omega)] at e2
    exact ⟨⟨q, hq, e1, e2⟩, s1, s2, s3, s4, s5, s6, s7⟩
  · obtain ⟨p, rfl, hp, s⟩ := b
    simp [AV.lt] at hv
  obtain ⟨uL, uO⟩ := u
  have nL := uL.na
  have nO := uO.na
  have kL := uL.len
  have kO := uO.len
  obtain ⟨N1, hN1⟩ : ∃ N, L.length = N := ⟨_, rfl⟩
  obtain ⟨N2, hN2⟩ : ∃ N, O.length = N := ⟨_, rfl⟩
  rw [hN1] at kL lL hM2 hM4
  rw [hN2] at kO lO hM3 hM4
  have hL0 : ∀ x ∈ L, 0 ≤ x := fun x hx => (rL x hx).1
  simp (maxDischargeDepth := 9) -implicitDefEqProofs only [push_cast, simprocAttr, M13, nadd1, nadd2, nadd3, nadd4, nadd5, nadd6, nadd7, nadd8, nadd9, nadd10, nadd11, nadd12, nL, nO]
  refine wp_kRes (wp_kSeq (wp_kBlock ?_))
  refine wp_loop (fun k a h' ws => ∃ (i : Nat) (v : AV), k = M - i ∧ i ≤ M ∧ a = [(0, .int .u32 z), (1, lv), (2, ov), (7, v), (8, .int .i64 (i : Int))] ∧ TP h' v (mkP L O i) g.length ∧ Keeps g h' none ∧ ws = []) M ?_ ?_
  · refine ⟨0, .sl g.length 0 1 1, by omega, by omega, ?_, ⟨g.length, Nat.le_refl _, Or.inl ⟨rfl, ?_⟩⟩, ?_, rfl⟩
    · simp (maxDischargeDepth := 9) -implicitDefEqProofs only [push_cast, simprocAttr, nL, nO]; try rfl
    · exact end_getS _ _ _
    · exact Keeps.app _ _ _ rfl
  · rintro k aa h' ws ⟨i, v, rfl, hi, rfl, tv, kh, rfl⟩
    have v1 : IntKind.i64.wrap ((i : Int) + 1) = (i : Int) + 1 := wr_i64 _ (by omega) (by omega)
    have nv := tv.pv.na
    have ln := tv.pv.len
    rw [mkP_len] at ln
    have hgh := kh.2.2 hg
    by_cases hlt : i < M
    · have c1 : (i : Int) < (N1 : Int) := by omega
      have c2 : (i : Int) < (N2 : Int) := by omega
      have c3 : (i : Int) < 10 := by omega
      obtain ⟨x, hx⟩ : ∃ x, L[i]? = some x := ⟨_, List.getElem?_eq_getElem (by omega)⟩
      obtain ⟨o, ho⟩ : ∃ x, O[i]? = some x := ⟨_, List.getElem?_eq_getElem (by omega)⟩
      obtain ⟨x0, x1⟩ := rL x (List.mem_of_getElem? hx)
      obtain ⟨o0, o1⟩ := rO o (List.mem_of_getElem? ho)
      obtain ⟨f0, f1⟩ := mkF_in hL0 i
      have fN : mkF L (i + 1) = mkF L i + 1 + x.tmod 70368744177664 := by simp only [mkF, hx]
      have oN : mkO O i = o.tmod 500001 := by simp only [mkO, ho]
      have oI := mkO_in O i
      have xI : 0 ≤ x.tmod 70368744177664 ∧ x.tmod 70368744177664 < 70368744177664 := by
        rw [Int.tmod_eq_emod_of_nonneg x0]; omega
      obtain ⟨F, hF⟩ : ∃ F, mkF L i = F := ⟨_, rfl⟩
      obtain ⟨G, hG⟩ : ∃ F, mkF L (i + 1) = F := ⟨_, rfl⟩
      obtain ⟨R, hR⟩ : ∃ F, mkO O i = F := ⟨_, rfl⟩
      obtain ⟨X, hX⟩ : ∃ F, x.tmod 70368744177664 = F := ⟨_, rfl⟩
      rw [hF, hG, hX] at fN
      rw [hR] at oN oI
      rw [hF] at f0 f1
      rw [hX] at xI
      have i10 : (i : Int) * 70368744177664 ≤ 703687441776640 := by omega
      have r1 : o.tmod 500001 = R := oN.symm
      have r2 : IntKind.i32.wrap R = R := wr_i32 _ (by omega) (by omega)
      have r3 : IntKind.i64.wrap R = R := wr_i64 _ (by omega) (by omega)
      have r4 : IntKind.u64.wrap X = X := wr_u64 _ (by omega) (by omega)
      have r5 : IntKind.i64.wrap X = X := wr_i64 _ (by omega) (by omega)
      have r6 : IntKind.i64.wrap (F + 1) = F + 1 := wr_i64 _ (by omega) (by omega)
      have r7 : IntKind.i64.wrap (F + 1 + X) = G := by rw [wr_i64 _ (by omega) (by omega)]; omega
      have r8 : IntKind.i64.wrap (((i + 1 : Nat) : Int) - 1) = (i : Int) := by rw [wr_i64 _ (by omega) (by omega)]; omega
      have r9 : IntKind.i64.wrap ((i : Int) + 1 - 1) = (i : Int) := by rw [wr_i64 _ (by omega) (by omega)]; omega
      obtain ⟨pO, eO1, eO2, _⟩ := (uO.kept kh).at ho
      have hlast := mkP_last L O i
      rw [hF] at hlast
      have hnext := mkP_next L O i
      rw [hF, hR, hG] at hnext
      have hfs := flatP_set (v := R) hlast
      have hii : i < i + 1 := by omega
      -- both shapes at once
      have step : ∀ (b : Nat) (q : Bool), g.length ≤ b → h'[b]? = some ⟨.tip q, .ints .i64 (flatP (mkP L O i))⟩ → (v = .sl b 0 (mkP L O i).length (mkP L O i).length ∧ q = false ∨ v = .gsl b 0 (mkP L O i).length 2 false) →
          ∃ H1 v' H3 ws3, (if q then kill b h' else h').set b ⟨.tip q, .ints .i64 ((flatP (mkP L O i)).set (i * 2 + 1) R)⟩ = H1 ∧ H1[b]? = some ⟨.tip q, .ints .i64 ((flatP (mkP L O i)).set (i * 2 + 1) R)⟩ ∧ ((flatP (mkP L O i)).set (i * 2 + 1) R)[i * 2]? = some F ∧ Keeps g H1 none ∧
            newCells (H1 ++ [⟨.tip false, .ints .i64 [G, 0]⟩]) (.ints .i64 [0, 0]) (.sl H1.length 0 1 1) = some (.ints .i64 [G, 0]) ∧ aappend (H1 ++ [⟨.tip false, .ints .i64 [G, 0]⟩]) (.ints .i64 [0, 0]) 16 v (.ints .i64 [G, 0]) 1 = some (v', H3, ws3) ∧ wadd g.length [] ws3 = [] ∧ TP H3 v' (mkP L O (i + 1)) g.length ∧ Keeps g H3 none ∧ noAny (some v') = some v' := by
        intro b q hb eb sh
        obtain ⟨kS, e1⟩ := setP (z := ⟨.tip q, .ints .i64 ((flatP (mkP L O i)).set (i * 2 + 1) R)⟩) eb (by rfl)
        have k1 := keepsO hg kh kS (fun j hj => by cases hj; exact hb)
        obtain ⟨H1, hH1⟩ : ∃ H, (if q then kill b h' else h').set b ⟨.tip q, .ints .i64 ((flatP (mkP L O i)).set (i * 2 + 1) R)⟩ = H := ⟨_, rfl⟩
        rw [hH1] at k1 e1
        have l1 := (List.getElem?_eq_some_iff.1 e1).1
        have e2 : ((flatP (mkP L O i)).set (i * 2 + 1) R)[i * 2]? = some F := by
          rw [hfs]
          have hg2 : ((mkP L O i).set i (F, R))[i]? = some (F, R) := List.getElem?_set_self (by rw [mkP_len]; omega)
          exact (flatP_get hg2).1
        have kb := keepsJ k1 [⟨.tip false, .ints .i64 [G, 0]⟩] rfl
        have hn : newCells (H1 ++ [⟨.tip false, .ints .i64 [G, 0]⟩]) (.ints .i64 [0, 0]) (.sl H1.length 0 1 1) = some (.ints .i64 [G, 0]) := by
          have hq : (H1 ++ [(⟨.tip false, .ints .i64 [G, 0]⟩ : ABlk)])[H1.length]? = some ⟨.tip false, .ints .i64 [G, 0]⟩ := by simp
          simp [newCells, sliceCells, cellsAt, hq, ACells.len, ACells.sub]
        have t1 : TP (H1 ++ [⟨.tip false, .ints .i64 [G, 0]⟩]) v ((mkP L O i).set i (F, R)) g.length := by
          refine ⟨b, hb, ?_⟩
          rw [List.length_set, List.getElem?_append_left l1, e1, hfs]
          rcases sh with ⟨rfl, rfl⟩ | rfl
          · exact Or.inl ⟨rfl, rfl⟩
          · exact Or.inr ⟨q, rfl, rfl⟩
        obtain ⟨v', H3, ws3, ea, t3, hw, k3⟩ := appP (f := G) (o := 0) t1 (by rw [List.length_set, mkP_len]; omega) kb.2.1
        rw [hnext] at t3
        exact ⟨H1, v', H3, ws3, hH1, e1, e2, k1, hn, ea, wadd_ge hw, t3, keepsO hg kb k3 t1.blk, t3.pv.na⟩
      obtain ⟨b, hb, ⟨rfl, eb⟩ | ⟨q, rfl, eb⟩⟩ := tv
      · obtain ⟨H1, v', H3, ws3, s1, s2, s3, s4, s5, s6, s7, s8, s9, s10⟩ := step b false hb eb (Or.inl ⟨rfl, rfl⟩)
        rw [if_neg (by decide)] at s1
        obtain ⟨pL, eL1, eL2, _⟩ := (uL.kept s4).at hx
        have lb := (List.getElem?_eq_some_iff.1 eb).1
        have lb1 := (List.getElem?_eq_some_iff.1 s2).1
        have ll : i * 2 + 1 < (flatP (mkP L O i)).length := by rw [flatP_len, mkP_len]; omega
        have hlo : ¬ b < g.length := by omega
        rw [mkP_len] at nv s6
        have ep : ∀ g : AHeap, uia 2 g i (some (.sl b 0 (i + 1) (i + 1))) = some (.ptr b (i * 2), g, []) := fun g => by simp [uia]
        simp (maxDischargeDepth := 9) -implicitDefEqProofs only [push_cast, simprocAttr, nadd1, nadd2, nadd3, nadd4, nadd5, nadd6, nadd7, nadd8, nadd9, nadd10, nadd11, nadd12, c1, c2, c3, v1, nL, nO, nv, ln, kL, kO, mkP_len, ep, r8, r9, ↓uia_eq, eO1, ↓uld_eq 37, ↓uld_eq 52, eO2, r1, r2, r3, r4, r5, r6, r7, hii, eb, lb, ll, s1, s2, s3, lb1, eL1, eL2, hX, s5, s6, s7, s10, hlo]
        refine loop_next (M - (i + 1)) (by omega) ⟨i + 1, v', rfl, by omega, ?_, s8, s9, rfl⟩
        simp (maxDischargeDepth := 9) -implicitDefEqProofs only [push_cast, simprocAttr, nL, nO, s10]; try simp
      · obtain ⟨H1, v', H3, ws3, s1, s2, s3, s4, s5, s6, s7, s8, s9, s10⟩ := step b q hb eb (Or.inr rfl)
        obtain ⟨pL, eL1, eL2, _⟩ := (uL.kept s4).at hx
        have lb := (List.getElem?_eq_some_iff.1 eb).1
        have lb1 := (List.getElem?_eq_some_iff.1 s2).1
        have ll : i * 2 + 1 < (flatP (mkP L O i)).length := by rw [flatP_len, mkP_len]; omega
        have hlo : ¬ b < g.length := by omega
        rw [mkP_len] at nv s6
        have ep : ∀ g : AHeap, uia 2 g i (some (.gsl b 0 (i + 1) 2 false)) = some (.ptr b (i * 2), g, []) := fun g => by simp [uia]
        cases q
        · rw [if_neg (by decide)] at s1
          simp (maxDischargeDepth := 9) -implicitDefEqProofs only [push_cast, simprocAttr, nadd1, nadd2, nadd3, nadd4, nadd5, nadd6, nadd7, nadd8, nadd9, nadd10, nadd11, nadd12, c1, c2, c3, v1, nL, nO, nv, ln, kL, kO, mkP_len, ep, r8, r9, ↓uia_eq, eO1, ↓uld_eq 37, ↓uld_eq 52, eO2, r1, r2, r3, r4, r5, r6, r7, hii, eb, lb, ll, s1, s2, s3, lb1, eL1, eL2, hX, s5, s6, s7, s10, hlo]
          refine loop_next (M - (i + 1)) (by omega) ⟨i + 1, v', rfl, by omega, ?_, s8, s9, rfl⟩
          simp (maxDischargeDepth := 9) -implicitDefEqProofs only [push_cast, simprocAttr, nL, nO, s10]; try simp
        · rw [if_pos rfl] at s1
          simp (maxDischargeDepth := 9) -implicitDefEqProofs only [push_cast, simprocAttr, nadd1, nadd2, nadd3, nadd4, nadd5, nadd6, nadd7, nadd8, nadd9, nadd10, nadd11, nadd12, c1, c2, c3, v1, nL, nO, nv, ln, kL, kO, mkP_len, ep, r8, r9, ↓uia_eq, eO1, ↓uld_eq 37, ↓uld_eq 52, eO2, r1, r2, r3, r4, r5, r6, r7, hii, eb, lb, ll, s1, s2, s3, lb1, eL1, eL2, hX, s5, s6, s7, s10, hlo]
          refine loop_next (M - (i + 1)) (by omega) ⟨i + 1, v', rfl, by omega, ?_, s8, s9, rfl⟩
          simp (maxDischargeDepth := 9) -implicitDefEqProofs only [push_cast, simprocAttr, nL, nO, s10]; try simp
    · have hi2 : i = M := by omega
      subst hi2
      have z2 : z.tmod 999999001 = z % 999999001 := Int.tmod_eq_emod_of_nonneg z0
      obtain ⟨Z, hZ⟩ : ∃ Z, z % 999999001 = Z := ⟨_, rfl⟩
      rw [hZ] at z2 ⊢
      have w1 : IntKind.u64.wrap z = z := wr_u64 _ (by omega) (by omega)
      have w2 : IntKind.u64.wrap Z = Z := wr_u64 _ (by omega) (by omega)
      have w3 : IntKind.u64.wrap (1000 + Z) = 1000 + Z := wr_u64 _ (by omega) (by omega)
      obtain ⟨js, eN, sk, hGj⟩ := new_c (hz := 1000 + Z) (fs := 0) (k := 64) hgh tv.pv (mkP_ok hL0 hM1) (by omega) (by omega) (by decide) (by decide) (by decide) (by decide)
      have eN' : W CP 19 [.int .u64 (1000 + Z), .int .i64 64, .int .u64 0, v] h' = some (.tup [.ptr (h'.length + 3) 0, .int .i64 0], h' ++ js, []) := eN
      have post : MadR (1000 + Z) (mkP L O i) g.length (h' ++ js) (.ptr (h'.length + 3) 0) ∧ Keeps g (h' ++ js) none := ⟨⟨_, rfl, by have := kh.2.1; omega, sk⟩, keepsT kh (keepsG hGj)⟩
      by_cases c1 : (i : Int) < (N1 : Int)
      · by_cases c2 : (i : Int) < (N2 : Int)
        · have : i = 10 := hM4 (by omega) (by omega)
          have c3 : ¬ (i : Int) < 10 := by omega
          simp (maxDischargeDepth := 9) -implicitDefEqProofs only [push_cast, simprocAttr, nadd1, nadd2, nadd3, nadd4, nadd5, nadd6, nadd7, nadd8, nadd9, nadd10, nadd11, nadd12, c1, c2, c3, nL, nO, nv, kL, kO, w1, z2, w2, w3, eN']
          exact post
        · simp (maxDischargeDepth := 9) -implicitDefEqProofs only [push_cast, simprocAttr, nadd1, nadd2, nadd3, nadd4, nadd5, nadd6, nadd7, nadd8, nadd9, nadd10, nadd11, nadd12, c1, c2, nL, nO, nv, kL, kO, w1, z2, w2, w3, eN']
          exact post
      · simp (maxDischargeDepth := 9) -implicitDefEqProofs only [push_cast, simprocAttr, nadd1, nadd2, nadd3, nadd4, nadd5, nadd6, nadd7, nadd8, nadd9, nadd10, nadd11, nadd12, c1, nL, nO, nv, kL, kO, w1, z2, w2, w3, eN']
        exact post
end Go.Proofs.YthcjmmngenogmaaW.AI.E

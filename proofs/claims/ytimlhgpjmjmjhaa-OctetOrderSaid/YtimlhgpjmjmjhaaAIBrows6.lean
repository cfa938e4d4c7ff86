import Derived.Test.YtimlhgpjmjmjhaaAIBrows5
namespace Go.Proofs.YtimlhgpjmjmjhaaW.AI.B
open Go Go.Proofs.YtimlhgpjmjmjhaaW.AI Go.Proofs.YtimlhgpjmjmjhaaW.AI.Oct Go.RowKit
set_option maxRecDepth 100000
set_option linter.unusedSimpArgs false
set_option linter.unusedVariables false
set_option linter.unusedSectionVars false
/-- A row of cells. -/
def CeAt (h : AHeap) (v : AV) (E : List (Int × Int)) : Prop := (v = .nils ∧ E = []) ∨ ∃ b c l, v = .sl b 0 E.length c ∧ E.length ≤ c ∧ h[b]? = some ⟨.ext, .vals l⟩ ∧ ∀ i z x, E[i]? = some (z, x) → l[i * 2]? = some (.int .u8 z) ∧ l[i * 2 + 1]? = some (.int .u64 x)
theorem flat2 : ∀ {es : List (List AV)} {E : List (Int × Int)}, es = E.map (fun p => [AV.int .u8 p.1, AV.int .u64 p.2]) → ∀ i z x, E[i]? = some (z, x) → es.flatten[i * 2]? = some (.int .u8 z) ∧ es.flatten[i * 2 + 1]? = some (.int .u64 x)
  | _, [], rfl, i, z, x, h => by simp at h
  | _, p :: E, rfl, 0, z, x, h => by simp at h; subst h; simp
  | _, p :: E, rfl, i + 1, z, x, h => by
    have := flat2 (es := E.map (fun p => [AV.int .u8 p.1, AV.int .u64 p.2])) (E := E) rfl i z x (by simpa using h)
    simp only [List.map_cons, List.flatten_cons]
    rw [show (i + 1) * 2 = i * 2 + 2 by omega, show i * 2 + 2 + 1 = i * 2 + 1 + 2 by omega, List.getElem?_append_right (by simp), List.getElem?_append_right (by simp)]
    simpa using this
theorem arg_ce {g : AHeap} {v : AV} (hv : Ty g (.sl [.i .u8, .i .u64]) v) : ∃ E, CeAt g v E ∧ (∀ p ∈ E, 0 ≤ p.1 ∧ p.1 ≤ 255 ∧ 0 ≤ p.2 ∧ p.2 < 18446744073709551616) ∧ E.length ≤ 9223372036854775807 := by
  obtain ⟨es, hs, he⟩ := Ty_sl hv
  have hle := hs.le
  obtain ⟨E, hE, hr⟩ : ∃ E : List (Int × Int), es = E.map (fun p => [AV.int .u8 p.1, AV.int .u64 p.2]) ∧ ∀ p ∈ E, 0 ≤ p.1 ∧ p.1 ≤ 255 ∧ 0 ≤ p.2 ∧ p.2 < 18446744073709551616 := by
    clear hs hle
    induction es with
    | nil => exact ⟨[], rfl, by simp⟩
    | cons e es ih =>
      obtain ⟨E, rfl, hr⟩ := ih fun e' h' => he e' (List.mem_cons_of_mem _ h')
      have := he e List.mem_cons_self
      simp only [TyL, Ty] at this
      obtain ⟨_, _, rfl, ⟨z, rfl, z0, z1⟩, _, _, rfl, ⟨x, rfl, x0, x1⟩, rfl⟩ := this
      refine ⟨(z, x) :: E, rfl, fun p hp => ?_⟩
      rcases List.mem_cons.1 hp with rfl | hp
      · have e1 : IntKind.u8.min = 0 := rfl
        have e2 : IntKind.u8.max = 255 := rfl
        have e3 : IntKind.u64.min = 0 := rfl
        have e4 : IntKind.u64.max = 18446744073709551615 := rfl
        refine ⟨?_, ?_, ?_, ?_⟩ <;> simp only <;> omega
      · exact hr p hp
  have hl : es.length = E.length := by rw [hE]; simp
  refine ⟨E, ?_, hr, by omega⟩
  rcases hs with ⟨rfl, h0⟩ | ⟨b, c, rfl, g1, g2, g3, g4⟩
  · exact Or.inl ⟨rfl, List.length_eq_zero_iff.1 (by rw [← hl, h0]; rfl)⟩
  · exact Or.inr ⟨b, c, es.flatten, by rw [hl], by omega, g4, flat2 hE⟩
theorem CeAt.na {h : AHeap} {v : AV} {E : List (Int × Int)} (u : CeAt h v E) : slen v = some E.length := by
  rcases u with ⟨rfl, rfl⟩ | ⟨b, c, l, rfl, _⟩ <;> rfl
theorem CeAt.gl {h g : AHeap} {v : AV} {E : List (Int × Int)} (u : CeAt h v E) (h0 : v.lt 0 = true) : CeAt g v E := by
  rcases u with k | ⟨b, c, l, rfl, _⟩
  · exact Or.inl k
  · simp [AV.lt] at h0
/-- The sizes and numbers of cells. -/
def ceS (E : List (Int × Int)) : List Nat := E.map fun p => (1 + p.1 % 8).toNat
def ceN (E : List (Int × Int)) : List Int := E.map fun p => p.2 / 2 ^ (64 - 8 * (1 + p.1 % 8).toNat)
def CelR (S : List Nat) (V : List Int) (H : AHeap) (r : AV) : Prop := ∃ sv nv, r = .tup [sv, nv] ∧ IV .i64 H sv (szI S) ∧ IV .u64 H nv V
theorem CelR.up {S : List Nat} {V : List Int} (h js : AHeap) (r : AV) (b : CelR S V h r) : CelR S V (h ++ js) r := by
  obtain ⟨sv, nv, e, u, w⟩ := b; exact ⟨sv, nv, e, u.app js, w.app js⟩
theorem CelR.down {S : List Nat} {V : List Int} (h js : AHeap) (r : AV) (hv : r.lt h.length = true) (b : CelR S V (h ++ js) r) : CelR S V h r := by
  obtain ⟨sv, nv, rfl, u, w⟩ := b
  simp only [AV.lt, AV.lts, Bool.and_eq_true] at hv
  exact ⟨sv, nv, rfl, u.down hv.1, w.down hv.2.1⟩
set_option maxHeartbeats 8000000 in
theorem cells_c {h : AHeap} {v : AV} {E : List (Int × Int)} (hg : Good h) (hE : CeAt h v E) (hr : ∀ p ∈ E, 0 ≤ p.1 ∧ p.1 ≤ 255 ∧ 0 ≤ p.2 ∧ p.2 < 18446744073709551616) (hl : E.length ≤ 9223372036854775807) :
    ∃ r js, W CP 52 [v] h = some (r, h ++ js, []) ∧ CelR (ceS (E.take 30)) (ceN (E.take 30)) (h ++ js) r ∧ Good (h ++ js) ∧ (r.lt h.length = true → js = []) := by
  refine W_any (m := M52) (fun g => CeAt g v E) (CelR (ceS (E.take 30)) (ceN (E.take 30))) (fun _ => rfl) rfl rfl good_gl (fun h0 => ?_) CelR.up CelR.down (fun g hg hE => ?_) hg hE
  · simp only [AV.lts, Bool.and_eq_true] at h0
    exact hE.gl h0.1
  have nv := na_slen hE.na
  have lv := hE.na
  obtain ⟨n, hn⟩ : ∃ n, E.length = n := ⟨_, rfl⟩
  rw [hn] at lv hl
  simp (maxDischargeDepth := 9) -implicitDefEqProofs only [push_cast, simprocAttr, M52, nv, lv]
  refine wp_kRes (wp_kSeq (wp_kBlock ?_))
  refine wp_loop (fun k a h' ws => ∃ (i : Nat) (s t : AV), k = 31 - i ∧ i ≤ n ∧ i ≤ 30 ∧ a = [(4, s), (5, t), (9, v), (10, .int .i64 (n : Int)), (11, .int .i64 (i : Int))] ∧ TI .i64 h' s (szI (ceS (E.take i))) g.length ∧ TI .u64 h' t (ceN (E.take i)) g.length ∧ (∀ p q, blkU s = some p → blkU t = some q → p ≠ q) ∧ Keeps g h' none ∧ ws = []) 31 ?_ ?_
  · refine ⟨0, .nils, .nils, by omega, by omega, by omega, ?_, Or.inl ⟨rfl, rfl⟩, Or.inl ⟨rfl, rfl⟩, fun p q h => (by cases h), Keeps.refl _ _, rfl⟩
    simp (maxDischargeDepth := 9) -implicitDefEqProofs only [push_cast, simprocAttr, nv]; try rfl
  · rintro k aa h' ws ⟨i, s, t, rfl, hi, hi30, rfl, ts, tt, hne, kh, rfl⟩
    have v1 : IntKind.i64.wrap ((i : Int) + 1) = (i : Int) + 1 := wr_i64 _ (by omega) (by omega)
    have ns := ts.iv.na
    have nt := tt.iv.na
    have hgh := kh.2.2 hg
    by_cases hlt : i < n
    · have hlt' : (i : Int) < (n : Int) := by omega
      obtain ⟨⟨z, x⟩, hzx⟩ : ∃ p, E[i]? = some p := ⟨_, List.getElem?_eq_getElem (by omega)⟩
      obtain ⟨z0, z1, x0, x1⟩ := hr _ (List.mem_of_getElem? hzx)
      simp only at z0 z1 x0 x1
      rcases hE with ⟨rfl, h0⟩ | ⟨b, c, l, rfl, hc, hb, hcell⟩
      · rw [h0] at hzx; simp at hzx
      obtain ⟨c1, c2⟩ := hcell i z x hzx
      have hb' := keepsN kh _ _ hb
      have hbl := (List.getElem?_eq_some_iff.1 hb').1
      rw [hn] at lv nv ⊢
      obtain ⟨Y, hY⟩ : ∃ Y, h' ++ [ABlk.new (.vals [.int .u8 0, .int .u64 0])] = Y := ⟨_, rfl⟩
      have kY : Keeps h' Y none := by rw [← hY]; exact Keeps.app h' [⟨.tip false, .vals [.int .u8 0, .int .u64 0]⟩] none rfl
      have bY : Y[h'.length]? = some ⟨.tip false, .vals [.int .u8 0, .int .u64 0]⟩ := by rw [← hY]; exact end_get _ _ _
      have lY := (List.getElem?_eq_some_iff.1 bY).1
      have LY : Y.length = h'.length + 1 := by rw [← hY]; simp
      obtain ⟨H1, hH1⟩ : ∃ H, Y.set h'.length ⟨.tip false, .vals [.int .u8 z, .int .u64 x]⟩ = H := ⟨_, rfl⟩
      have k1 : Keeps h' H1 none := by rw [← hH1]; exact keepsS kY (Nat.le_refl _) rfl
      have b1 : H1[h'.length]? = some ⟨.tip false, .vals [.int .u8 z, .int .u64 x]⟩ := by rw [← hH1]; exact List.getElem?_set_self lY
      have l1 := (List.getElem?_eq_some_iff.1 b1).1
      have L1 : H1.length = h'.length + 1 := by rw [← hH1, List.length_set, LY]
      have hlo : ¬ h'.length < g.length := by have := kh.2.1; omega
      by_cases h30 : i = 30
      · subst h30
        have hgo : (30 : Int) < (n : Int) := by omega
        simp (maxDischargeDepth := 9) -implicitDefEqProofs only [push_cast, simprocAttr, nadd1, nadd2, nadd3, nadd4, nadd5, nadd6, nadd7, nadd8, nadd9, nadd10, nadd11, nadd12, hlt, hlt', v1, hb', hbl, c1, c2, ns, nt, hY, bY, lY, hH1, b1, l1, hgo, hlo]
        exact ⟨⟨s, t, rfl, ts.iv.kept k1, tt.iv.kept k1⟩, keepsT kh k1⟩
      · have hni : ¬ (i : Int) = 30 := by omega
        obtain ⟨S, hS⟩ : ∃ S, (1 + z % 8).toNat = S := ⟨_, rfl⟩
        have s1 : 1 ≤ S := by omega
        have s8 : S ≤ 8 := by omega
        have r1 : z.tmod 8 = z % 8 := Int.tmod_eq_emod_of_nonneg z0
        obtain ⟨m, hm⟩ : ∃ m, z % 8 = m := ⟨_, rfl⟩
        have hmS : 1 + m = (S : Int) := by omega
        have w1 : IntKind.u8.wrap m = m := wr_u8 _ (by omega) (by omega)
        have w2 : IntKind.i64.wrap m = m := wr_i64 _ (by omega) (by omega)
        have w3 : IntKind.i64.wrap (1 + m) = (S : Int) := by rw [wr_i64 _ (by omega) (by omega)]; exact hmS
        obtain ⟨Q, hQ⟩ : ∃ Q, 64 - 8 * S = Q := ⟨_, rfl⟩
        have w4 : IntKind.i64.wrap (8 * (S : Int)) = 8 * (S : Int) := wr_i64 _ (by omega) (by omega)
        have w5 : IntKind.i64.wrap (64 - 8 * (S : Int)) = (Q : Int) := by rw [wr_i64 _ (by omega) (by omega)]; omega
        have hQ0 : ¬ (Q : Int) < 0 := by omega
        have hQ6 : min Q 64 = Q := by omega
        obtain ⟨y, hy⟩ : ∃ y, x / 2 ^ Q = y := ⟨_, rfl⟩
        have hy' : x.fdiv (2 ^ Q) = y := by rw [Int.fdiv_eq_ediv_of_nonneg _ (Int.le_of_lt (Int.pow_pos (by decide)))]; exact hy
        have hy'' : x >>> Q = y := by rw [Int.shiftRight_eq_div_pow]; exact hy
        -- the size
        have hn1 := newI (k := .i64) (H := H1) (S : Int)
        have kb1 := keepsJ (keepsT kh k1) [⟨.tip false, .ints .i64 [(S : Int)]⟩] rfl
        have kb1' := keepsJ k1 [⟨.tip false, .ints .i64 [(S : Int)]⟩] rfl
        have ts1 := ts.keep (keepsN kb1')
        have tt1 := tt.keep (keepsN kb1')
        have lS : (szI (ceS (E.take i))).length = i := by simp [ceS]; omega
        have lN : (ceN (E.take i)).length = i := by simp [ceN]; omega
        obtain ⟨s', H3, ws3, ea3, t3, hw3, k3, _, bs3⟩ := appI (B := [(S : Int)]) (m := 1) (e := 8) (Or.inr rfl) ts1 rfl (by rw [lS]; omega) kb1.2.1
        have bs3 := bs3 (by decide)
        have kk3 : Keeps g H3 none := keepsO hg kb1 k3 ts1.blk
        have hwa3 : wadd g.length [] ws3 = [] := wadd_ge hw3
        have tt3 := tt1.keeps k3 fun j hj he => hne _ _ he hj rfl
        have b3 : H3[h'.length]? = some ⟨.tip false, .vals [.int .u8 z, .int .u64 x]⟩ := k3.1 _ _ (by rw [List.getElem?_append_left l1]; exact b1) (fun j _ => by simp) (fun e => by have := ts.lt _ e; omega)
        have l3 := (List.getElem?_eq_some_iff.1 b3).1
        have ns3 := t3.iv.na
        have hH3 : H1.length + 1 ≤ H3.length := by have := k3.2.1; simpa using this
        -- the number
        have hn4 := newI (k := .u64) (H := H3) y
        have kb4 := keepsJ kk3 [⟨.tip false, .ints .u64 [y]⟩] rfl
        have k4' := Keeps.app H3 [⟨.tip false, .ints .u64 [y]⟩] none rfl
        have ts4 := t3.keep (keepsN k4')
        have tt4 := tt3.keep (keepsN k4')
        obtain ⟨t', H5, ws5, ea5, t5, hw5, k5, _, bs5⟩ := appI (B := [y]) (m := 1) (e := 8) (Or.inr rfl) tt4 rfl (by rw [lN]; omega) kb4.2.1
        have bs5 := bs5 (by decide)
        have kk5 : Keeps g H5 none := keepsO hg kb4 k5 tt4.blk
        have hwa5 : wadd g.length [] ws5 = [] := wadd_ge hw5
        have nt5 := t5.iv.na
        have ts5 := ts4.keeps k5 fun j hj he => by
          rw [bs3] at hj
          have := tt.lt _ he
          cases hj
          simp at this
          omega
        have htk : E.take (i + 1) = E.take i ++ [(z, x)] := by rw [List.take_add_one, hzx]; rfl
        have eS : szI (ceS (E.take i)) ++ [(S : Int)] = szI (ceS (E.take (i + 1))) := by rw [htk]; simp [ceS, szI, hS]
        have eN : ceN (E.take i) ++ [y] = ceN (E.take (i + 1)) := by rw [htk]; simp [ceN, hS, hQ, hy]
        rw [eS] at ts5
        rw [eN] at t5
        simp (maxDischargeDepth := 9) -implicitDefEqProofs only [push_cast, simprocAttr, nadd1, nadd2, nadd3, nadd4, nadd5, nadd6, nadd7, nadd8, nadd9, nadd10, nadd11, nadd12, hlt, hlt', v1, hb', hbl, c1, c2, ns, nt, hY, bY, lY, hH1, b1, l1, hni, hlo, r1, hm, w1, w2, w3, hn1, ea3, hwa3, ns3, b3, l3, w4, w5, hQ0, hQ6, hy', hy'', hn4, ea5, hwa5, nt5, Int.toNat_natCast]
        refine loop_next (31 - (i + 1)) (by omega) ⟨i + 1, s', t', rfl, by omega, by omega, ?_, ts5, t5, fun p q e1 e2 => ?_, kk5, rfl⟩
        · simp (maxDischargeDepth := 9) -implicitDefEqProofs only [push_cast, simprocAttr, nv, ns3, nt5]; try simp
        · rw [bs3] at e1
          rw [bs5] at e2
          cases e1; cases e2
          simp
          omega
    · have hi2 : i = n := by omega
      subst hi2
      have hnl : ¬ (i : Int) < (i : Int) := by omega
      have e1 : E.take i = E.take 30 := by rw [List.take_of_length_le (by omega), List.take_of_length_le (by omega)]
      rw [e1] at ts tt
      simp (maxDischargeDepth := 9) -implicitDefEqProofs only [push_cast, simprocAttr, nadd1, nadd2, nadd3, nadd4, nadd5, nadd6, nadd7, nadd8, nadd9, nadd10, nadd11, nadd12, hnl, ns, nt]
      exact ⟨⟨s, t, rfl, ts.iv, tt.iv⟩, kh⟩
theorem ceS_ok {E : List (Int × Int)} : ∀ s ∈ ceS E, 1 ≤ s ∧ s ≤ 8 := by
  intro s hs
  obtain ⟨p, _, rfl⟩ := List.mem_map.1 hs
  omega
theorem ce_len (E : List (Int × Int)) : (ceS E).length = (ceN E).length := by simp [ceS, ceN]
theorem ce_fit {E : List (Int × Int)} (hr : ∀ p ∈ E, 0 ≤ p.1 ∧ p.1 ≤ 255 ∧ 0 ≤ p.2 ∧ p.2 < 18446744073709551616) : ∀ (i s : Nat) (v : Int), (ceS E)[i]? = some s → (ceN E)[i]? = some v → 0 ≤ v ∧ v < 256 ^ s := by
  intro i s v hs hv
  simp only [ceS, ceN, List.getElem?_map, Option.map_eq_some_iff] at hs hv
  obtain ⟨p, hp, rfl⟩ := hs
  obtain ⟨q, hq, rfl⟩ := hv
  rw [hp] at hq; cases hq
  obtain ⟨a, b, c, d⟩ := hr p (List.mem_of_getElem? hp)
  obtain ⟨S, hS⟩ : ∃ S, (1 + p.1 % 8).toNat = S := ⟨_, rfl⟩
  rw [hS]
  have s8 : S ≤ 8 := by omega
  have hp0 : (0 : Int) < 2 ^ (64 - 8 * S) := Int.pow_pos (by decide)
  refine ⟨Int.ediv_nonneg c (Int.le_of_lt hp0), Int.ediv_lt_of_lt_mul hp0 ?_⟩
  rw [← pow256, ← Int.pow_add, show 8 * S + (64 - 8 * S) = 64 by omega]
  have : (2 : Int) ^ 64 = 18446744073709551616 := by decide
  omega
theorem ce_rng {E : List (Int × Int)} (hr : ∀ p ∈ E, 0 ≤ p.1 ∧ p.1 ≤ 255 ∧ 0 ≤ p.2 ∧ p.2 < 18446744073709551616) : ∀ v ∈ ceN E, 0 ≤ v ∧ v < 18446744073709551616 := by
  intro v hv
  obtain ⟨i, hi⟩ := List.mem_iff_getElem?.1 hv
  have hl := ce_len E
  have hi2 := (List.getElem?_eq_some_iff.1 hi).1
  obtain ⟨s, hs⟩ : ∃ s, (ceS E)[i]? = some s := ⟨_, List.getElem?_eq_getElem (by omega)⟩
  obtain ⟨h1, h2⟩ := ce_fit hr i s v hs hi
  have s8 := (ceS_ok s (List.mem_of_getElem? hs)).2
  have : (256 : Int) ^ s ≤ 256 ^ 8 := pow256_le' s8
  have e8 : (256 : Int) ^ 8 = 18446744073709551616 := by decide
  omega
end Go.Proofs.YtimlhgpjmjmjhaaW.AI.B

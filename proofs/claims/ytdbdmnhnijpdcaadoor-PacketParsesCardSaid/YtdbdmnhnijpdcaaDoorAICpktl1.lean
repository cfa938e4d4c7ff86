import Derived.Test.YtdbdmnhnijpdcaaDoorAICpkt8
namespace Go.Proofs.YtdbdmnhnijpdcaaDoorW.AI.C
open Go Go.Proofs.YtdbdmnhnijpdcaaDoorW.AI Go.Proofs.YtdbdmnhnijpdcaaDoorW.AI.Oct Go.RowKit
set_option maxRecDepth 100000
set_option linter.unusedSimpArgs false
set_option linter.unusedVariables false
set_option linter.unusedSectionVars false
theorem pgood_gl : Good CP.gl := rfl
theorem pgood_ext {js : AHeap} (h : Ext js) : Good (CP.gl ++ js) := good_app pgood_gl (List.all_eq_true.2 fun x hx => by unfold notOld; rcases h x hx with e | e <;> rw [e])
theorem at0_ext {js : AHeap} (h : Ext js) : At0 (CP.gl ++ js) := at0_gl.app js
theorem awake_c (h : AHeap) : W CP 18 [] h = some (.bool true, h, []) := W_known (n := 400) (fun _ => rfl) (by kernel_rfl) h
theorem law_walkS {f n : Nat} {aks : List AK} (hlaw : ∀ (js : AHeap) (avs : List AV), Ext js → TyA (CP.gl ++ js) aks avs → ∃ h' ws, W CP f avs (CP.gl ++ js) = some (.bool true, h', ws)) {ts : List TypeId} (hk : aksOf X.P n ts = some aks)
    {H : Type} {enc : TypeId × Value → H} {w : World} {base : Nat} {args : Array Value} {ds : List (DataW H)} {ps : List MemPlace} (hl : Laid CP.gl X.gid w)
    (ht : DataW.TrodAll enc Go.Proofs.Tryd.prog w 0 (fun _ => true) true ts args.toList ds ps) (hw : ∀ (j : Nat) t v, ts[j]? = some t → args.toList[j]? = some v → Value.okWide Go.Proofs.Tryd.prog w .any base t v) :
    Calls Go.Proofs.Tryd.prog f args w fun e w' => e = .returned (.bool true) ∧ Below w.heap.size w w' :=
  law_laid (X := X) CP follows rfl mp_chk primOk hlaw hl hk ht hw
theorem ty_nil {g g' : AHeap} {l : List CK} {y : AV} (h : Ty g (.sl l) y) (h0 : y.lt 0 = true) : Ty g' (.sl l) y := by
  simp only [Ty] at h ⊢
  rcases h with rfl | ⟨b, n, c, es, rfl, _⟩
  · exact Or.inl rfl
  · simp [AV.lt] at h0
theorem i8_in (p : Int) : -128 ≤ IntKind.i8.wrap p ∧ IntKind.i8.wrap p ≤ 127 := by
  simp only [IntKind.wrap, IntKind.bits, IntKind.signed]
  simp
  split <;> omega
/-- What a packet that was read is. -/
theorem parseP_inv {D : List Int} {P : Pk} {F : List (Int × List Int)} (hB : Byt D) (h : parseP D = .ok P F) : D.length ≤ 512 ∧ ∃ v0 v1 v2 v3 v4 v5 v6 v7 v8 v9 v10 T, HV D v0 v1 v2 v3 v4 v5 v6 v7 v8 v9 v10 ∧ (1 ≤ v0 / 8 % 8 ∧ v0 / 8 % 8 ≤ 4) ∧ parseX 9 [] (D.drop 48) = .ok F T ∧ Byt T ∧
    ((T.length = 0 ∧ P = pkV v0 v1 v2 v3 v4 v5 v6 v7 v8 v9 v10) ∨ (T.length = 12 ∧ be (T.take 4) ≠ 0 ∧ P = { pkV v0 v1 v2 v3 v4 v5 v6 v7 v8 v9 v10 with s := true, p15 := be (T.take 4), p16 := be (T.drop 4) })) := by
  unfold parseP at h
  split at h
  · cases h
  rename_i c0
  split at h
  · cases h
  rename_i c1
  refine ⟨by omega, ?_⟩
  obtain ⟨v0, v1, v2, v3, v4, v5, v6, v7, v8, v9, v10, hv⟩ := HV.mk' hB (show 48 ≤ D.length by omega)
  rw [hv.takeV] at h
  simp only at h
  split at h
  case isFalse => cases h
  rename_i c2
  have hB2 : Byt (D.drop 48) := fun z hz => hB z (List.mem_of_mem_drop hz)
  cases hp : parseX 9 [] (D.drop 48) with
  | err z => rw [hp] at h; cases h
  | ok F' T =>
    rw [hp] at h
    simp only [parseQ] at h
    obtain ⟨F2, q1, q2, q3, q4, q5⟩ := put_parse 9 [] F' (D.drop 48) T hB2 (by simp) hp
    have hBT : Byt T := fun z hz => hB2 z (by rw [q2]; exact List.mem_append_right _ hz)
    refine ⟨v0, v1, v2, v3, v4, v5, v6, v7, v8, v9, v10, T, hv, c2, ?_⟩
    split at h
    · cases h
      exact ⟨rfl, hBT, Or.inl ⟨by assumption, rfl⟩⟩
    · split at h
      · cases h
      · cases h
        exact ⟨rfl, hBT, Or.inr ⟨by rcases q5 with h | h <;> omega, by assumption, rfl⟩⟩
theorem parseP_fine {D : List Int} {P : Pk} {F : List (Int × List Int)} (hB : Byt D) (h : parseP D = .ok P F) : P.Ok ∧ F.length ≤ 8 ∧ ∀ z ∈ F, mayN z.2.length = true := by
  obtain ⟨_, v0, v1, v2, v3, v4, v5, v6, v7, v8, v9, v10, T, hv, cv, hp, hBT, hk⟩ := parseP_inv hB h
  obtain ⟨F2, q1, q2, q3, q4, q5⟩ := put_parse 9 [] F (D.drop 48) T (fun z hz => hB z (List.mem_of_mem_drop hz)) (by simp) hp
  rw [List.nil_append] at q1
  subst q1
  have hok : (pkV v0 v1 v2 v3 v4 v5 v6 v7 v8 v9 v10).Ok := by
    obtain ⟨⟨p0, q0⟩, ⟨p1, q1⟩, ⟨p2, q2⟩, ⟨p3, q3⟩, ⟨p4, q4⟩, ⟨p5, q5⟩, ⟨p6, q6⟩, ⟨p7, q7⟩, ⟨p8, q8⟩, ⟨p9, q9⟩, ⟨p10, q10⟩⟩ := hv.bounds
    have i2 := i8_in v2
    have i3 := i8_in v3
    constructor <;> simp only [pkV] <;> omega
  refine ⟨?_, q4, fun z hz => (q3 z hz).2⟩
  rcases hk with ⟨_, rfl⟩ | ⟨t12, _, rfl⟩
  · exact hok
  · have b1 := be_bound (l := T.take 4) fun z hz => hBT z (List.mem_of_mem_take hz)
    have b2 := be_bound (l := T.drop 4) fun z hz => hBT z (List.mem_of_mem_drop hz)
    rw [List.length_take, t12] at b1
    rw [List.length_drop, t12] at b2
    obtain ⟨a0, b0, a1, b1', a2, b2', a3, b3, a4, b4, a5, b5, a6, b6, a7, b7, a8, b8, a9, b9, a10, b10, a11, b11, a12, b12, _, _, _, _⟩ := hok
    exact ⟨a0, b0, a1, b1', a2, b2', a3, b3, a4, b4, a5, b5, a6, b6, a7, b7, a8, b8, a9, b9, a10, b10, a11, b11, a12, b12, b1.1, by have := b1.2; simp at this; show be (T.take 4) ≤ _; omega, b2.1, by have := b2.2; simp at this; show be (T.drop 4) ≤ _; omega⟩
theorem sameP_self (P : Pk) (F : List (Int × List Int)) : sameP P P F F = true := by simp [sameP, sameH]
theorem mayN_le {n : Nat} (h : mayN n = true) : n ≤ 464 := by
  simp only [mayN, Bool.and_eq_true, decide_eq_true_eq] at h
  omega
theorem pk0_ok : pk0.Ok := by constructor <;> decide
theorem arg_cut {g : AHeap} {v : AV} (hv : Ty g (.sl [.i .u8]) v) : ∃ D, BV g v D ∧ D.length ≤ 9223372036854775807 ∧ ∀ m, m ≤ D.length → SV g (cutX v m) (D.take m) := by
  obtain ⟨D, b1, _, b3⟩ := arg_bv hv
  refine ⟨D, b1, b3, fun m hm => ?_⟩
  obtain ⟨hB, ⟨h1, h2⟩ | ⟨b, o, c, st, l, mn, e, hs, hl', hd, k'⟩⟩ := b1.take hm
  · exact Or.inl ⟨h1, h2⟩
  · simp only [Ty] at hv
    rcases hv with rfl | ⟨b', n, c', es, rfl, _⟩
    · rcases k' with ⟨h, _⟩ | h <;> cases h
    · rcases k' with ⟨h, hc⟩ | h
      · exact Or.inr ⟨hB, b, o, c, st, l, e, hs, hl', hd, Or.inl ⟨h, hc⟩⟩
      · cases h
def parses2 : MCode := .seq (.seq (.reg [⟨some 37, .fa 13 (.t 4), none⟩,
  ⟨some 38, .ld none (.t 37), none⟩,
  ⟨some 39, .len none (.t 38), none⟩,
  ⟨some 40, .mv (.c (.int .i64 0)), none⟩])
 (.block 0 [0, 3, 8]
 (.loop [0, 3, 8, 38, 39, 40]
 (.seq (.reg [⟨some 41, .bin .lss [] (.t 40) (.t 39), none⟩])
 (.seq (.cond (.t 41)
 (.skip)
 (.exit 0))
 (.seq (.block 1 [0, 3, 8, 38, 39, 40]
 (.seq (.reg [⟨some 42, .ia none 2 (.t 38) (.t 40), none⟩,
  ⟨some 43, .ld (some 2) (.t 42), none⟩,
  ⟨some 10, .al (.vals [(.int .u16 0), .nils]), none⟩,
  ⟨none, .st 2 (.t 10) (.t 43), none⟩])
 (.seq (.reg [⟨some 44, .fa 1 (.t 10), none⟩,
  ⟨some 45, .ld none (.t 44), none⟩,
  ⟨some 46, .len none (.t 45), none⟩,
  ⟨some 47, .mv (.c (.int .i64 0)), none⟩])
 (.block 2 [0, 3, 8, 38, 39, 40]
 (.loop [0, 3, 8, 10, 38, 39, 40, 46, 47]
 (.seq (.reg [⟨some 48, .bin .lss [] (.t 47) (.t 46), none⟩])
 (.seq (.cond (.t 48)
 (.skip)
 (.exit 2))
 (.seq (.block 3 [0, 3, 8, 10, 38, 39, 40, 46, 47]
 (.seq (.reg [⟨some 49, .mv (.t 47), none⟩,
  ⟨some 11, .mv (.t 49), none⟩])
 (.reg [⟨some 50, .fa 1 (.t 10), none⟩,
  ⟨some 51, .ld none (.t 50), none⟩,
  ⟨some 52, .mv (.t 11), none⟩,
  ⟨some 53, .ia none 1 (.t 51) (.t 52), none⟩,
  ⟨some 54, .ld none (.t 53), none⟩,
  ⟨some 55, .bin .xor [] (.t 54) (.c (.int .u8 255)), none⟩,
  ⟨some 56, .ia none 1 (.t 51) (.t 52), none⟩,
  ⟨none, .st 1 (.t 56) (.t 55), none⟩])))
 (.reg [⟨some 57, .bin .add [] (.t 47) (.c (.int .i64 1)), none⟩,
  ⟨some 47, .mv (.t 57), none⟩])))))))))
 (.reg [⟨some 58, .bin .add [] (.t 40) (.c (.int .i64 1)), none⟩,
  ⟨some 40, .mv (.t 58), none⟩])))))))
 (.seq (.reg [⟨some 59, .call 18 [], none⟩,
  ⟨some 60, .mv (.t 59), none⟩,
  ⟨some 61, .mv (.t 8), some (60, true)⟩,
  ⟨some 62, .pick (.t 60) (.t 61) (.c (.bool false)), none⟩,
  ⟨some 63, .mv (.t 62), none⟩,
  ⟨some 64, .mv (.t 3), some (63, true)⟩,
  ⟨some 65, .mv (.t 0), some (63, true)⟩,
  ⟨some 66, .call 19 [(.t 64), (.t 65)], some (63, true)⟩,
  ⟨some 67, .pick (.t 63) (.t 66) (.c (.bool false)), none⟩,
  ⟨some 2, .mv (.t 67), none⟩])
 (.ret))
theorem parses_parts : M3 = ⟨.seq (.reg [⟨some 2, .mv (.c (.bool false)), none⟩])
 (.seq (.reg [⟨some 12, .mv (.t 0), none⟩,
  ⟨some 13, .mv (.t 0), none⟩,
  ⟨some 14, .len none (.t 13), none⟩,
  ⟨some 15, .mnx false [(.t 14), (.c (.int .i64 600))], none⟩,
  ⟨some 16, .slc none 1 (.t 12) none (some (.t 15)) none, none⟩,
  ⟨some 0, .mv (.t 16), none⟩])
 (.seq (.reg [⟨some 17, .mv (.t 0), none⟩,
  ⟨some 18, .call 14 [(.t 17)], none⟩,
  ⟨some 3, .mv (.t 18), none⟩])
 (.seq (.reg [⟨some 20, .mv (.t 3), none⟩,
  ⟨some 21, .call 15 [(.t 20)], none⟩,
  ⟨some 19, .mv (.t 21), none⟩,
  ⟨some 22, .ex 0 (.t 19), none⟩,
  ⟨some 23, .ex 1 (.t 19), none⟩,
  ⟨some 4, .al (.vals [(.int .u8 0), (.int .u8 0), (.int .u8 0), (.int .u8 0), (.int .i8 0), (.int .i8 0), (.int .u32 0), (.int .u32 0), (.int .u32 0), (.int .u64 0), (.int .u64 0), (.int .u64 0), (.int .u64 0), .nils, (.bool false), (.int .u32 0), (.int .u64 0)]), none⟩,
  ⟨none, .st 17 (.t 4) (.t 22), none⟩,
  ⟨some 5, .mv (.t 23), none⟩])
 (.seq (.reg [⟨some 25, .mv (.t 0), none⟩,
  ⟨some 26, .call 16 [(.t 25)], none⟩,
  ⟨some 24, .mv (.t 26), none⟩,
  ⟨some 27, .ex 0 (.t 24), none⟩,
  ⟨some 28, .ex 1 (.t 24), none⟩,
  ⟨some 6, .al (.vals [(.int .u8 0), (.int .u8 0), (.int .u8 0), (.int .u8 0), (.int .i8 0), (.int .i8 0), (.int .u32 0), (.int .u32 0), (.int .u32 0), (.int .u64 0), (.int .u64 0), (.int .u64 0), (.int .u64 0), .nils, (.bool false), (.int .u32 0), (.int .u64 0)]), none⟩,
  ⟨none, .st 17 (.t 6) (.t 27), none⟩,
  ⟨some 7, .mv (.t 28), none⟩])
 (.seq (.reg [⟨some 29, .ld (some 17) (.t 4), none⟩,
  ⟨some 30, .ld (some 17) (.t 6), none⟩,
  ⟨some 31, .call 17 [(.t 29), (.t 30)], none⟩,
  ⟨some 32, .mv (.t 31), none⟩,
  ⟨some 33, .mv (.t 5), some (32, true)⟩,
  ⟨some 34, .mv (.t 7), some (32, true)⟩,
  ⟨some 35, .bin .eql [] (.t 33) (.t 34), some (32, true)⟩,
  ⟨some 36, .pick (.t 32) (.t 35) (.c (.bool false)), none⟩,
  ⟨some 8, .mv (.t 36), none⟩])
 parses2))))),
 [.tmp 2], true⟩ := rfl
def EndsC (o : AOut) : Prop := ∃ a h ws, o = (.ret, a, h, ws) ∧ look a 2 = some (.bool true)
theorem wp_endsC {x : Option AOut} (h : Wp x EndsC) : Wp (kRes [.tmp 2] x) fun r => r.1 = .bool true := by
  obtain ⟨o, rfl, a, h, ws, rfl, e⟩ := h
  refine ⟨(.bool true, h, ws), ?_, rfl⟩
  simp only [kRes, ares, aresL, ares1, aeval, e, Option.bind_some, Option.map_some]
/-- What the rounds leave as it is: what lay there before; the row of fields; where their bytes lie. -/
structure BI (H0 h : AHeap) (v : AV) (F : List (Int × List Int)) (l : List AV) : Prop where
  g : Good h
  low : ∀ (q : Nat) (z : ABlk), H0[q]? = some z → h[q]? = some z
  bl : H0.length ≤ h.length
  row : GxAt h v F.length l
  el : ∀ (i : Nat) (t : Int) (D : List Int), F[i]? = some (t, D) → l[i * 2]? = some (.int .u16 t) ∧ ∃ p l', l[i * 2 + 1]? = some (.gsl p 0 D.length 1 false) ∧ h[p]? = some ⟨.tip false, .ints .u8 l'⟩ ∧ l'.length = D.length ∧ H0.length ≤ p
theorem BI.app {H0 h : AHeap} {v : AV} {F : List (Int × List Int)} {l : List AV} (b : BI H0 h v F l) (js : AHeap) (hj : js.all notOld = true) : BI H0 (h ++ js) v F l := by
  have k : Keeps h (h ++ js) none := Keeps.app _ _ _ hj
  refine ⟨good_app b.g hj, fun q z e => keepsAll k q z (b.low q z e), by have := b.bl; simp; omega, b.row.keeps k (by simp), fun i t D hi => ?_⟩
  obtain ⟨h1, p, l', h2, h3, h4, h5⟩ := b.el i t D hi
  exact ⟨h1, p, l', h2, keepsAll k _ _ h3, h4, h5⟩
theorem BI.set {H0 h : AHeap} {v : AV} {F : List (Int × List Int)} {l : List AV} (b : BI H0 h v F l) {p : Nat} {l' l'' : List Int} (hp : h[p]? = some ⟨.tip false, .ints .u8 l'⟩) (hl : l''.length = l'.length) (hb : H0.length ≤ p) : BI H0 (h.set p ⟨.tip false, .ints .u8 l''⟩) v F l := by
  have hpl := (List.getElem?_eq_some_iff.1 hp).1
  refine ⟨good_set b.g rfl, fun q z e => ?_, by rw [List.length_set]; exact b.bl, ⟨b.row.1, ?_⟩, fun i t D hi => ?_⟩
  · have := (List.getElem?_eq_some_iff.1 e).1
    rw [List.getElem?_set_ne (by omega)]
    exact b.low q z e
  · rcases b.row.2 with e | ⟨q, mn, o, e, e2⟩
    · exact Or.inl e
    · refine Or.inr ⟨q, mn, o, e, ?_⟩
      rw [List.getElem?_set_ne (by rintro rfl; rw [hp] at e2; cases e2)]
      exact e2
  · obtain ⟨h1, q, m, h2, h3, h4, h5⟩ := b.el i t D hi
    by_cases hq : p = q
    · subst hq
      rw [hp] at h3
      cases h3
      exact ⟨h1, p, l'', h2, by rw [List.getElem?_set_self hpl], by omega, h5⟩
    · exact ⟨h1, q, m, h2, by rw [List.getElem?_set_ne hq]; exact h3, h4, h5⟩
set_option maxHeartbeats 16000000 in
theorem parses2_w {H0 H : AHeap} {a : Acts} {x oV v : AV} {F : List (Int × List Int)} {l : List AV} {D : List Int} {bb : Nat} (k0 : look a 0 = some x) (k3 : look a 3 = some oV) {PK : Pk} {q4 : Nat} (k4 : look a 4 = some (.ptr q4 0)) (hq4 : H[q4]? = some ⟨.tip false, .vals (PK.l v)⟩) (k10 : look a 8 = some (.bool true))
    (bx : BV H0 x D) (bo : BV H0 oV D) (hbb : bb ≤ H0.length) (hF : F.length < 1000000) (hFl : ∀ z ∈ F, z.2.length < 1000000) (bi : BI H0 H v F l) : Wp (xexec (W CP) bb parses2 a H []) EndsC := by
  have n1 := bx.na
  have n2 := bo.na
  have hlv := bi.row.slen
  have n3 := na_slen hlv
  obtain ⟨n, hn⟩ : ∃ n, F.length = n := ⟨_, rfl⟩
  rw [hn] at hlv hF
  have hq4l := (List.getElem?_eq_some_iff.1 hq4).1
  simp only [Pk.l] at hq4
  simp (maxDischargeDepth := 9) -implicitDefEqProofs only [push_cast, simprocAttr, parses2, nadd1, nadd2, nadd3, nadd4, nadd5, nadd6, nadd7, nadd8, nadd9, nadd10, nadd11, nadd12, k0, k3, k4, k10, hq4, hq4l, n1, n2, n3, hlv]
  refine wp_kSeq (wp_kBlock ?_)
  refine wp_loop (fun k a h' ws => ∃ i : Nat, k = n - i ∧ i ≤ n ∧ a = [(0, x), (3, oV), (8, .bool true), (38, v), (39, .int .i64 (n : Int)), (40, .int .i64 (i : Int))] ∧ BI H0 h' v F l ∧ ws = []) n ?_ ?_
  · refine ⟨0, by omega, by omega, ?_, bi, rfl⟩
    simp (maxDischargeDepth := 9) -implicitDefEqProofs only [push_cast, simprocAttr, k0, k3, k10, n1, n2, n3]
  · clear bi hq4 hq4l k4
    rintro k aa H ws ⟨i, rfl, hi, rfl, bi, rfl⟩
    have v1 : IntKind.i64.wrap ((i : Int) + 1) = (i : Int) + 1 := wr_i64 _ (by omega) (by omega)
    by_cases hlt : i < n
    · have hlt' : (i : Int) < (n : Int) := by omega
      obtain ⟨⟨t, E⟩, hz⟩ : ∃ z, F[i]? = some z := ⟨_, List.getElem?_eq_getElem (by omega)⟩
      have hE := hFl _ (List.mem_of_getElem? hz)
      obtain ⟨l1, p, l', l2, hp, hl', hbp⟩ := bi.el i t E hz
      obtain ⟨m, hm⟩ : ∃ m, E.length = m := ⟨_, rfl⟩
      rw [hm] at l2 hl'
      simp only [hm] at hE
      rcases bi.row.2 with ⟨_, e2⟩ | ⟨Pb, mn, o, e1, hP⟩
      · omega
      rw [hn] at e1
      subst e1
      have hpl := (List.getElem?_eq_some_iff.1 hp).1
      have hPl := (List.getElem?_eq_some_iff.1 hP).1
      have hia : iaV 2 H i (some (.gsl Pb 0 n 2 mn)) = some (.ptr Pb (i * 2), H, []) := by
        simp only [iaV]; rw [if_pos ⟨trivial, hlt⟩, Nat.zero_add]
      have hld : ldV (some 2) H (some (.ptr Pb (i * 2))) = some (.agg [.int .u16 t, .gsl p 0 m 1 false], H, []) := by
        simp only [ldV, cellsAt_of hP (by simp), Option.bind_some, loadA, loadN, ACells.get?, l1, l2, Option.map_some]
      have hbl := bi.bl
      have hlo : ¬ H.length < bb := by omega
      have hlo2 : ¬ p < bb := by omega
      have bi1 := bi.app [⟨.tip false, .vals [.int .u16 t, .gsl p 0 m 1 false]⟩] rfl
      have hPP : (H ++ [(⟨.tip false, .vals [.int .u16 t, .gsl p 0 m 1 false]⟩ : ABlk)])[H.length]? = some ⟨.tip false, .vals [.int .u16 t, .gsl p 0 m 1 false]⟩ := end_get _ _ _
      have hp1 : (H ++ [(⟨.tip false, .vals [.int .u16 t, .gsl p 0 m 1 false]⟩ : ABlk)])[p]? = some ⟨.tip false, .ints .u8 l'⟩ := by rw [List.getElem?_append_left hpl]; exact hp
      simp (maxDischargeDepth := 9) -implicitDefEqProofs only [push_cast, simprocAttr, nadd1, nadd2, nadd3, nadd4, nadd5, nadd6, nadd7, nadd8, nadd9, nadd10, nadd11, nadd12, hlt', hlv, v1, ↓ia_eq, hia, hlt, ↓ldv_eq 42, hld, hlo]
      refine wp_kSeq (wp_kBlock (wp_kBlock ?_))
      refine wp_loop (fun k a h' ws => ∃ j : Nat, k = m - j ∧ j ≤ m ∧ a = [(0, x), (3, oV), (8, .bool true), (10, .ptr H.length 0), (38, .gsl Pb 0 n 2 mn), (39, .int .i64 (n : Int)), (40, .int .i64 (i : Int)), (46, .int .i64 (m : Int)), (47, .int .i64 (j : Int))] ∧ BI H0 h' (.gsl Pb 0 n 2 mn) F l ∧ h'[H.length]? = some ⟨.tip false, .vals [.int .u16 t, .gsl p 0 m 1 false]⟩ ∧ (∃ l' : List Int, h'[p]? = some ⟨.tip false, .ints .u8 l'⟩ ∧ l'.length = m) ∧ ws = []) m ?_ ?_
      · refine ⟨0, by omega, by omega, ?_, bi1, hPP, ⟨l', hp1, hl'⟩, rfl⟩
        simp (maxDischargeDepth := 9) -implicitDefEqProofs only [push_cast, simprocAttr, n1, n2, n3]
      · clear bi bi1 hPP hp1 hp hl' hpl hld hia hP hPl
        rintro k aa G ws ⟨j, rfl, hj, rfl, bi, hPP, ⟨l', hp, hl'⟩, rfl⟩
        have v2 : IntKind.i64.wrap ((j : Int) + 1) = (j : Int) + 1 := wr_i64 _ (by omega) (by omega)
        have hpl := (List.getElem?_eq_some_iff.1 hp).1
        have hPl := (List.getElem?_eq_some_iff.1 hPP).1
        by_cases hltj : j < m
        · have hltj' : (j : Int) < (m : Int) := by omega
          obtain ⟨d, hd⟩ : ∃ d, l'[j]? = some d := ⟨_, List.getElem?_eq_getElem (by omega)⟩
          have hil : j < l'.length := by omega
          simp (maxDischargeDepth := 9) -implicitDefEqProofs only [push_cast, simprocAttr, nadd1, nadd2, nadd3, nadd4, nadd5, nadd6, nadd7, nadd8, nadd9, nadd10, nadd11, nadd12, hltj, hltj', v2, hPP, hPl, hp, hpl, hd, hil, hlo2, Nat.mul_one]
          refine loop_next (m - (j + 1)) (by omega) ⟨j + 1, rfl, by omega, ?_, bi.set hp (by rw [List.length_set]) hbp, ?_, ⟨l'.set j (abits .xor .u8 d 255), by rw [List.getElem?_set_self hpl], by rw [List.length_set]; exact hl'⟩, rfl⟩
          · simp (maxDischargeDepth := 9) -implicitDefEqProofs only [push_cast, simprocAttr, n1, n2, n3]; try simp
          · rw [List.getElem?_set_ne (by rintro rfl; rw [hp] at hPP; cases hPP)]; exact hPP
        · have hnlj : ¬ (j : Int) < (m : Int) := by omega
          simp (maxDischargeDepth := 9) -implicitDefEqProofs only [push_cast, simprocAttr, hnlj, n1, n2, n3, v1]
          refine loop_next (n - (i + 1)) (by omega) ⟨i + 1, rfl, by omega, ?_, bi, rfl⟩
          simp (maxDischargeDepth := 9) -implicitDefEqProofs only [push_cast, simprocAttr, n1, n2, n3]; try simp
    · have hnl : ¬ (i : Int) < (n : Int) := by omega
      have aw := fun h => awake_c h
      have eE := equal_c bi.g (bo.keep bi.low) (bx.keep bi.low)
      rw [decide_eq_true rfl] at eE
      simp (maxDischargeDepth := 9) -implicitDefEqProofs only [push_cast, simprocAttr, hnl, n1, n2, aw, eE]
      exact ⟨_, _, _, rfl, by simp (maxDischargeDepth := 9) -implicitDefEqProofs only [push_cast, simprocAttr]⟩
theorem own_sv {D : List Int} (hB : Byt D) (H : AHeap) : SV (H ++ ownH D) (ownV H.length D) D := by
  by_cases h0 : D = []
  · subst h0; exact Or.inl ⟨rfl, rfl⟩
  · rw [ownV_ne h0, ownH_ne h0]
    exact Or.inr ⟨hB, H.length, 0, 0, .tip false, D, end_get _ _ _, Or.inr ⟨false, rfl⟩, by omega, by rw [List.drop_zero, List.take_length], Or.inr rfl⟩
theorem SV.app' {h : AHeap} {x : AV} {D : List Int} (s : SV h x D) (js : AHeap) : SV (h ++ js) x D := by
  rcases s with h | h
  · exact Or.inl h
  · exact Or.inr (h.app _)
theorem keeps_good {h : AHeap} {js : AHeap} (hg : Good (h ++ js)) : Keeps h (h ++ js) none :=
  ⟨fun q x e _ _ => by rw [List.getElem?_append_left (List.getElem?_eq_some_iff.1 e).1]; exact e, by simp, fun _ => hg⟩
set_option maxHeartbeats 16000000 in
theorem parses_body {g : AHeap} (hg : Good g) (ha : At0 g) {bv : AV} (hbv : Ty g (.sl [.i .u8]) bv) : Wp (xbody (W CP) M3 [bv] g) fun r => r.1 = .bool true := by
  obtain ⟨Df, bD, lD, sD⟩ := arg_cut hbv
  obtain ⟨N, hN⟩ : ∃ N, Df.length = N := ⟨_, rfl⟩
  have hnb := bD.na
  have hlb := bD.len
  rw [hN] at hlb lD
  obtain ⟨m, hm, hm2, hmin⟩ : ∃ m : Nat, m ≤ N ∧ m ≤ 600 ∧ (if (600 : Int) < (N : Int) then (600 : Int) else (N : Int)) = (m : Int) := by
    by_cases hc : 600 < N
    · exact ⟨600, by omega, by omega, by rw [if_pos (by omega)]; rfl⟩
    · exact ⟨N, by omega, by omega, by rw [if_neg (by omega)]⟩
  have e1 := fun h => slcV_hi (h := h) bD (show m ≤ Df.length by omega)
  have bcut := bD.take (show m ≤ Df.length by omega)
  have acut := bcut.na
  have sv := sD m (by omega)
  have hcl : (Df.take m).length = m := by rw [List.length_take]; omega
  have hB := bcut.1
  obtain ⟨D, hD⟩ : ∃ D, Df.take m = D := ⟨_, rfl⟩
  rw [hD] at bcut sv hcl hB
  obtain ⟨x, hx⟩ : ∃ x, cutX bv m = x := ⟨_, rfl⟩
  rw [hx] at e1 bcut acut sv
  clear hx
  have eO := own_c hg bcut (by omega)
  have bo := own_bv hB g
  have hno := ownH_notOld D
  have svx := own_sv hB g
  have sx0 : SV (g ++ ownH D) x D := by
    rcases sv with h | h
    · exact Or.inl h
    · exact Or.inr (h.app _)
  have bx := bcut.app (ownH D)
  have hG0 := good_app hg hno
  have hA0 := ha.app (ownH D)
  obtain ⟨oV, hoV⟩ : ∃ z, ownV g.length D = z := ⟨_, rfl⟩
  obtain ⟨H0, hH0⟩ : ∃ H0, g ++ ownH D = H0 := ⟨_, rfl⟩
  have hgl : g.length ≤ H0.length := by rw [← hH0]; simp
  rw [hoV, hH0] at eO bo
  rw [hoV, hH0] at svx
  rw [hH0] at sx0
  rw [hH0] at bx hG0 hA0
  clear hoV hH0 hno
  have ao := bo.na
  have aw := fun h => awake_c h
  rw [parses_parts]
  have cP := pparse_c hG0 hA0 svx (by omega)
  cases hp : parseP D with
  | err z =>
    rw [hp] at cP
    have eP : W CP 15 [oV] H0 = some (.tup [.agg (pk0.l .nils), .int .i64 z], H0, []) := cP
    have cR := refpparse_c (good_app (js := [⟨.tip false, .vals (pk0.l .nils)⟩]) hG0 rfl) (sx0.app' [⟨.tip false, .vals (pk0.l .nils)⟩]) (by omega)
    rw [hp] at cR
    have eR : W CP 16 [x] (H0 ++ [⟨.tip false, .vals (pk0.l .nils)⟩]) = some (.tup [.agg (pk0.l .nils), .int .i64 z], H0 ++ [⟨.tip false, .vals (pk0.l .nils)⟩], []) := cR
    have hG2 : Good (H0 ++ [⟨.tip false, .vals (pk0.l .nils)⟩, ⟨.tip false, .vals (pk0.l .nils)⟩]) := good_app hG0 rfl
    have eS := refpsame_c (P := pk0) (Q := pk0) pk0_ok pk0_ok (ExtAt.nil (H0 ++ [⟨.tip false, .vals (pk0.l .nils)⟩, ⟨.tip false, .vals (pk0.l .nils)⟩])) rfl (ExtAt.nil _) rfl hG2 (by simp)
    rw [sameP_self] at eS
    have lo0 : ¬ H0.length < g.length := by omega
    have lo1 : ¬ H0.length + 1 < g.length := by omega
    have bi : BI H0 (H0 ++ [⟨.tip false, .vals (pk0.l .nils)⟩, ⟨.tip false, .vals (pk0.l .nils)⟩]) .nils [] [] := BI.app ⟨hG0, fun q z e => e, Nat.le_refl _, ⟨rfl, Or.inl ⟨rfl, rfl⟩⟩, fun i t D hi => by simp at hi⟩ _ rfl
    have hq4 : (H0 ++ [(⟨.tip false, .vals (pk0.l .nils)⟩ : ABlk), ⟨.tip false, .vals (pk0.l .nils)⟩])[H0.length]? = some ⟨.tip false, .vals (pk0.l .nils)⟩ := end_get _ _ _
    simp only [pk0, Pk.l] at eP eR eS bi hq4
    simp (maxDischargeDepth := 9) -implicitDefEqProofs only [push_cast, simprocAttr, nadd1, nadd2, nadd3, nadd4, nadd5, nadd6, nadd7, nadd8, nadd9, nadd10, nadd11, nadd12, hnb, hlb, hmin, ↓slc_eqH, e1, acut, eO, ao, eP, eR, eS, lo0, lo1]
    refine wp_endsC (parses2_w (H0 := H0) (x := x) (oV := oV) (v := .nils) (F := []) (l := []) (D := D) (PK := pk0) (q4 := H0.length) ?_ ?_ ?_ hq4 ?_ bx bo hgl (by simp) (by simp) bi)
    all_goals simp (maxDischargeDepth := 9) -implicitDefEqProofs only [push_cast, simprocAttr, acut, ao]
  | ok P F =>
    rw [hp] at cP
    obtain ⟨okP, f8, fN⟩ := parseP_fine hB hp
    obtain ⟨xv, l, js, eP, xo, hG1⟩ := cP
    have k1 := keeps_good hG1
    obtain ⟨H1, hH1⟩ : ∃ H1, H0 ++ js = H1 := ⟨_, rfl⟩
    have sx1 := sx0.app' js
    rw [hH1] at eP xo hG1 k1 sx1
    have xo1 := xo.app [⟨.tip false, .vals (P.l xv)⟩]
    have hG1' := good_app (js := [⟨.tip false, .vals (P.l xv)⟩]) hG1 rfl
    have cR := refpparse_c hG1' (sx1.app' [⟨.tip false, .vals (P.l xv)⟩]) (by omega)
    rw [hp] at cR
    obtain ⟨xv2, l2, js2, eR, xo2, hG2⟩ := cR
    have xo3 := xo1.app js2
    have hq4 : ((H1 ++ [(⟨.tip false, .vals (P.l xv)⟩ : ABlk)]) ++ js2)[H1.length]? = some ⟨.tip false, .vals (P.l xv)⟩ := by rw [List.append_assoc]; exact end_get _ _ _
    have k2 : Keeps H1 ((H1 ++ [(⟨.tip false, .vals (P.l xv)⟩ : ABlk)]) ++ js2) none := ⟨fun q z e _ _ => by rw [List.append_assoc, List.getElem?_append_left (List.getElem?_eq_some_iff.1 e).1]; exact e, by simp, fun _ => hG2⟩
    obtain ⟨H2, hH2⟩ : ∃ H2, (H1 ++ [(⟨.tip false, .vals (P.l xv)⟩ : ABlk)]) ++ js2 = H2 := ⟨_, rfl⟩
    rw [hH2] at eR xo2 xo3 hq4 k2 hG2
    have xo4 := xo3.app [⟨.tip false, .vals (P.l xv2)⟩]
    have hG3 := good_app (js := [⟨.tip false, .vals (P.l xv2)⟩]) hG2 rfl
    have hq5 : (H2 ++ [(⟨.tip false, .vals (P.l xv2)⟩ : ABlk)])[H1.length]? = some ⟨.tip false, .vals (P.l xv)⟩ := by rw [List.getElem?_append_left (List.getElem?_eq_some_iff.1 hq4).1]; exact hq4
    have hl5 : H1.length < H2.length := (List.getElem?_eq_some_iff.1 hq4).1
    have c1 : xv.isCell = true := by rcases xo.gx.2 with ⟨rfl, _⟩ | ⟨_, _, _, rfl, _⟩ <;> rfl
    have c2 : xv2.isCell = true := by rcases xo2.gx.2 with ⟨rfl, _⟩ | ⟨_, _, _, rfl, _⟩ <;> rfl
    have eS := refpsame_c okP okP xo4.ext c1 (xo2.app _).ext c2 hG3 (by omega)
    rw [sameP_self] at eS
    have nv := na_slen xo.gx.slen
    have nv2 := na_slen xo2.gx.slen
    have k3 : Keeps H0 (H2 ++ [⟨.tip false, .vals (P.l xv2)⟩]) none := ⟨fun q z e _ _ => keepsAll (keeps_js k2 [⟨.tip false, .vals (P.l xv2)⟩] rfl) q z (keepsAll k1 q z e), by have := k1.2.1; have := k2.2.1; simp; omega, fun _ => hG3⟩
    have lo0 : ¬ H1.length < g.length := by have := k1.2.1; omega
    have lo1 : ¬ H2.length < g.length := by have := k1.2.1; have := k2.2.1; omega
    have bi : BI H0 (H2 ++ [⟨.tip false, .vals (P.l xv2)⟩]) xv F l := ⟨hG3, keepsAll k3, k3.2.1, xo4.gx, fun i t E hi => by
      obtain ⟨_, h1, _⟩ := xo4.en i t E hi
      obtain ⟨p, h2, h3, h4, _⟩ := xo4.ow i t E hi
      exact ⟨h1, p, E, h2, h3, rfl, h4⟩⟩
    simp only [Pk.l] at eP eR eS hq5 hq4
    simp (maxDischargeDepth := 9) -implicitDefEqProofs only [push_cast, simprocAttr, nadd1, nadd2, nadd3, nadd4, nadd5, nadd6, nadd7, nadd8, nadd9, nadd10, nadd11, nadd12, hnb, hlb, hmin, ↓slc_eqH, e1, acut, eO, ao, eP, c1, eR, c2, nv, nv2, hq4, hq5, hl5, eS, lo0, lo1]
    refine wp_endsC (parses2_w (H0 := H0) (x := x) (oV := oV) (v := xv) (F := F) (l := l) (D := D) (PK := P) (q4 := H1.length) ?_ ?_ ?_ hq5 ?_ bx bo hgl (by omega) (fun z hz => by have := mayN_le (fN z hz); omega) bi)
    all_goals simp (maxDischargeDepth := 9) -implicitDefEqProofs only [push_cast, simprocAttr, acut, ao, nv, nv2, c1, c2]
theorem parses_law (js : AHeap) (avs : List AV) (hx : Ext js) (ht : TyA (CP.gl ++ js) [.one (.sl [.i .u8])] avs) : ∃ h' ws, W CP 3 avs (CP.gl ++ js) = some (.bool true, h', ws) := by
  simp only [TyA] at ht
  obtain ⟨bv, _, rfl, hb, rfl⟩ := ht
  refine W_law (m := M3) (fun _ => rfl) rfl (parses_body (pgood_ext hx) (at0_ext hx) hb) fun h0 => ?_
  simp only [AV.lts, Bool.and_eq_true] at h0
  exact parses_body pgood_gl at0_gl (ty_nil hb h0.1)
theorem parses_kinds : aksOf X.P 20 [22] = some [.one (.sl [.i .u8])] := by kernel_rfl
end Go.Proofs.YtdbdmnhnijpdcaaDoorW.AI.C

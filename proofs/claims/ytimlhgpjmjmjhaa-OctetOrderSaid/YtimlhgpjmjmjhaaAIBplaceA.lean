import Derived.Test.YtimlhgpjmjmjhaaAIBsigned
namespace Go.Proofs.YtimlhgpjmjmjhaaW.AI.B
open Go Go.Proofs.YtimlhgpjmjmjhaaW.AI Go.Proofs.YtimlhgpjmjmjhaaW.AI.Oct Go.RowKit
set_option maxRecDepth 100000
set_option linter.unusedSimpArgs false
set_option linter.unusedVariables false
theorem r66 {v : Int} {k : Nat} (v0 : 0 ≤ v) (v1 : v < 18446744073709551616) (k1 : 1 ≤ k) (k8 : k ≤ 8) (h : AHeap) : W CP 66 [.int .u64 v, .int .i64 (k : Int)] h = some (.tup [.sl h.length 0 k k, .bool (decide (v < 256 ^ k))], h ++ [⟨.tip false, .ints .u8 (dg k v)⟩], []) := digits_c v0 v1 k1 k8 h
theorem r74_in {k : Nat} (k1 : 1 ≤ k) (k8 : k ≤ 8) (h : AHeap) : W CP 74 [.int .i64 (k : Int)] h = some (.bool true, h, []) := by
  have : ∀ k : Fin 9, k.1 ≠ 0 → ∀ h, W CP 74 [.int .i64 (k.1 : Int)] h = some (.bool true, h, []) := by
    intro k hk h
    match k, hk with
    | ⟨1, _⟩, _ => exact W_known (n := 60) (fun _ => rfl) (by kernel_rfl) h
    | ⟨2, _⟩, _ => exact W_known (n := 60) (fun _ => rfl) (by kernel_rfl) h
    | ⟨3, _⟩, _ => exact W_known (n := 60) (fun _ => rfl) (by kernel_rfl) h
    | ⟨4, _⟩, _ => exact W_known (n := 60) (fun _ => rfl) (by kernel_rfl) h
    | ⟨5, _⟩, _ => exact W_known (n := 60) (fun _ => rfl) (by kernel_rfl) h
    | ⟨6, _⟩, _ => exact W_known (n := 60) (fun _ => rfl) (by kernel_rfl) h
    | ⟨7, _⟩, _ => exact W_known (n := 60) (fun _ => rfl) (by kernel_rfl) h
    | ⟨8, _⟩, _ => exact W_known (n := 60) (fun _ => rfl) (by kernel_rfl) h
  exact this ⟨k, by omega⟩ (by show k ≠ 0; omega) h
theorem r74_out {n : Int} (hn : n < 1 ∨ 8 < n) (h : AHeap) : W CP 74 [.int .i64 n] h = some (.bool false, h, []) := by
  have c1 : ¬ n = 1 := by omega
  have c2 : ¬ n = 2 := by omega
  have c3 : ¬ n = 3 := by omega
  have c4 : ¬ n = 4 := by omega
  have c5 : ¬ n = 5 := by omega
  have c6 : ¬ n = 6 := by omega
  have c7 : ¬ n = 7 := by omega
  have c8 : ¬ n = 8 := by omega
  refine W_pure (m := M74) (h' := []) (ws := []) (fun _ => rfl) rfl (by simp [AV.lts, AV.lt]) rfl ?_ h
  show xbody (W CP) M74 _ [] = _
  simp (maxDischargeDepth := 9) -implicitDefEqProofs only [push_cast, simprocAttr, M74, c1, c2, c3, c4, c5, c6, c7, c8]
theorem p73_out {n : Int} (hn : n < 1 ∨ 8 < n) (h : AHeap) : W CP 73 [.int .i64 n] h = some (.bool false, h, []) := by
  by_cases c1 : 0 < n
  · have c2 : ¬ n ≤ 8 := by omega
    refine W_pure (m := M73) (h' := []) (ws := []) (fun _ => rfl) rfl (by simp [AV.lts, AV.lt]) rfl ?_ h
    show xbody (W CP) M73 _ [] = _
    simp (maxDischargeDepth := 9) -implicitDefEqProofs only [push_cast, simprocAttr, M73, c1, c2]
  · refine W_pure (m := M73) (h' := []) (ws := []) (fun _ => rfl) rfl (by simp [AV.lts, AV.lt]) rfl ?_ h
    show xbody (W CP) M73 _ [] = _
    simp (maxDischargeDepth := 9) -implicitDefEqProofs only [push_cast, simprocAttr, M73, c1]
theorem p48_arg {v n : Int} (hn : n < 1 ∨ 8 < n) (h : AHeap) : W CP 48 [.int .u64 v, .int .i64 n] h = some (.tup [.int .i64 0, .int .i64 1], h, []) := by
  have e73 := fun g => p73_out hn g
  refine W_pure (m := M48) (h' := []) (ws := []) (fun _ => rfl) rfl (by simp [AV.lts, AV.lt]) rfl ?_ h
  show xbody (W CP) M48 _ [] = _
  simp (maxDischargeDepth := 9) -implicitDefEqProofs only [push_cast, simprocAttr, M48, e73]
theorem p50_arg {v n : Int} (hn : n < 1 ∨ 8 < n) (h : AHeap) : W CP 50 [.int .i64 v, .int .i64 n] h = some (.tup [.int .u64 0, .int .i64 1], h, []) := by
  have e73 := fun g => p73_out hn g
  refine W_pure (m := M50) (h' := []) (ws := []) (fun _ => rfl) rfl (by simp [AV.lts, AV.lt]) rfl ?_ h
  show xbody (W CP) M50 _ [] = _
  simp (maxDischargeDepth := 9) -implicitDefEqProofs only [push_cast, simprocAttr, M50, e73]
theorem r49_arg {v n : Int} (hn : n < 1 ∨ 8 < n) (h : AHeap) : W CP 49 [.int .u64 v, .int .i64 n] h = some (.tup [.int .i64 0, .int .i64 1], h, []) := by
  have e74 := fun g => r74_out hn g
  refine W_pure (m := M49) (h' := []) (ws := []) (fun _ => rfl) rfl (by simp [AV.lts, AV.lt]) rfl ?_ h
  show xbody (W CP) M49 _ [] = _
  simp (maxDischargeDepth := 9) -implicitDefEqProofs only [push_cast, simprocAttr, M49, e74]
theorem r51_arg {v n : Int} (hn : n < 1 ∨ 8 < n) (h : AHeap) : W CP 51 [.int .i64 v, .int .i64 n] h = some (.tup [.int .u64 0, .int .i64 1], h, []) := by
  have e74 := fun g => r74_out hn g
  refine W_pure (m := M51) (h' := []) (ws := []) (fun _ => rfl) rfl (by simp [AV.lts, AV.lt]) rfl ?_ h
  show xbody (W CP) M51 _ [] = _
  simp (maxDischargeDepth := 9) -implicitDefEqProofs only [push_cast, simprocAttr, M51, e74]
theorem BytAt.cells {h : AHeap} {q o n c : Nat} {l : List Int} (hb : BytAt h (.sl q o n c) l) : ∃ L, cellsAt h q = some (.ints .u8 L) ∧ ∀ i (hi : i < l.length), L[o + i]? = some l[i] := by
  obtain ⟨h1, h2, h3⟩ := hb
  simp only [slen, Option.some.injEq] at h1
  simp only [sliceCells, Option.bind_eq_some_iff] at h2
  obtain ⟨cc, g1, g2⟩ := h2
  split at g2
  case isFalse => cases g2
  rename_i hle
  cases cc with
  | vals l' => simp [ACells.sub] at g2
  | ints k' l' =>
    simp only [ACells.sub, Option.some.injEq, ACells.ints.injEq] at g2
    obtain ⟨rfl, g2⟩ := g2
    refine ⟨l', g1, fun i hi => ?_⟩
    rw [← List.getElem?_eq_getElem hi, ← g2, List.getElem?_take, if_pos (by omega), List.getElem?_drop]
theorem BytAt.cellsg {h : AHeap} {q o n : Nat} {mn : Bool} {l : List Int} (hb : BytAt h (.gsl q o n 1 mn) l) : ∃ L, cellsAt h q = some (.ints .u8 L) ∧ ∀ i (hi : i < l.length), L[o + i]? = some l[i] := by
  have : BytAt h (.sl q o n n) l := by
    obtain ⟨h1, h2, h3⟩ := hb
    exact ⟨h1, by simpa [sliceCells] using h2, h3⟩
  exact this.cells
theorem r70_sl {h : AHeap} {q o n c : Nat} {l : List Int} (hg : Good h) (hx : BytAt h (.sl q o n c) l) (h8 : l.length ≤ 8) : W CP 70 [.sl q o n c] h = some (.int .u64 (be l), h, []) := by
  obtain ⟨L, hc, hL⟩ := hx.cells
  unfold cellsAt at hc
  have hn : n = l.length := by have := hx.1; simp only [slen, Option.some.injEq] at this; exact this
  subst hn
  refine W_quiet0 (m := M70) rfl rfl (by simp [AV.lts, AV.lt]) rfl rfl hg ?_
  refine wp_eqP ?_
  simp (maxDischargeDepth := 9) -implicitDefEqProofs only [push_cast, simprocAttr, M70]
  refine wp_kRes (wp_kSeq (wp_kBlock ?_))
  refine wp_loop (fun k a h' ws => ∃ i : Nat, k = l.length - i ∧ i ≤ l.length ∧ a = [(0, .sl q o l.length c), (3, .int .u64 (be (l.take i))), (4, .int .i64 (i : Int))] ∧ h' = h ∧ ws = []) l.length ?_ ?_
  · refine ⟨0, by omega, by omega, ?_, rfl, rfl⟩
    simp (maxDischargeDepth := 9) -implicitDefEqProofs only [push_cast, simprocAttr, List.take_zero, be]; try rfl
  · rintro k aa h' ws ⟨i, rfl, hi, rfl, rfl, rfl⟩
    have v1 : IntKind.i64.wrap ((i : Int) + 1) = (i : Int) + 1 := wr_i64 _ (by omega) (by omega)
    by_cases hlt : i < l.length
    · have hlt' : (i : Int) < (l.length : Int) := by omega
      have hLi := hL i hlt
      have hs : be (l.take (i + 1)) = be (l.take i) * 256 + l[i] := by rw [← be_snoc, List.take_add_one, List.getElem?_eq_getElem hlt]; rfl
      obtain ⟨y, hy⟩ : ∃ y, be (l.take i) = y := ⟨_, rfl⟩
      obtain ⟨z, hz⟩ : ∃ z, l[i] = z := ⟨_, rfl⟩
      have hzb := hx.2.2 _ (List.getElem_mem hlt)
      have hyb := be_bound (l := l.take i) fun x hx' => hx.2.2 x (List.mem_of_mem_take hx')
      rw [hy, List.length_take, Nat.min_eq_left hi] at hyb
      have hp : (256 : Int) ^ i ≤ 72057594037927936 := by
        have h1 : (256 : Nat) ^ i ≤ 256 ^ 7 := Nat.pow_le_pow_right (by omega) (by omega)
        have h2 : ((256 ^ i : Nat) : Int) ≤ ((256 ^ 7 : Nat) : Int) := Int.ofNat_le.2 h1
        rw [Int.natCast_pow] at h2
        exact h2
      rw [hz] at hLi hs hzb
      rw [hy] at hs
      have v2 : IntKind.u64.wrap (y * 256) = y * 256 := by rw [IntKind.wrap_u64]; omega
      have v3 : IntKind.u64.wrap z = z := by rw [IntKind.wrap_u64]; omega
      have v4 : IntKind.u64.wrap (y * 256 + z) = y * 256 + z := by rw [IntKind.wrap_u64]; omega
      simp (maxDischargeDepth := 9) -implicitDefEqProofs only [push_cast, simprocAttr, hlt, hlt', v1, hy, hc, hLi, v2, v3, v4]
      refine loop_next (l.length - (i + 1)) (by omega) ⟨i + 1, rfl, by omega, ?_, rfl, rfl⟩
      rw [hs]
      simp (maxDischargeDepth := 9) -implicitDefEqProofs only [push_cast, simprocAttr]
    · have hi2 : i = l.length := by omega
      have he : be (l.take i) = be l := by rw [hi2, List.take_length]
      have hnl : ¬ (i : Int) < (l.length : Int) := by omega
      simp (maxDischargeDepth := 9) -implicitDefEqProofs only [push_cast, simprocAttr, hnl, he]
      try (refine loop_exit ?_; simp (maxDischargeDepth := 9) -implicitDefEqProofs only [push_cast, simprocAttr, he])
theorem r49_bad {k : Nat} {v : Int} (v0 : 0 ≤ v) (v1 : v < 18446744073709551616) (hv : ¬ v < 256 ^ k) (k1 : 1 ≤ k) (k8 : k ≤ 8) (h : AHeap) :
    W CP 49 [.int .u64 v, .int .i64 (k : Int)] h = some (.tup [.int .i64 0, .int .i64 20], h, []) := by
  have e74 := fun g => r74_in k1 k8 g
  have e66 := fun g => r66 v0 v1 k1 k8 g
  refine W_pure (m := M49) (h' := [⟨.tip false, .ints .u8 (dg k v)⟩]) (ws := []) (fun _ => rfl) rfl (by simp [AV.lts, AV.lt]) rfl ?_ h
  show xbody (W CP) M49 _ [] = _
  simp (maxDischargeDepth := 9) -implicitDefEqProofs only [push_cast, simprocAttr, M49, e74, e66, hv]
  try rfl
theorem dg_0 {k : Nat} {v : Int} (k1 : 1 ≤ k) (v0 : 0 ≤ v) (hv : v < 256 ^ k) : (dg k v)[0]? = some (v / 256 ^ (k - 1)) := by
  have hlt : v / 256 ^ (k - 1) < 256 := by
    have e : (256 : Int) ^ k = 256 * 256 ^ (k - 1) := by
      obtain ⟨j, rfl⟩ : ∃ j, k = j + 1 := ⟨k - 1, by omega⟩
      rw [Int.pow_succ, Int.mul_comm]; rfl
    rw [e] at hv
    exact Int.ediv_lt_of_lt_mul (Int.pow_pos (by omega)) hv
  have h0 : 0 ≤ v / 256 ^ (k - 1) := Int.ediv_nonneg v0 (Int.le_of_lt (Int.pow_pos (by omega)))
  unfold dg
  rw [List.getElem?_map, List.getElem?_range (by omega)]
  simp only [Option.map_some, Nat.sub_zero]
  rw [Int.emod_eq_of_lt h0 hlt]
theorem r49_lo {k : Nat} {v : Int} (v0 : 0 ≤ v) (v1 : v < 9223372036854775808) (hv : v < 256 ^ k) (hlo : v / 256 ^ (k - 1) < 128) (k1 : 1 ≤ k) (k8 : k ≤ 8) (h : AHeap) :
    W CP 49 [.int .u64 v, .int .i64 (k : Int)] h = some (.tup [.int .i64 v, .int .i64 0], h, []) := by
  have e74 := fun g => r74_in k1 k8 g
  have e66 := fun g => r66 v0 (by omega) k1 k8 g
  have e0 := dg_0 k1 v0 hv
  have k0 : 0 < k := by omega
  have w1 : IntKind.i64.wrap v = v := wr_i64 _ (by omega) (by omega)
  refine W_pure (m := M49) (h' := [⟨.tip false, .ints .u8 (dg k v)⟩]) (ws := []) (fun _ => rfl) rfl (by simp [AV.lts, AV.lt]) rfl ?_ h
  show xbody (W CP) M49 _ [] = _
  simp (maxDischargeDepth := 9) -implicitDefEqProofs only [push_cast, simprocAttr, M49, e74, e66, hv, e0, k0, hlo, w1, List.length_nil, List.nil_append, List.getElem?_cons_zero]
  try rfl
theorem be_compl (l : List Int) : be (l.map fun x => 255 - x) = 256 ^ l.length - 1 - be l := by
  induction l using snoc_ind with
  | h0 => simp [be]
  | h1 l b ih =>
    rw [List.map_append, List.map_singleton, be_snoc, be_snoc, ih, List.length_append, List.length_singleton, Int.pow_succ]
    generalize (256 : Int) ^ l.length = p
    omega
/-- The bytes when the first i are turned. -/
def cp (i : Nat) (l : List Int) : List Int := (l.take i).map (fun x => 255 - x) ++ l.drop i
theorem cp_get {i : Nat} {l : List Int} (h : i < l.length) : (cp i l)[i]? = some l[i] := by
  unfold cp
  rw [List.getElem?_append_right (by simp; omega)]
  simp [Nat.min_eq_left (Nat.le_of_lt h)]
theorem cp_len (i : Nat) (l : List Int) : (cp i l).length = l.length := by unfold cp; simp; omega
theorem cp_next {i : Nat} {l : List Int} (h : i < l.length) : (cp i l).set i (255 - l[i]) = cp (i + 1) l := by
  unfold cp
  rw [List.set_append_right _ _ (by simp; omega)]
  have e : i - ((l.take i).map fun x => 255 - x).length = 0 := by simp; omega
  rw [e, List.drop_eq_getElem_cons h, List.set_cons_zero, List.take_add_one, List.getElem?_eq_getElem h, List.map_append, List.append_assoc]
  rfl
theorem r49_hi {k : Nat} {v : Int} (v0 : 0 ≤ v) (v1 : v < 18446744073709551616) (hv : v < 256 ^ k) (hhi : ¬ v / 256 ^ (k - 1) < 128) (hw : 256 ^ k - v ≤ 9223372036854775808) (k1 : 1 ≤ k) (k8 : k ≤ 8) (h : AHeap) :
    W CP 49 [.int .u64 v, .int .i64 (k : Int)] h = some (.tup [.int .i64 (v - 256 ^ k), .int .i64 0], h, []) := by
  have e74 := fun g => r74_in k1 k8 g
  have e66 := fun g => r66 v0 v1 k1 k8 g
  have e0 := dg_0 k1 v0 hv
  have k0 : 0 < k := by omega
  obtain ⟨l, hl⟩ : ∃ l, dg k v = l := ⟨_, rfl⟩
  have hlen : l.length = k := by rw [← hl, dg_len]
  have hbyt : Byt l := by rw [← hl]; exact dg_byt k v
  have hbe : be l = v := by rw [← hl, be_dg k v v0 hv]
  rw [hl] at e66 e0
  refine W_pure (m := M49) (h' := [⟨.tip false, .ints .u8 (l.map fun x => 255 - x)⟩]) (ws := []) (fun _ => rfl) rfl (by simp [AV.lts, AV.lt]) rfl ?_ h
  show xbody (W CP) M49 _ [] = _
  have hB : BytAt [⟨.tip false, .ints .u8 (l.map fun x => 255 - x)⟩] (.sl 0 0 k k) (l.map fun x => 255 - x) := by
    refine ⟨by simp [slen, hlen], by simp [sliceCells, cellsAt, ACells.len, ACells.sub, hlen]; rw [List.take_of_length_le (by simp; omega)], ?_⟩
    intro x hx
    obtain ⟨y, hy, rfl⟩ := List.mem_map.1 hx
    have := hbyt y hy
    omega
  have e70 := r70_sl (h := [⟨.tip false, .ints .u8 (l.map fun x => 255 - x)⟩]) (by rfl) hB (by simp; omega)
  rw [be_compl, hlen, hbe] at e70
  refine wp_eqP ?_
  simp (maxDischargeDepth := 9) -implicitDefEqProofs only [push_cast, simprocAttr, M49, e74, e66, hv, e0, k0, hhi, List.length_nil, List.nil_append, List.getElem?_cons_zero]
  refine wp_kRes (wp_kSeq (wp_kBlock ?_))
  refine wp_loop (fun n a h' ws => ∃ i : Nat, n = k - i ∧ i ≤ k ∧ a = [(6, .sl 0 0 k k), (8, .int .i64 (i : Int))] ∧ h' = [⟨.tip false, .ints .u8 (cp i l)⟩] ∧ ws = []) k ?_ ?_
  · refine ⟨0, by omega, by omega, ?_, by simp [cp], rfl⟩
    simp (maxDischargeDepth := 9) -implicitDefEqProofs only [push_cast, simprocAttr]; try rfl
  · rintro n aa h' ws ⟨i, rfl, hi, rfl, rfl, rfl⟩
    have w1 : IntKind.i64.wrap ((i : Int) + 1) = (i : Int) + 1 := wr_i64 _ (by omega) (by omega)
    by_cases hlt : i < k
    · have hlt' : (i : Int) < (k : Int) := by omega
      have hil : i < l.length := by omega
      have g1 := cp_get hil
      have g2 := cp_next hil
      have g3 : i < (cp i l).length := by rw [cp_len]; omega
      obtain ⟨y, hy⟩ : ∃ y, l[i] = y := ⟨_, rfl⟩
      have hyb := hbyt _ (List.getElem_mem hil)
      rw [hy] at g1 g2 hyb
      have w2 : IntKind.u8.wrap (255 - y) = 255 - y := by rw [IntKind.wrap_u8]; omega
      simp (maxDischargeDepth := 9) -implicitDefEqProofs only [push_cast, simprocAttr, hlt, hlt', w1, w2, g1, g2, g3, List.getElem?_cons_zero, List.set_cons_zero]
      refine loop_next (k - (i + 1)) (by omega) ⟨i + 1, rfl, by omega, ?_, rfl, rfl⟩
      simp (maxDischargeDepth := 9) -implicitDefEqProofs only [push_cast, simprocAttr]
    · have hnl : ¬ (i : Int) < (k : Int) := by omega
      have hcp : cp i l = l.map fun x => 255 - x := by have : i = l.length := by omega
                                                       subst this; simp [cp]
      rw [hcp]
      have p1 : (256 : Int) ^ k - 1 - v < 9223372036854775808 := by omega
      have w2 : IntKind.i64.wrap (256 ^ k - 1 - v) = 256 ^ k - 1 - v := wr_i64 _ (by omega) (by omega)
      have w3 : IntKind.i64.wrap (0 - (256 ^ k - 1 - v)) = 0 - (256 ^ k - 1 - v) := wr_i64 _ (by omega) (by omega)
      have w4 : IntKind.i64.wrap (0 - (256 ^ k - 1 - v) - 1) = v - 256 ^ k := by rw [wr_i64 _ (by omega) (by omega)]; omega
      simp (maxDischargeDepth := 9) -implicitDefEqProofs only [push_cast, simprocAttr, hnl, e70, w2, w3, w4]
theorem r51_bad {k : Nat} {n w : Int} (hn : -9223372036854775808 ≤ n ∧ n < 9223372036854775808) (hw : w = if n < 0 then -1 - n else n) (hv : ¬ w < 256 ^ k ∨ (w < 256 ^ k ∧ ¬ w / 256 ^ (k - 1) < 128)) (k1 : 1 ≤ k) (k8 : k ≤ 8) (h : AHeap) :
    W CP 51 [.int .i64 n, .int .i64 (k : Int)] h = some (.tup [.int .u64 0, .int .i64 20], h, []) := by
  have e74 := fun g => r74_in k1 k8 g
  have w0 : 0 ≤ w := by rw [hw]; split <;> omega
  have wb : w < 9223372036854775808 := by rw [hw]; split <;> omega
  have e66 := fun g => r66 w0 (by omega : w < 18446744073709551616) k1 k8 g
  have k0 : 0 < k := by omega
  have u1 : IntKind.u64.wrap w = w := by rw [IntKind.wrap_u64]; omega
  refine W_pure (m := M51) (h' := [⟨.tip false, .ints .u8 (dg k w)⟩]) (ws := []) (fun _ => rfl) rfl (by simp [AV.lts, AV.lt]) rfl ?_ h
  show xbody (W CP) M51 _ [] = _
  by_cases hneg : n < 0
  · have a1 : IntKind.i64.wrap (n + 1) = n + 1 := wr_i64 _ (by omega) (by omega)
    have a2 : IntKind.i64.wrap (0 - (n + 1)) = w := by rw [hw, if_pos hneg, wr_i64 _ (by omega) (by omega)]; omega
    rcases hv with hv | ⟨hv, hd⟩
    · simp (maxDischargeDepth := 9) -implicitDefEqProofs only [push_cast, simprocAttr, M51, e74, hneg, a1, a2, u1, e66, hv]
      try rfl
    · have e0 := dg_0 k1 w0 hv
      have hd' : 128 ≤ w / 256 ^ (k - 1) := by omega
      simp (maxDischargeDepth := 9) -implicitDefEqProofs only [push_cast, simprocAttr, M51, e74, hneg, a1, a2, u1, e66, hv, e0, k0, hd', List.length_nil, List.nil_append, List.getElem?_cons_zero]
      try rfl
  · rw [if_neg hneg] at hw
    subst hw
    rcases hv with hv | ⟨hv, hd⟩
    · simp (maxDischargeDepth := 9) -implicitDefEqProofs only [push_cast, simprocAttr, M51, e74, hneg, u1, e66, hv]
      try rfl
    · have e0 := dg_0 k1 w0 hv
      have hd' : 128 ≤ w / 256 ^ (k - 1) := by omega
      simp (maxDischargeDepth := 9) -implicitDefEqProofs only [push_cast, simprocAttr, M51, e74, hneg, u1, e66, hv, e0, k0, hd', List.length_nil, List.nil_append, List.getElem?_cons_zero]
      try rfl
theorem r51_lo {k : Nat} {n : Int} (n0 : 0 ≤ n) (n1 : n < 9223372036854775808) (hv : n < 256 ^ k) (hlo : n / 256 ^ (k - 1) < 128) (k1 : 1 ≤ k) (k8 : k ≤ 8) (h : AHeap) :
    W CP 51 [.int .i64 n, .int .i64 (k : Int)] h = some (.tup [.int .u64 n, .int .i64 0], h, []) := by
  have e74 := fun g => r74_in k1 k8 g
  have e66 := fun g => r66 n0 (by omega) k1 k8 g
  have e0 := dg_0 k1 n0 hv
  have k0 : 0 < k := by omega
  have hneg : ¬ n < 0 := by omega
  have hd : ¬ 128 ≤ n / 256 ^ (k - 1) := by omega
  have u1 : IntKind.u64.wrap n = n := by rw [IntKind.wrap_u64]; omega
  refine W_pure (m := M51) (h' := [⟨.tip false, .ints .u8 (dg k n)⟩]) (ws := []) (fun _ => rfl) rfl (by simp [AV.lts, AV.lt]) rfl ?_ h
  show xbody (W CP) M51 _ [] = _
  simp (maxDischargeDepth := 9) -implicitDefEqProofs only [push_cast, simprocAttr, M51, e74, hneg, n0, u1, e66, hv, e0, k0, hd, List.length_nil, List.nil_append, List.getElem?_cons_zero]
  try rfl
theorem r51_neg {k : Nat} {n w : Int} (n0 : n < 0) (n1 : -9223372036854775808 ≤ n) (hw : w = -1 - n) (hv : w < 256 ^ k) (hlo : w / 256 ^ (k - 1) < 128) (hk : (256 : Int) ^ k ≤ 18446744073709551616) (k1 : 1 ≤ k) (k8 : k ≤ 8) (h : AHeap) :
    W CP 51 [.int .i64 n, .int .i64 (k : Int)] h = some (.tup [.int .u64 (n + 256 ^ k), .int .i64 0], h, []) := by
  have w0 : 0 ≤ w := by omega
  have e74 := fun g => r74_in k1 k8 g
  have e66 := fun g => r66 w0 (by omega : w < 18446744073709551616) k1 k8 g
  have e0 := dg_0 k1 w0 hv
  have u1 : IntKind.u64.wrap w = w := by rw [IntKind.wrap_u64]; omega
  have hn0 : ¬ 0 ≤ n := by omega
  have hd : ¬ 128 ≤ w / 256 ^ (k - 1) := by omega
  have a1 : IntKind.i64.wrap (n + 1) = n + 1 := wr_i64 _ (by omega) (by omega)
  have a2 : IntKind.i64.wrap (0 - (n + 1)) = w := by rw [wr_i64 _ (by omega) (by omega)]; omega
  have k0 : 0 < k := by omega
  obtain ⟨l, hl⟩ : ∃ l, dg k w = l := ⟨_, rfl⟩
  have hlen : l.length = k := by rw [← hl, dg_len]
  have hbyt : Byt l := by rw [← hl]; exact dg_byt k w
  have hbe : be l = w := by rw [← hl, be_dg k w w0 hv]
  rw [hl] at e66 e0
  refine W_pure (m := M51) (h' := [⟨.tip false, .ints .u8 (l.map fun x => 255 - x)⟩]) (ws := []) (fun _ => rfl) rfl (by simp [AV.lts, AV.lt]) rfl ?_ h
  show xbody (W CP) M51 _ [] = _
  have hB : BytAt [⟨.tip false, .ints .u8 (l.map fun x => 255 - x)⟩] (.sl 0 0 k k) (l.map fun x => 255 - x) := by
    refine ⟨by simp [slen, hlen], by simp [sliceCells, cellsAt, ACells.len, ACells.sub, hlen]; rw [List.take_of_length_le (by simp; omega)], ?_⟩
    intro x hx
    obtain ⟨y, hy, rfl⟩ := List.mem_map.1 hx
    have := hbyt y hy
    omega
  have e70 := r70_sl (h := [⟨.tip false, .ints .u8 (l.map fun x => 255 - x)⟩]) (by rfl) hB (by simp; omega)
  rw [be_compl, hlen, hbe] at e70
  refine wp_eqP ?_
  simp (maxDischargeDepth := 9) -implicitDefEqProofs only [push_cast, simprocAttr, M51, e74, n0, hn0, a1, a2, u1, e66, hv, e0, k0, hd, List.length_nil, List.nil_append, List.getElem?_cons_zero]
  refine wp_kRes (wp_kSeq (wp_kBlock ?_))
  refine wp_loop (fun r a h' ws => ∃ i : Nat, r = k - i ∧ i ≤ k ∧ a = [(7, .sl 0 0 k k), (9, .int .i64 (i : Int))] ∧ h' = [⟨.tip false, .ints .u8 (cp i l)⟩] ∧ ws = []) k ?_ ?_
  · refine ⟨0, by omega, by omega, ?_, by simp [cp], rfl⟩
    simp (maxDischargeDepth := 9) -implicitDefEqProofs only [push_cast, simprocAttr]; try rfl
  · rintro r aa h' ws ⟨i, rfl, hi, rfl, rfl, rfl⟩
    have w1 : IntKind.i64.wrap ((i : Int) + 1) = (i : Int) + 1 := wr_i64 _ (by omega) (by omega)
    by_cases hlt : i < k
    · have hlt' : (i : Int) < (k : Int) := by omega
      have hil : i < l.length := by omega
      have g1 := cp_get hil
      have g2 := cp_next hil
      have g3 : i < (cp i l).length := by rw [cp_len]; omega
      obtain ⟨y, hy⟩ : ∃ y, l[i] = y := ⟨_, rfl⟩
      have hyb := hbyt _ (List.getElem_mem hil)
      rw [hy] at g1 g2 hyb
      have w2 : IntKind.u8.wrap (255 - y) = 255 - y := by rw [IntKind.wrap_u8]; omega
      simp (maxDischargeDepth := 9) -implicitDefEqProofs only [push_cast, simprocAttr, hlt, hlt', w1, w2, g1, g2, g3, List.getElem?_cons_zero, List.set_cons_zero]
      refine loop_next (k - (i + 1)) (by omega) ⟨i + 1, rfl, by omega, ?_, rfl, rfl⟩
      simp (maxDischargeDepth := 9) -implicitDefEqProofs only [push_cast, simprocAttr]
    · have hnl : ¬ (i : Int) < (k : Int) := by omega
      have hcp : cp i l = l.map fun x => 255 - x := by have : i = l.length := by omega
                                                       subst this; simp [cp]
      rw [hcp]
      have w2 : IntKind.u64.wrap (256 ^ k - 1 - w) = 256 ^ k - 1 - w := by rw [IntKind.wrap_u64]; omega
      have w3 : 256 ^ k - 1 - w = n + 256 ^ k := by omega
      rw [w3] at e70
      simp (maxDischargeDepth := 9) -implicitDefEqProofs only [push_cast, simprocAttr, hnl, e70]
end Go.Proofs.YtimlhgpjmjmjhaaW.AI.B

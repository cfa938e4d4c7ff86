import Derived.Test.YtcpiohklljppaaaAITools
/-! Slices of 32-bit numbers, and numbers to the base 65536. -/
namespace Go.Proofs.YtcpiohklljppaaaW.AI
open Go
set_option linter.unusedVariables false
set_option linter.unusedSimpArgs false
theorem big_trim {n : Nat} {v : AV} {h : AHeap} {ws : List Nat} (hv : v.lt n = false) : trimR n (v, h, ws) = (v, h, ws) := by
  unfold trimR
  rw [if_neg]
  simp only [hv, Bool.false_and, Bool.false_eq_true, not_false_eq_true]
theorem keepsN {g h : AHeap} (k : Keeps g h none) : ∀ (q : Nat) (z : ABlk), g[q]? = some z → h[q]? = some z := fun q z e => k.1 q z e (by simp) (by simp)
theorem keepsJ {g h : AHeap} (k : Keeps g h none) (js : AHeap) (hj : js.all notOld = true) : Keeps g (h ++ js) none :=
  ⟨fun q z e _ _ => by rw [List.getElem?_append_left (List.getElem?_eq_some_iff.1 (k.1 q z e (by simp) (by simp))).1]; exact k.1 q z e (by simp) (by simp), by have := k.2.1; simp; omega, fun hg => good_app (k.2.2 hg) hj⟩
theorem keepsO {g h h' : AHeap} {p : Option Nat} (hg : Good g) (k : Keeps g h none) (k2 : Keeps h h' p) (hp : ∀ q, p = some q → g.length ≤ q) : Keeps g h' none :=
  Keeps.trans hg k k2 fun q hq hl => by have := hp q hq; omega
theorem keepsG {h : AHeap} {js : AHeap} (hg : Good (h ++ js)) : Keeps h (h ++ js) none :=
  ⟨fun q x e _ _ => by rw [List.getElem?_append_left (List.getElem?_eq_some_iff.1 e).1]; exact e, by simp, fun _ => hg⟩
theorem keepsS {g H : AHeap} {q : Nat} {z : ABlk} (k : Keeps g H none) (hq : g.length ≤ q) (hz : notOld z = true) : Keeps g (H.set q z) none :=
  ⟨fun p y e h1 h2 => by
    have := (List.getElem?_eq_some_iff.1 e).1
    rw [List.getElem?_set_ne (by omega)]
    exact k.1 p y e h1 h2, by rw [List.length_set]; exact k.2.1, fun hg => good_set (k.2.2 hg) hz⟩
theorem keepsT {g h h' : AHeap} (k : Keeps g h none) (k2 : Keeps h h' none) : Keeps g h' none :=
  ⟨fun q z e _ _ => keepsN k2 q z (keepsN k q z e), Nat.le_trans k.2.1 k2.2.1, fun hg => k2.2.2 (k.2.2 hg)⟩
/-- A function that answers what may bear addresses, new or old ones, or none. -/
theorem W_any {C : Cfg} {f : Nat} {m : MFunc} {args : List AV} (I : AHeap → Prop) (R : AHeap → AV → Prop) (hp : ∀ h, C.prim f args h = none) (hm : C.mp f = some m) (ht : m.trim = true) (hg0 : Good C.gl) (hi0 : AV.lts 0 args = true → I C.gl)
    (up : ∀ h js v, R h v → R (h ++ js) v) (down : ∀ h js v, v.lt h.length = true → R (h ++ js) v → R h v)
    (e : ∀ g, Good g → I g → Wp (xbody (W C) m args g) fun r => R r.2.1 r.1 ∧ Keeps g r.2.1 none ∧ r.2.2 = []) {h : AHeap} (hg : Good h) (hi : I h) :
    ∃ v js, W C f args h = some (v, h ++ js, []) ∧ R (h ++ js) v ∧ Good (h ++ js) ∧ (v.lt h.length = true → js = []) := by
  obtain ⟨⟨v, h', ws⟩, e1, r1, k1, rfl⟩ := e h hg hi
  obtain ⟨js, rfl⟩ := k1.behind
  have hG := k1.2.2 hg
  have body : ∀ {q : AV × AHeap × List Nat}, q = (v, h ++ js, []) → (∃ w js', some (trimR h.length q) = some (w, h ++ js', []) ∧ R (h ++ js') w ∧ Good (h ++ js') ∧ (w.lt h.length = true → js' = [])) := by
    rintro q rfl
    cases hv : v.lt h.length with
    | false => exact ⟨v, js, by rw [big_trim hv], r1, hG, by rw [hv]; simp⟩
    | true => exact ⟨v, [], by rw [trim_of rfl hv (by simp) hg, List.append_nil], by rw [List.append_nil]; exact down _ _ _ hv r1, by rw [List.append_nil]; exact hg, fun _ => rfl⟩
  cases h0 : AV.lts 0 args with
  | false =>
    rw [W_body (hp h) hm h0 e1, ht, if_pos rfl]
    exact body rfl
  | true =>
    obtain ⟨⟨v2, h2, ws2⟩, e2, r2, k2, rfl⟩ := e C.gl hg0 (hi0 h0)
    obtain ⟨j2, rfl⟩ := k2.behind
    cases h3 : v2.lt 0 with
    | false =>
      rw [W_made (hp h) hm h0 e2 h3 e1, ht, if_pos rfl]
      exact body rfl
    | true =>
      refine ⟨v2, [], ?_, ?_, by rw [List.append_nil]; exact hg, fun _ => rfl⟩
      · rw [List.append_nil]; exact W_pure hp hm h0 h3 e2 h
      · have a1 : R ([] ++ (C.gl ++ j2)) v2 := r2
        have a2 : R [] v2 := down [] _ _ h3 a1
        have := up [] h _ a2
        rw [List.append_nil]; exact this
-- ------------------------------------------------------------------ numbers
def Dig (L : List Int) : Prop := ∀ d ∈ L, 0 ≤ d ∧ d < 65536
/-- The number. -/
def val : List Int → Int
  | [] => 0
  | d :: t => d + 65536 * val t
theorem val_nil : val [] = 0 := rfl
theorem val_snoc (L : List Int) (d : Int) : val (L ++ [d]) = val L + d * 65536 ^ L.length := by
  induction L with
  | nil => simp [val]
  | cons a t ih =>
    simp only [List.cons_append, val, ih, List.length_cons, Int.pow_succ]
    grind
theorem val_bound : ∀ {L : List Int}, Dig L → 0 ≤ val L ∧ val L < 65536 ^ L.length
  | [], _ => by simp [val]
  | d :: t, h => by
    have h1 := val_bound (L := t) fun z hz => h z (List.mem_cons_of_mem _ hz)
    have h2 := h d (List.mem_cons_self ..)
    rw [List.length_cons, Int.pow_succ]
    simp only [val]
    omega
def datL (L : List Int) (i : Nat) : Int := (L[i]?).getD 0
theorem datL_lt {L : List Int} {i : Nat} {d : Int} (h : L[i]? = some d) : datL L i = d := by simp [datL, h]
theorem datL_ge {L : List Int} {i : Nat} (h : L.length ≤ i) : datL L i = 0 := by simp [datL, h]
theorem datL_in {L : List Int} (h : Dig L) (i : Nat) : 0 ≤ datL L i ∧ datL L i < 65536 := by
  unfold datL
  cases e : L[i]? with
  | none => simp
  | some d => exact h d (List.mem_of_getElem? e)
theorem val_take (L : List Int) (i : Nat) : val (L.take (i + 1)) = val (L.take i) + datL L i * 65536 ^ i := by
  by_cases h : i < L.length
  · have e : L[i]? = some L[i] := List.getElem?_eq_getElem h
    rw [List.take_add_one, e, datL_lt e]
    have := val_snoc (L.take i) L[i]
    rw [List.length_take, Nat.min_eq_left (by omega)] at this
    exact this
  · rw [datL_ge (by omega), List.take_of_length_le (by omega), List.take_of_length_le (by omega)]
    simp
theorem val_all (L : List Int) {i : Nat} (h : L.length ≤ i) : val (L.take i) = val L := by rw [List.take_of_length_le h]
theorem Dig.take {L : List Int} (h : Dig L) (i : Nat) : Dig (L.take i) := fun d hd => h d (List.mem_of_mem_take hd)
theorem Dig.app {L K : List Int} (h : Dig L) (k : Dig K) : Dig (L ++ K) := fun d hd => (List.mem_append.1 hd).elim (h d) (k d)
theorem Dig.one {d : Int} (h0 : 0 ≤ d) (h1 : d < 65536) : Dig [d] := fun x hx => by simp only [List.mem_singleton] at hx; subst hx; exact ⟨h0, h1⟩
theorem Dig.nil : Dig [] := fun d hd => by simp at hd
/-- No zero at the end. -/
def Can (L : List Int) : Prop := ∀ d, L.getLast? = some d → d ≠ 0
theorem val_low {L : List Int} (h : Dig L) (hc : Can L) (hn : L ≠ []) : 65536 ^ (L.length - 1) ≤ val L := by
  obtain ⟨M, d, rfl⟩ : ∃ M d, L = M ++ [d] := ⟨L.dropLast, L.getLast hn, (List.dropLast_concat_getLast hn).symm⟩
  have hd := hc d (by simp)
  have hd2 := h d (by simp)
  have hM := val_bound (L := M) fun z hz => h z (by simp [hz])
  rw [val_snoc, List.length_append, List.length_singleton, Nat.add_sub_cancel]
  have hp : (0 : Int) < 65536 ^ M.length := Int.pow_pos (by decide)
  have : 1 * (65536 : Int) ^ M.length ≤ d * 65536 ^ M.length := Int.mul_le_mul_of_nonneg_right (by omega) (Int.le_of_lt hp)
  omega
theorem pow_le {a b : Nat} (h : a ≤ b) : (65536 : Int) ^ a ≤ 65536 ^ b := by
  obtain ⟨c, rfl⟩ : ∃ c, b = a + c := ⟨b - a, by omega⟩
  rw [Int.pow_add]
  have h1 : (0 : Int) < 65536 ^ a := Int.pow_pos (by decide)
  have h2 : (0 : Int) < 65536 ^ c := Int.pow_pos (by decide)
  have := Int.mul_le_mul_of_nonneg_left (show (1 : Int) ≤ 65536 ^ c by omega) (Int.le_of_lt h1)
  omega
theorem pow_pos' (a : Nat) : (0 : Int) < 65536 ^ a := Int.pow_pos (by decide)
/-- A longer one is greater. -/
theorem val_long {L K : List Int} (h : Dig L) (hc : Can L) (k : Dig K) (hl : K.length < L.length) : val K < val L := by
  have h1 := val_low h hc (by rintro rfl; simp at hl)
  have h2 := val_bound k
  have h3 := pow_le (show K.length ≤ L.length - 1 by omega)
  omega
theorem can_zero {L : List Int} (h : Dig L) (hc : Can L) (hv : val L = 0) : L = [] := by
  by_cases hn : L = []
  · exact hn
  · have := val_low h hc hn
    have := pow_pos' (L.length - 1)
    omega
-- ------------------------------------------------------------------ slices
def BLiv (st : BSt) : Prop := st = .ext ∨ ∃ o, st = .tip o
/-- A slice that says a row of digits. -/
def UV (h : AHeap) (v : AV) (L : List Int) : Prop := Dig L ∧ ((v = .nils ∧ L = []) ∨ ∃ b c st l mn, h[b]? = some ⟨st, .ints .u32 l⟩ ∧ BLiv st ∧ L.length ≤ l.length ∧ l.take L.length = L ∧ ((v = .sl b 0 L.length c ∧ L.length ≤ c) ∨ v = .gsl b 0 L.length 1 mn))
theorem UV.nil (h : AHeap) : UV h .nils [] := ⟨Dig.nil, Or.inl ⟨rfl, rfl⟩⟩
theorem UV.len {h : AHeap} {v : AV} {L : List Int} (u : UV h v L) : slen v = some L.length := by
  obtain ⟨_, ⟨rfl, rfl⟩ | ⟨b, c, st, l, mn, _, _, _, _, ⟨rfl, _⟩ | rfl⟩⟩ := u <;> rfl
theorem UV.na {h : AHeap} {v : AV} {L : List Int} (u : UV h v L) : noAny (some v) = some v := na_slen u.len
theorem UV.cell {h : AHeap} {v : AV} {L : List Int} (u : UV h v L) : v.isCell = true := by
  obtain ⟨_, ⟨rfl, rfl⟩ | ⟨b, c, st, l, mn, _, _, _, _, ⟨rfl, _⟩ | rfl⟩⟩ := u <;> rfl
theorem UV.keep {h h' : AHeap} {v : AV} {L : List Int} (u : UV h v L) (hm : ∀ (q : Nat) (z : ABlk), h[q]? = some z → h'[q]? = some z) : UV h' v L := by
  obtain ⟨hD, k | ⟨b, c, st, l, mn, e, r⟩⟩ := u
  · exact ⟨hD, Or.inl k⟩
  · exact ⟨hD, Or.inr ⟨b, c, st, l, mn, hm _ _ e, r⟩⟩
theorem UV.app {h : AHeap} {v : AV} {L : List Int} (u : UV h v L) (js : AHeap) : UV (h ++ js) v L := u.keep fun q z e => by rw [List.getElem?_append_left (List.getElem?_eq_some_iff.1 e).1]; exact e
theorem UV.down {h js : AHeap} {v : AV} {L : List Int} (u : UV (h ++ js) v L) (hv : v.lt h.length = true) : UV h v L := by
  obtain ⟨hD, k | ⟨b, c, st, l, mn, e, r1, r2, r3, r4⟩⟩ := u
  · exact ⟨hD, Or.inl k⟩
  · have hb : b < h.length := by
      rcases r4 with ⟨rfl, _⟩ | rfl <;> simpa [AV.lt] using hv
    rw [List.getElem?_append_left hb] at e
    exact ⟨hD, Or.inr ⟨b, c, st, l, mn, e, r1, r2, r3, r4⟩⟩
theorem UV.gl {h g : AHeap} {v : AV} {L : List Int} (u : UV h v L) (h0 : v.lt 0 = true) : UV g v L := by
  have a : UV ([] ++ h) v L := u
  exact (a.down (h := []) h0).app g
/-- The address of an element; a load; a cut. -/
def uia (e : Nat) (h : AHeap) (i : Nat) : Option AV → Option (AV × AHeap × List Nat)
  | some (.sl b o n _) => if i < n then some (.ptr b (o + i * e), h, []) else none
  | some (.gsl b o n e' _) => if e' = e ∧ i < n then some (.ptr b (o + i * e), h, []) else none
  | _ => none
theorem uia_eq (call : CallT) (e i : Nat) (y : MX) (a : Acts) (h : AHeap) : aop call (.ia none e (.t i) y) a h = (aeval a y).bind fun v => (asN v).bind fun n => uia e h n (look a i) := by
  simp only [aop]
  cases hy : aeval a y with
  | none => rw [aeval]; cases look a i with
    | none => rfl
    | some v => cases v <;> rfl
  | some w =>
    simp only [Option.bind_some]
    cases hn : asN w with
    | none => rw [aeval]; cases look a i with
      | none => rfl
      | some v => cases v <;> rfl
    | some n =>
      rw [aeval]
      cases look a i with
      | none => rfl
      | some v => cases v <;> rfl
def uld (agg : Option Nat) (h : AHeap) : Option AV → Option (AV × AHeap × List Nat)
  | some (.ptr b off) => (cellsAt h b).bind fun c => (loadA c off agg).map fun v => (v, h, [])
  | _ => none
theorem uld_eq (i : Nat) (call : CallT) (agg : Option Nat) (a : Acts) (h : AHeap) : aop call (.ld agg (.t i)) a h = uld agg h (look a i) := by
  simp only [aop, aeval]
  cases look a i with
  | none => rfl
  | some v => cases v <;> rfl
def ucut (h : AHeap) (hi : Nat) : Option AV → Option (AV × AHeap × List Nat)
  | some .nils => (bounds 0 0 none (some hi)).bind fun _ => some (.nils, h, [])
  | some (.sl b o n c) => (bounds n c none (some hi)).map fun (l, u) => (.sl b (o + l) (u - l) (c - l), h, [])
  | some (.gsl b o n e mn) => if e = 1 then (bounds n n none (some hi)).map fun (l, u) => (.gsl b (o + l) (u - l) e mn, h, []) else none
  | _ => none
theorem ucut_eq (call : CallT) (i : Nat) (y : MX) (a : Acts) (h : AHeap) : aop call (.slc none 1 (.t i) none (some y) none) a h = (aeval a y).bind fun v => (asN v).bind fun n => ucut h n (look a i) := by
  simp only [aop, optN]
  cases hy : aeval a y with
  | none => rw [aeval]; cases look a i with
    | none => rfl
    | some v => cases v <;> rfl
  | some w =>
    simp only [Option.bind_some]
    cases hn : asN w with
    | none => rw [aeval]; cases look a i with
      | none => rfl
      | some v => cases v <;> rfl
    | some n =>
      rw [aeval]
      cases look a i with
      | none => rfl
      | some v =>
        cases v <;> try rfl
        all_goals simp only [Option.bind_some, ucut, Option.map_some, Option.getD_none, Nat.mul_one]
/-- What element i is. -/
theorem UV.at {h : AHeap} {v : AV} {L : List Int} (u : UV h v L) {i : Nat} {d : Int} (hd : L[i]? = some d) : ∃ b, (∀ g, uia 1 g i (some v) = some (.ptr b i, g, [])) ∧ uld none h (some (.ptr b i)) = some (.int .u32 d, h, []) ∧ b < h.length := by
  obtain ⟨hi, _⟩ := List.getElem?_eq_some_iff.1 hd
  obtain ⟨hD, ⟨_, k⟩ | ⟨b, c, st, l, mn, e, hs, hl, ht, hv⟩⟩ := u
  · rw [k] at hd; simp at hd
  · refine ⟨b, fun g => ?_, ?_, (List.getElem?_eq_some_iff.1 e).1⟩
    · rcases hv with ⟨rfl, _⟩ | rfl
      · simp [uia, hi]
      · simp [uia, hi]
    · have hc : cellsAt h b = some (.ints .u32 l) := by
        rcases hs with rfl | ⟨o, rfl⟩ <;> simp [cellsAt, e]
      have hli : l[i]? = some d := by
        rw [← ht, List.getElem?_take, if_pos hi] at hd
        exact hd
      simp only [uld, hc, Option.bind_some, loadA, ACells.get?, hli, Option.map_some]
theorem UV.shape {h : AHeap} {v : AV} {L : List Int} (u : UV h v L) : v = .nils ∨ (∃ b n c, v = .sl b 0 n c) ∨ ∃ b n mn, v = .gsl b 0 n 1 mn := by
  obtain ⟨_, ⟨rfl, rfl⟩ | ⟨b, c, st, l, mn, _, _, _, _, ⟨rfl, _⟩ | rfl⟩⟩ := u
  · exact Or.inl rfl
  · exact Or.inr (Or.inl ⟨_, _, _, rfl⟩)
  · exact Or.inr (Or.inr ⟨_, _, _, rfl⟩)
/-- What element i is, and its block. -/
theorem UV.at' {h : AHeap} {v : AV} {L : List Int} (u : UV h v L) {i : Nat} {d : Int} (hd : L[i]? = some d) : ∃ b c, (∀ g, uia 1 g i (some v) = some (.ptr b i, g, [])) ∧ uld none h (some (.ptr b i)) = some (.int .u32 d, h, []) ∧ b < h.length ∧ (h[b]? = some ⟨.ext, c⟩ ∨ ∃ o, h[b]? = some ⟨.tip o, c⟩) := by
  obtain ⟨b, e1, e2, e3⟩ := u.at hd
  obtain ⟨hi, _⟩ := List.getElem?_eq_some_iff.1 hd
  obtain ⟨hD, ⟨_, k⟩ | ⟨b', c, st, l, mn, e, hs, hl, ht, hv⟩⟩ := u
  · rw [k] at hd; simp at hd
  · have hbb : b' = b := by
      have := e1 []
      rcases hv with ⟨rfl, _⟩ | rfl <;> simp [uia, hi] at this <;> exact this
    subst hbb
    refine ⟨b', .ints .u32 l, e1, e2, e3, ?_⟩
    rcases hs with rfl | ⟨o, rfl⟩
    · exact Or.inl e
    · exact Or.inr ⟨o, e⟩
/-- A cut. -/
theorem UV.cut {h : AHeap} {v : AV} {L : List Int} (u : UV h v L) {k : Nat} (hk : k ≤ L.length) : ∃ w, (∀ g, ucut g k (some v) = some (w, g, [])) ∧ UV h w (L.take k) ∧ ∀ n, v.lt n = true → w.lt n = true := by
  have hl' : (L.take k).length = k := by rw [List.length_take]; omega
  obtain ⟨hD, ⟨rfl, rfl⟩ | ⟨b, c, st, l, mn, e, hs, hl, ht, hv⟩⟩ := u
  · obtain rfl : k = 0 := by simpa using hk
    exact ⟨.nils, fun g => rfl, UV.nil h, fun n h => h⟩
  · have ht2 : l.take (L.take k).length = L.take k := by
      rw [hl']
      conv => rhs; rw [← ht]
      rw [List.take_take, Nat.min_eq_left hk]
    rcases hv with ⟨rfl, hc⟩ | rfl
    · refine ⟨.sl b 0 k c, fun g => ?_, ⟨hD.take k, Or.inr ⟨b, c, st, l, mn, e, hs, by omega, ht2, Or.inl ⟨by rw [hl'], by omega⟩⟩⟩, fun n h => by simpa [AV.lt] using h⟩
      simp only [ucut, bounds, Option.getD_some, Option.getD_none]
      rw [if_pos ⟨by omega, by omega⟩]; rfl
    · refine ⟨.gsl b 0 k 1 mn, fun g => ?_, ⟨hD.take k, Or.inr ⟨b, c, st, l, mn, e, hs, by omega, ht2, Or.inr (by rw [hl'])⟩⟩, fun n h => by simpa [AV.lt] using h⟩
      simp only [ucut, bounds, Option.getD_some, Option.getD_none, if_true]
      rw [if_pos ⟨hk, by omega⟩]; rfl
/-- A row that append may make longer: nil, or a whole block behind n. -/
def T4 (h : AHeap) (v : AV) (L : List Int) (n : Nat) : Prop := (v = .nils ∧ L = []) ∨ ∃ p, n ≤ p ∧ ((v = .sl p 0 L.length L.length ∧ h[p]? = some ⟨.tip false, .ints .u32 L⟩) ∨ (∃ o mn, v = .gsl p 0 L.length 1 mn ∧ h[p]? = some ⟨.tip o, .ints .u32 L⟩))
theorem T4.uv {h : AHeap} {v : AV} {L : List Int} {n : Nat} (t : T4 h v L n) (hD : Dig L) : UV h v L := by
  rcases t with k | ⟨p, _, ⟨e, hp⟩ | ⟨o, mn, e, hp⟩⟩
  · exact ⟨hD, Or.inl k⟩
  · exact ⟨hD, Or.inr ⟨p, L.length, _, L, false, hp, Or.inr ⟨_, rfl⟩, Nat.le_refl _, List.take_length, Or.inl ⟨e, Nat.le_refl _⟩⟩⟩
  · exact ⟨hD, Or.inr ⟨p, 0, _, L, mn, hp, Or.inr ⟨_, rfl⟩, Nat.le_refl _, List.take_length, Or.inr e⟩⟩
def blkU : AV → Option Nat
  | .gsl p _ _ _ _ => some p
  | .sl p _ _ _ => some p
  | _ => none
theorem T4.blk {h : AHeap} {v : AV} {L : List Int} {n : Nat} (t : T4 h v L n) : ∀ q, blkU v = some q → n ≤ q := by
  intro q hq
  rcases t with ⟨rfl, _⟩ | ⟨p, hp, ⟨rfl, _⟩ | ⟨o, mn, rfl, _⟩⟩ <;> cases hq <;> exact hp
theorem T4.keep {h h' : AHeap} {v : AV} {L : List Int} {n : Nat} (t : T4 h v L n) (hm : ∀ (q : Nat) (z : ABlk), h[q]? = some z → h'[q]? = some z) : T4 h' v L n := by
  rcases t with k | ⟨p, h0, ⟨e, hp⟩ | ⟨o, mn, e, hp⟩⟩
  · exact Or.inl k
  · exact Or.inr ⟨p, h0, Or.inl ⟨e, hm _ _ hp⟩⟩
  · exact Or.inr ⟨p, h0, Or.inr ⟨o, mn, e, hm _ _ hp⟩⟩
theorem room4 {n : Nat} (h : n < 1000000) : room n 4 = true := by
  simp only [room, decide_eq_true_eq]
  omega
theorem sl4_cells {h : AHeap} {b : Nat} {l : List Int} {o : Bool} {c : Nat} (hq : h[b]? = some ⟨.tip o, .ints .u32 l⟩) : sliceCells h 1 (.sl b 0 l.length c) = some (.ints .u32 l) := by
  simp [sliceCells, cellsAt, hq, ACells.len, ACells.sub]
/-- Digits are appended. -/
theorem app4 {H : AHeap} {v : AV} {L B : List Int} {m n : Nat} (hv : T4 H v L n) (hm : B.length = m) (hl : L.length + m < 1000000) (hn : n ≤ H.length) :
    ∃ v' H' ws, aappend H (.ints .u32 [0]) 4 v (.ints .u32 B) m = some (v', H', ws) ∧ T4 H' v' (L ++ B) n ∧ (∀ b ∈ ws, n ≤ b) ∧ Keeps H H' (blkU v) := by
  rcases hv with ⟨rfl, rfl⟩ | ⟨p, hp, ⟨rfl, e⟩ | ⟨o, mn, rfl, e⟩⟩
  · by_cases h0 : m = 0
    · subst h0
      obtain rfl : B = [] := List.length_eq_zero_iff.1 hm
      exact ⟨.nils, H, [], rfl, Or.inl ⟨rfl, rfl⟩, by simp, Keeps.refl _ _⟩
    · refine ⟨.gsl H.length 0 m 1 false, H ++ [⟨.tip false, .ints .u32 B⟩], [], ?_, Or.inr ⟨H.length, hn, Or.inr ⟨false, false, by simp [hm], by simp⟩⟩, by simp, Keeps.app _ _ _ rfl⟩
      simp only [aappend, if_neg h0]
      rw [room4 (by simp at hl; omega)]
      rfl
  · by_cases h0 : m = 0
    · subst h0
      obtain rfl : B = [] := List.length_eq_zero_iff.1 hm
      refine ⟨.sl p 0 L.length L.length, H, [p], ?_, Or.inr ⟨p, hp, Or.inl ⟨by rw [List.append_nil], by rw [List.append_nil]; exact e⟩⟩, by simpa using hp, Keeps.refl _ _⟩
      simp only [aappend, Nat.add_zero, Nat.le_refl, if_true, change, e, ACells.list, List.map_nil, storeL, Option.map_some, Bool.false_eq_true, if_false]
      have : H.set p ⟨.tip false, .ints .u32 L⟩ = H := List.ext_getElem? fun i => by
        by_cases hi : p = i
        · subst hi; rw [List.getElem?_set_self (List.getElem?_eq_some_iff.1 e).1, e]
        · rw [List.getElem?_set_ne hi]
      rw [this]
    · have hs : sliceCells H 1 (.sl p 0 L.length L.length) = some (.ints .u32 L) := sl4_cells e
      have hle : ¬ L.length + m ≤ L.length := by omega
      refine ⟨.gsl H.length 0 (L.length + m) 1 false, H ++ [⟨.tip false, .ints .u32 (L ++ B)⟩], [], ?_, Or.inr ⟨H.length, hn, Or.inr ⟨false, false, by rw [List.length_append, hm], by simp⟩⟩, by simp, Keeps.app _ _ _ rfl⟩
      simp only [aappend, if_neg hle, ACells.len, List.length_cons, List.length_nil, Nat.zero_add]
      rw [hs]
      simp only [Option.bind_some, ACells.app, if_true, room4 hl]
  · have hpl := (List.getElem?_eq_some_iff.1 e).1
    refine ⟨.gsl H.length 0 (L.length + m) 1 mn, ((if o then reTip p H.length H else H).set p ⟨.old H.length, .ints .u32 L⟩) ++ [⟨.tip true, .ints .u32 (L ++ B)⟩], [p], ?_, Or.inr ⟨H.length, hn, Or.inr ⟨true, mn, by rw [List.length_append, hm], ?_⟩⟩, by simpa using hp, ?_⟩
    · simp only [aappend, ACells.len, List.length_cons, List.length_nil, e]
      simp only [Nat.zero_add, Nat.mul_one, if_true]
      simp only [ACells.sub, List.drop_zero, Nat.mul_one, List.take_length, ACells.app, if_true, Option.bind_some]
      rw [room4 hl]
      simp
    · rw [List.getElem?_append_right (by cases o <;> simp [len_reTip])]
      cases o <;> simp [len_reTip]
    · refine ⟨fun q x hq hx hne => ?_, by cases o <;> simp [len_reTip], fun hg => ?_⟩
      · have hpq : p ≠ q := fun e => hne (by rw [e]; rfl)
        rw [List.getElem?_append_left (by cases o <;> simp [len_reTip] <;> exact (List.getElem?_eq_some_iff.1 hq).1), List.getElem?_set_ne hpq]
        cases o
        · exact hq
        · exact reTip_keeps hq (hx p rfl)
      · cases o
        · exact good_set_old (y := ⟨.tip true, .ints .u32 (L ++ B)⟩) hg hpl
        · exact good_reTip (y := ⟨.tip true, .ints .u32 (L ++ B)⟩) hg hpl
theorem new4 {H : AHeap} (d : Int) : newCells (H ++ [⟨.tip false, .ints .u32 [d]⟩]) (.ints .u32 [0]) (.sl H.length 0 1 1) = some (.ints .u32 [d]) := by
  have hq : (H ++ [(⟨.tip false, .ints .u32 [d]⟩ : ABlk)])[H.length]? = some ⟨.tip false, .ints .u32 [d]⟩ := by simp
  simp [newCells, sliceCells, cellsAt, hq, ACells.len, ACells.sub]
theorem UV.new {h : AHeap} {v : AV} {L : List Int} (u : UV h v L) : newCells h (.ints .u32 [0]) v = some (.ints .u32 L) := by
  obtain ⟨hD, ⟨rfl, rfl⟩ | ⟨b, c, st, l, mn, e, hs, hl, ht, hv⟩⟩ := u
  · rfl
  · have hc : cellsAt h b = some (.ints .u32 l) := by
      rcases hs with rfl | ⟨o, rfl⟩ <;> simp [cellsAt, e]
    rcases hv with ⟨rfl, _⟩ | rfl
    · simp [newCells, sliceCells, hc, ACells.len, ACells.sub, hl, ht]
    · simp [newCells, sliceCells, hc, ACells.len, ACells.sub, hl, ht]
theorem W_bothB {C : Cfg} {f : Nat} {m : MFunc} {args : List AV} {v : AV} (I : AHeap → Prop) (hp : ∀ h, C.prim f args h = none) (hm : C.mp f = some m) (ht : m.trim = true) (hv : AV.lt 0 v = true) (hg0 : Good C.gl) (hi0 : AV.lts 0 args = true → I C.gl)
    (e : ∀ g, Good g → I g → Wp (xbody (W C) m args g) (Quiet g v)) {h : AHeap} (hg : Good h) (hi : I h) : W C f args h = some (v, h, []) := by
  cases h0 : AV.lts 0 args with
  | true => exact W_val hp hm h0 hv ((e _ hg0 (hi0 h0)).mono fun r hr => hr.1) h
  | false => exact W_quietP (hp h) hm h0 ht (AV.lt_mono (Nat.zero_le _) _ hv) hg (e h hg hi)
theorem quietB {h : AHeap} {v : AV} : Quiet h v (v, h, []) := ⟨rfl, ⟨[], by simp⟩, rfl⟩
theorem can_of {L : List Int} (h : Dig L) (hv : L ≠ [] → 65536 ^ (L.length - 1) ≤ val L) : Can L := by
  intro d hd hz
  subst hz
  have hn : L ≠ [] := by rintro rfl; simp at hd
  obtain ⟨M, rfl⟩ : ∃ M, L = M ++ [0] := by
    have := List.dropLast_concat_getLast hn
    rw [List.getLast?_eq_some_getLast hn] at hd
    simp only [Option.some.injEq] at hd
    rw [hd] at this
    exact ⟨L.dropLast, this.symm⟩
  have h1 := hv hn
  have h2 := val_bound (L := M) fun z hz => h z (by simp [hz])
  rw [val_snoc, List.length_append, List.length_singleton, Nat.add_sub_cancel] at h1
  omega
theorem can_nil : Can [] := by intro d hd; simp at hd
theorem datL_get {L : List Int} {i : Nat} (h : i < L.length) : L[i]? = some (datL L i) := by
  rw [datL, List.getElem?_eq_getElem h]; rfl
theorem val_drop (L : List Int) (i : Nat) : val L = val (L.take i) + 65536 ^ i * val (L.drop i) := by
  induction L generalizing i with
  | nil => simp [val]
  | cons d t ih =>
    cases i with
    | zero => simp [val]
    | succ i =>
      simp only [List.take_succ_cons, List.drop_succ_cons, val, Int.pow_succ]
      rw [ih i]
      grind
theorem val_cons_drop {L : List Int} {i : Nat} (h : i < L.length) : val (L.drop i) = datL L i + 65536 * val (L.drop (i + 1)) := by
  rw [List.drop_eq_getElem_cons h]
  simp only [val]
  rw [datL_lt (List.getElem?_eq_getElem h)]
theorem Dig.drop {L : List Int} (h : Dig L) (i : Nat) : Dig (L.drop i) := fun d hd => h d (List.mem_of_mem_drop hd)
/-- What an addition of two rows answers. -/
def PlusR (LA LB : List Int) (H : AHeap) (v : AV) : Prop := ∃ L, UV H v L ∧ val L = val LA + val LB ∧ L.length ≤ max LA.length LB.length + 1 ∧ (Can LA → Can LB → Can L)
theorem PlusR.up {LA LB : List Int} (h js : AHeap) (v : AV) (r : PlusR LA LB h v) : PlusR LA LB (h ++ js) v := by
  obtain ⟨L, u, q⟩ := r; exact ⟨L, u.app js, q⟩
theorem PlusR.down {LA LB : List Int} (h js : AHeap) (v : AV) (hv : v.lt h.length = true) (r : PlusR LA LB (h ++ js) v) : PlusR LA LB h v := by
  obtain ⟨L, u, q⟩ := r; exact ⟨L, u.down hv, q⟩
def LessR (LA LB : List Int) (H : AHeap) (v : AV) : Prop := ∃ L, UV H v L ∧ val L = val LA - val LB ∧ L.length = LA.length
theorem LessR.up {LA LB : List Int} (h js : AHeap) (v : AV) (r : LessR LA LB h v) : LessR LA LB (h ++ js) v := by
  obtain ⟨L, u, q⟩ := r; exact ⟨L, u.app js, q⟩
theorem LessR.down {LA LB : List Int} (h js : AHeap) (v : AV) (hv : v.lt h.length = true) (r : LessR LA LB (h ++ js) v) : LessR LA LB h v := by
  obtain ⟨L, u, q⟩ := r; exact ⟨L, u.down hv, q⟩
/-- A sign and a row without zeros at the end. -/
def BigR (m : Bool) (V : Int) (n : Nat) (H : AHeap) (r : AV) : Prop := ∃ v L, r = .agg [.bool m, v] ∧ UV H v L ∧ val L = V ∧ Can L ∧ L.length ≤ n
theorem BigR.up {m : Bool} {V : Int} {n : Nat} (h js : AHeap) (r : AV) (b : BigR m V n h r) : BigR m V n (h ++ js) r := by
  obtain ⟨v, L, e, u, q⟩ := b; exact ⟨v, L, e, u.app js, q⟩
theorem BigR.down {m : Bool} {V : Int} {n : Nat} (h js : AHeap) (r : AV) (hv : r.lt h.length = true) (b : BigR m V n (h ++ js) r) : BigR m V n h r := by
  obtain ⟨v, L, rfl, u, q⟩ := b
  simp only [AV.lt, AV.lts, Bool.and_eq_true] at hv
  exact ⟨v, L, rfl, u.down hv.2.1, q⟩
end Go.Proofs.YtcpiohklljppaaaW.AI

import Derived.Test.YtimlhgpjmjmjhaaAIBrows6
import Derived.Test.YtimlhgpjmjmjhaaAIComp
namespace Go.Proofs.YtimlhgpjmjmjhaaW.AI.B
open Go Go.Proofs.YtimlhgpjmjmjhaaW.AI Go.Proofs.YtimlhgpjmjmjhaaW.AI.Oct Go.RowKit
set_option maxRecDepth 100000
set_option linter.unusedSimpArgs false
set_option linter.unusedVariables false
set_option linter.unusedSectionVars false
theorem acall_lift {C D : Cfg} (hm : D.mp = C.mp) (hg : D.gl = C.gl) (h1 : ∀ f vs h r, C.prim f vs h = some r → D.prim f vs h = some r) (h2 : ∀ f vs h, C.prim f vs h = none → C.mp f ≠ none → D.prim f vs h = none) : ∀ n, Sub (acall C n) (acall D n)
  | 0 => fun f vs h r e => by cases e
  | n + 1 => fun f vs h r e => by
    have ih := acall_lift hm hg h1 h2 n
    rw [acall] at e ⊢
    split at e
    · rename_i q hq
      rw [h1 _ _ _ _ hq]
      exact e
    · rename_i hq
      split at e
      · cases e
      · rename_i m hfm
        rw [h2 _ _ _ hq (by rw [hfm]; simp), hm, hg]
        simp only [hfm]
        split at e
        · rename_i hl
          simp only [hl, if_true, Option.bind_eq_some_iff] at e ⊢
          obtain ⟨⟨v, h', ws⟩, h1, h2⟩ := e
          refine ⟨⟨v, h', ws⟩, abody_sub ih (by omega) h1, ?_⟩
          simp only at h2 ⊢
          split at h2
          · rename_i hv; rw [if_pos hv]; exact h2
          · rename_i hv
            rw [if_neg hv]
            simp only [Option.map_eq_some_iff] at h2 ⊢
            obtain ⟨x, h3, h4⟩ := h2
            exact ⟨x, abody_sub ih (by omega) h3, h4⟩
        · rename_i hl
          rw [if_neg hl]
          simp only [Option.map_eq_some_iff] at e ⊢
          obtain ⟨x, h3, h4⟩ := e
          exact ⟨x, abody_sub ih (by omega) h3, h4⟩
/-- octet's functions, and bytealg.Compare. -/
def primQ (f : Nat) (xs : List AV) (h : AHeap) : Option (Option (AV × AHeap × List Nat)) :=
  if f = 76 then match xs with
    | [x, y] => some (match byteL h x, byteL h y with
      | some l, some m => some (.int .i64 (cmpV l m), h, [])
      | _, _ => none)
    | _ => some none
  else prim f xs h
def CQ : Cfg := { mp := MP, gl := [], prim := primQ }
theorem primOkQ : PrimOkX X CQ := by
  refine ⟨fun f vs h r hr => ?_, fun B ρg f vs h r hr => ?_⟩
  · simp only [CQ, primQ] at hr
    split at hr
    · split at hr
      · simp only [Option.some.injEq] at hr
        split at hr
        · cases hr; exact Steady.refl _ _
        · cases hr
      · cases hr
    · exact prim_steady _ _ _ _ hr
  · simp only [CQ, primQ] at hr
    split at hr
    · rename_i hf
      subst hf
      refine Or.inr fun ρ w xs hst hl hrs => ?_
      split at hr
      case h_2 => cases hr
      rename_i x y
      simp only [Option.some.injEq] at hr
      split at hr
      case h_2 => cases hr
      rename_i l m hx hy
      cases hr
      obtain ⟨xl⟩ := xs
      simp only [Rs] at hrs
      obtain ⟨v, _, rfl, h1, u, _, rfl, h2, rfl⟩ := hrs
      refine ⟨.int .i64 (cmpV l m), w, ?_, ?_⟩
      · rw [run_callFunc_extern (P := X.P) (e := Extern.BytealgCompare.compare) Go.Proofs.Try.func76 (by kernel_rfl) (by kernel_rfl) (by kernel_rfl) (by kernel_rfl), run_compare hst.rep hx hy h1 h2]
        rfl
      · exact post_float hst rfl (by simp only [R])
    · exact Or.inl (prim_sound _ _ _ _ hr)
theorem law_walkX {f n : Nat} (hne : ∀ vs h, CQ.prim f vs h = none) {aks : List AK} (hlaw : ∀ (js : AHeap) (avs : List AV), Ext js → TyA (CQ.gl ++ js) aks avs → ∃ h' ws, W CQ f avs (CQ.gl ++ js) = some (.bool true, h', ws)) {ts : List TypeId} (hk : aksOf X.P n ts = some aks)
    {H : Type} {enc : TypeId × Value → H} {w : World} {base : Nat} {args : Array Value} {ds : List (DataW H)} {ps : List MemPlace}
    (ht : DataW.TrodAll enc Go.Proofs.Try.prog w 0 (fun _ => true) true ts args.toList ds ps) (hw : ∀ (j : Nat) t v, ts[j]? = some t → args.toList[j]? = some v → Value.okWide Go.Proofs.Try.prog w .any base t v) :
    Calls Go.Proofs.Try.prog f args w fun e w' => e = .returned (.bool true) ∧ Below w.heap.size w w' :=
  calls_lawX (X := X) CQ follows rfl rfl mp_chk primOkQ hne hlaw hk ht hw
theorem mp76 : CP.mp 76 = none := rfl
theorem lift {f : Nat} {args : List AV} {h : AHeap} {r : AV × AHeap × List Nat} (e : W CP f args h = some r) : W CQ f args h = some r := by
  obtain ⟨n, e⟩ := W_eq.1 e
  refine W_eq.2 ⟨n, acall_lift (C := CP) (D := CQ) rfl rfl (fun f vs h r hr => ?_) (fun f vs h hr hm => ?_) n _ _ _ _ e⟩
  · show primQ f vs h = some r
    unfold primQ
    by_cases hf : f = 76
    · subst hf
      have : CP.prim 76 vs h = none := rfl
      rw [this] at hr
      cases hr
    · rw [if_neg hf]; exact hr
  · show primQ f vs h = none
    unfold primQ
    by_cases hf : f = 76
    · subst hf
      exact absurd mp76 hm
    · rw [if_neg hf]; exact hr
theorem BV.byteL {h : AHeap} {x : AV} {D : List Int} (s : BV h x D) : Go.Proofs.YtimlhgpjmjmjhaaW.AI.byteL h x = some D := by
  have hn := s.new
  rcases s.bytAt with ⟨rfl, rfl⟩ | hb
  · rfl
  · have := hb.2.1
    unfold Go.Proofs.YtimlhgpjmjmjhaaW.AI.byteL
    split
    · simp [sliceCells] at this
    · rw [this]
-- ------------------------------------------------------------------ the order of bytes
theorem bsA_get {l : List Int} {i : Nat} {d : Int} (h : l[i]? = some d) : (bsA l)[i]! = d.toNat.toUInt8 := by
  obtain ⟨hi, hd⟩ := List.getElem?_eq_some_iff.1 h
  have hs : i < (bsA l).size := by simpa [bsA, ByteArray.size] using hi
  rw [getElem!_pos (bsA l) i hs]
  simp [bsA, ByteArray.getElem_eq_getElem_data, hd]
theorem bsA_size (l : List Int) : (bsA l).size = l.length := by simp [bsA, ByteArray.size]
theorem u8_ne {a b : Int} (a0 : 0 ≤ a) (a1 : a < 256) (b0 : 0 ≤ b) (b1 : b < 256) : (a.toNat.toUInt8 = b.toNat.toUInt8 ↔ a = b) ∧ (a.toNat.toUInt8 < b.toNat.toUInt8 ↔ a < b) := by
  have e : ∀ x : Int, 0 ≤ x → x < 256 → x.toNat.toUInt8.toNat = x.toNat := fun x h0 h1 => by
    show (UInt8.ofNat x.toNat).toNat = x.toNat
    rw [UInt8.toNat_ofNat']; omega
  constructor
  · constructor
    · intro h
      have := congrArg UInt8.toNat h
      rw [e a a0 a1, e b b0 b1] at this
      omega
    · rintro rfl; rfl
  · rw [UInt8.lt_iff_toNat_lt, e a a0 a1, e b b0 b1]
    omega
theorem cmp_same (l : List Int) : cmpV l l = 0 := by
  unfold cmpV Extern.BytealgCompare.cmp
  have : (List.range (min (bsA l).size (bsA l).size)).find? (fun i => (bsA l)[i]! != (bsA l)[i]!) = none := by
    rw [List.find?_eq_none]
    intro i _
    simp
  rw [this]
  simp
theorem cmp_diff {l m : List Int} (hl : Byt l) (hm : Byt m) (hlen : l.length = m.length) {i : Nat} {a b : Int} (ha : l[i]? = some a) (hb : m[i]? = some b) (hne : a ≠ b) (he : ∀ j, j < i → l[j]? = m[j]?) : cmpV l m = if a < b then -1 else 1 := by
  have hi := (List.getElem?_eq_some_iff.1 ha).1
  have ra := hl a (List.mem_of_getElem? ha)
  have rb := hm b (List.mem_of_getElem? hb)
  obtain ⟨u1, u2⟩ := u8_ne ra.1 ra.2 rb.1 rb.2
  unfold cmpV Extern.BytealgCompare.cmp
  have hf : (List.range (min (bsA l).size (bsA m).size)).find? (fun i => (bsA l)[i]! != (bsA m)[i]!) = some i := by
    rw [List.find?_range_eq_some]
    refine ⟨?_, ?_, fun j hj => ?_⟩
    · rw [bsA_get ha, bsA_get hb]
      simp only [bne_iff_ne, ne_eq, u1]
      exact hne
    · rw [List.mem_range, bsA_size, bsA_size]; omega
    · obtain ⟨d, hd⟩ : ∃ d, l[j]? = some d := ⟨_, List.getElem?_eq_getElem (by omega)⟩
      have hd2 : m[j]? = some d := by rw [← he j hj]; exact hd
      rw [bsA_get hd, bsA_get hd2]
      simp
  rw [hf]
  simp only
  rw [bsA_get ha, bsA_get hb]
  by_cases c : a < b
  · rw [if_pos (u2.2 c), if_pos c]
  · rw [if_neg (fun h => c (u2.1 h)), if_neg c]
theorem dg_get {s : Nat} {v : Int} {i : Nat} (h : i < s) : (dg s v)[i]? = some (v / 256 ^ (s - 1 - i) % 256) := by
  unfold dg
  simp [h]
/-- The first digit that differs. -/
theorem dg_first {s : Nat} {a b : Int} (a0 : 0 ≤ a) (a1 : a < 256 ^ s) (b0 : 0 ≤ b) (b1 : b < 256 ^ s) (hne : a ≠ b) : ∃ (i : Nat) (x y : Int), (dg s a)[i]? = some x ∧ (dg s b)[i]? = some y ∧ x ≠ y ∧ (x < y ↔ a < b) ∧ ∀ j, j < i → (dg s a)[j]? = (dg s b)[j]? := by
  have pos : ∀ j : Nat, (0 : Int) < 256 ^ j := fun j => Int.pow_pos (by decide)
  have step : ∀ (v : Int) (j : Nat), j < s → v / 256 ^ (s - (j + 1)) = v / 256 ^ (s - j) * 256 + v / 256 ^ (s - 1 - j) % 256 := by
    intro v j hj
    have e : (256 : Int) ^ (s - j) = 256 ^ (s - (j + 1)) * 256 := by rw [← Int.pow_succ]; congr 1; omega
    rw [show s - 1 - j = s - (j + 1) by omega, e, ← Int.ediv_ediv_of_nonneg (Int.le_of_lt (pos _))]
    obtain ⟨z, hz⟩ : ∃ z, v / 256 ^ (s - (j + 1)) = z := ⟨_, rfl⟩
    rw [hz]
    omega
  have key : ∀ j : Nat, j ≤ s → a / 256 ^ (s - j) = b / 256 ^ (s - j) ∨ ∃ (i : Nat) (x y : Int), i < j ∧ (dg s a)[i]? = some x ∧ (dg s b)[i]? = some y ∧ x ≠ y ∧ (x < y ↔ a < b) ∧ ∀ k, k < i → (dg s a)[k]? = (dg s b)[k]? := by
    intro j
    induction j with
    | zero =>
      intro _
      left
      rw [Nat.sub_zero, Int.ediv_eq_zero_of_lt a0 a1, Int.ediv_eq_zero_of_lt b0 b1]
    | succ j ih =>
      intro hj
      have ih := ih (by omega)
      have hrec : a / 256 ^ (s - j) = b / 256 ^ (s - j) → ∀ k, k < j → a / 256 ^ (s - 1 - k) % 256 = b / 256 ^ (s - 1 - k) % 256 := by
        intro h k hk
        have e : (256 : Int) ^ (s - 1 - k) = 256 ^ (s - j) * 256 ^ (j - 1 - k) := by rw [← Int.pow_add]; congr 1; omega
        rw [e, ← Int.ediv_ediv_of_nonneg (Int.le_of_lt (pos _)), ← Int.ediv_ediv_of_nonneg (Int.le_of_lt (pos _)), h]
      rcases ih with h | ⟨i, x, y, hi, r⟩
      · by_cases hd : a / 256 ^ (s - 1 - j) % 256 = b / 256 ^ (s - 1 - j) % 256
        · left
          rw [step a j (by omega), step b j (by omega), h, hd]
        · right
          refine ⟨j, _, _, by omega, dg_get (by omega), dg_get (by omega), hd, ?_, fun k hk => ?_⟩
          · have ea := step a j (by omega)
            have eb := step b j (by omega)
            constructor
            · intro hlt
              rcases Int.lt_or_le a b with c | c
              · exact c
              · have := Int.ediv_le_ediv (pos (s - (j + 1))) c
                omega
            · intro hlt
              have := Int.ediv_le_ediv (pos (s - (j + 1))) (Int.le_of_lt hlt)
              omega
          · rw [dg_get (by omega), dg_get (by omega), hrec h k hk]
      · exact Or.inr ⟨i, x, y, by omega, r⟩
  rcases key s (Nat.le_refl _) with h | ⟨i, x, y, _, r⟩
  · rw [Nat.sub_self, Int.pow_zero, Int.ediv_one, Int.ediv_one] at h
    exact absurd h hne
  · exact ⟨i, x, y, r⟩
theorem layB_split : ∀ {Ls : List Nat} {V : List Int} {k s : Nat} {v : Int}, Ls[k]? = some s → V[k]? = some v → ∃ p r, layB Ls V = p ++ dg s v ++ r ∧ ∀ u, layB Ls (V.set k u) = p ++ dg s u ++ r
  | [], V, k, s, v, h, _ => by simp at h
  | a :: Ls, [], k, s, v, _, h => by simp at h
  | a :: Ls, b :: V, 0, s, v, h1, h2 => by
    simp at h1 h2
    subst h1 h2
    exact ⟨[], layB Ls V, by simp [layB], fun u => by simp [layB]⟩
  | a :: Ls, b :: V, k + 1, s, v, h1, h2 => by
    obtain ⟨p, r, e1, e2⟩ := layB_split (Ls := Ls) (V := V) (k := k) (s := s) (v := v) (by simpa using h1) (by simpa using h2)
    exact ⟨dg a b ++ p, r, by simp [layB, e1], fun u => by simp [layB, e2 u]⟩
/-- Rows stand in the order of their numbers. -/
theorem lay_cmp {Ls : List Nat} {V : List Int} {k s : Nat} {a b : Int} (hs : Ls[k]? = some s) (ha : V[k]? = some a) (a0 : 0 ≤ a) (a1 : a < 256 ^ s) (b0 : 0 ≤ b) (b1 : b < 256 ^ s) :
    (cmpV (layB Ls V) (layB Ls (V.set k b)) < 0 ↔ a < b) ∧ (cmpV (layB Ls V) (layB Ls (V.set k b)) = 0 ↔ a = b) := by
  obtain ⟨p, r, e1, e2⟩ := layB_split hs ha
  have B1 := layB_byt Ls V
  have B2 := layB_byt Ls (V.set k b)
  rw [e2 b] at B2 ⊢
  rw [e1] at B1 ⊢
  by_cases hab : a = b
  · subst hab
    rw [cmp_same]
    omega
  · obtain ⟨i, x, y, h1, h2, h3, h4, h5⟩ := dg_first a0 a1 b0 b1 hab
    have hi : i < s := by
      have := (List.getElem?_eq_some_iff.1 h1).1
      rwa [dg_len] at this
    have get : ∀ (v : Int) (j : Nat), j < s → (p ++ dg s v ++ r)[p.length + j]? = (dg s v)[j]? := fun v j hj => by
      rw [List.getElem?_append_left (by simp [dg_len]; omega), List.getElem?_append_right (by omega)]
      congr 1; omega
    have := cmp_diff (i := p.length + i) (a := x) (b := y) B1 B2 (by simp [dg_len]) (by rw [get a i hi]; exact h1) (by rw [get b i hi]; exact h2) h3 fun j hj => by
      by_cases c : j < p.length
      · rw [List.append_assoc, List.append_assoc, List.getElem?_append_left c, List.getElem?_append_left c]
      · obtain ⟨j', rfl⟩ : ∃ j', j = p.length + j' := ⟨j - p.length, by omega⟩
        rw [get a j' (by omega), get b j' (by omega)]
        exact h5 j' (by omega)
    rw [this]
    by_cases c : x < y
    · rw [if_pos c]
      have := h4.1 c
      omega
    · rw [if_neg c]
      have : ¬ a < b := fun h => c (h4.2 h)
      omega
end Go.Proofs.YtimlhgpjmjmjhaaW.AI.B

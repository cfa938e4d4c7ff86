import Derived.Test.YtdpbbagllhfjbaaDoorAIGpkt8
namespace Go.Proofs.YtdpbbagllhfjbaaDoorW.AI.G
open Go Go.Proofs.YtdpbbagllhfjbaaDoorW.AI Go.Proofs.YtdpbbagllhfjbaaDoorW.AI.Oct Go.RowKit
set_option maxRecDepth 100000
set_option linter.unusedSimpArgs false
set_option linter.unusedVariables false
set_option linter.unusedSectionVars false
theorem pgood_gl : Good CP.gl := rfl
theorem pgood_ext {js : AHeap} (h : Ext js) : Good (CP.gl ++ js) := good_app pgood_gl (List.all_eq_true.2 fun x hx => by unfold notOld; rcases h x hx with e | e <;> rw [e])
theorem at0_ext {js : AHeap} (h : Ext js) : At0 (CP.gl ++ js) := at0_gl.app js
theorem law_walkS {f n : Nat} {aks : List AK} (hlaw : ∀ (js : AHeap) (avs : List AV), Ext js → TyA (CP.gl ++ js) aks avs → ∃ h' ws, W CP f avs (CP.gl ++ js) = some (.bool true, h', ws)) {ts : List TypeId} (hk : aksOf X.P n ts = some aks)
    {H : Type} {enc : TypeId × Value → H} {w : World} {base : Nat} {args : Array Value} {ds : List (DataW H)} {ps : List MemPlace} (hl : Laid CP.gl X.gid w)
    (ht : DataW.TrodAll enc Go.Proofs.Tryd.prog w 0 (fun _ => true) true ts args.toList ds ps) (hw : ∀ (j : Nat) t v, ts[j]? = some t → args.toList[j]? = some v → Value.okWide Go.Proofs.Tryd.prog w .any base t v) :
    Calls Go.Proofs.Tryd.prog f args w fun e w' => e = .returned (.bool true) ∧ Below w.heap.size w w' :=
  law_laid (X := X) CP follows rfl mp_chk primOk hlaw hl hk ht hw
theorem i8_in (p : Int) : -128 ≤ IntKind.i8.wrap p ∧ IntKind.i8.wrap p ≤ 127 := by
  simp only [IntKind.wrap, IntKind.bits, IntKind.signed]
  simp
  split <;> omega
/-- What a packet that was read is. -/
theorem parseP_inv {D : List Int} {P : Pk} {F : List (Int × List Int)} (hB : Byt D) (h : parseP D = .ok P F) : D.length ≤ 512 ∧ ∃ v0 v1 v2 v3 v4 v5 v6 v7 v8 v9 v10 T, HV D v0 v1 v2 v3 v4 v5 v6 v7 v8 v9 v10 ∧ (1 ≤ v0 / 8 % 8 ∧ v0 / 8 % 8 ≤ 4) ∧ parseX 9 [] (D.drop 48) = .ok F T ∧ Byt T ∧
    ((T.length = 0 ∧ P = pkV v0 v1 v2 v3 v4 v5 v6 v7 v8 v9 v10) ∨ (T.length = 12 ∧ be (T.take 4) ≠ 0 ∧ P = { pkV v0 v1 v2 v3 v4 v5 v6 v7 v8 v9 v10 with s := true, p15 := be (T.take 4), p16 := be (T.drop 4) })) := by
  unfold parseP at h
  split at h
  · cases h
  rename_i c0
  split at h
  · cases h
  rename_i c1
  refine ⟨by omega, ?_⟩
  obtain ⟨v0, v1, v2, v3, v4, v5, v6, v7, v8, v9, v10, hv⟩ := HV.mk' hB (show 48 ≤ D.length by omega)
  rw [hv.takeV] at h
  simp only at h
  split at h
  case isFalse => cases h
  rename_i c2
  have hB2 : Byt (D.drop 48) := fun z hz => hB z (List.mem_of_mem_drop hz)
  cases hp : parseX 9 [] (D.drop 48) with
  | err z => rw [hp] at h; cases h
  | ok F' T =>
    rw [hp] at h
    simp only [parseQ] at h
    obtain ⟨F2, q1, q2, q3, q4, q5⟩ := put_parse 9 [] F' (D.drop 48) T hB2 (by simp) hp
    have hBT : Byt T := fun z hz => hB2 z (by rw [q2]; exact List.mem_append_right _ hz)
    refine ⟨v0, v1, v2, v3, v4, v5, v6, v7, v8, v9, v10, T, hv, c2, ?_⟩
    split at h
    · cases h
      exact ⟨rfl, hBT, Or.inl ⟨by assumption, rfl⟩⟩
    · split at h
      · cases h
      · cases h
        exact ⟨rfl, hBT, Or.inr ⟨by rcases q5 with h | h <;> omega, by assumption, rfl⟩⟩
theorem parseP_fine {D : List Int} {P : Pk} {F : List (Int × List Int)} (hB : Byt D) (h : parseP D = .ok P F) : P.Ok ∧ F.length ≤ 8 ∧ ∀ z ∈ F, mayN z.2.length = true := by
  obtain ⟨_, v0, v1, v2, v3, v4, v5, v6, v7, v8, v9, v10, T, hv, cv, hp, hBT, hk⟩ := parseP_inv hB h
  obtain ⟨F2, q1, q2, q3, q4, q5⟩ := put_parse 9 [] F (D.drop 48) T (fun z hz => hB z (List.mem_of_mem_drop hz)) (by simp) hp
  rw [List.nil_append] at q1
  subst q1
  have hok : (pkV v0 v1 v2 v3 v4 v5 v6 v7 v8 v9 v10).Ok := by
    obtain ⟨⟨p0, q0⟩, ⟨p1, q1⟩, ⟨p2, q2⟩, ⟨p3, q3⟩, ⟨p4, q4⟩, ⟨p5, q5⟩, ⟨p6, q6⟩, ⟨p7, q7⟩, ⟨p8, q8⟩, ⟨p9, q9⟩, ⟨p10, q10⟩⟩ := hv.bounds
    have i2 := i8_in v2
    have i3 := i8_in v3
    constructor <;> simp only [pkV] <;> omega
  refine ⟨?_, q4, fun z hz => (q3 z hz).2⟩
  rcases hk with ⟨_, rfl⟩ | ⟨t12, _, rfl⟩
  · exact hok
  · have b1 := be_bound (l := T.take 4) fun z hz => hBT z (List.mem_of_mem_take hz)
    have b2 := be_bound (l := T.drop 4) fun z hz => hBT z (List.mem_of_mem_drop hz)
    rw [List.length_take, t12] at b1
    rw [List.length_drop, t12] at b2
    obtain ⟨a0, b0, a1, b1', a2, b2', a3, b3, a4, b4, a5, b5, a6, b6, a7, b7, a8, b8, a9, b9, a10, b10, a11, b11, a12, b12, _, _, _, _⟩ := hok
    exact ⟨a0, b0, a1, b1', a2, b2', a3, b3, a4, b4, a5, b5, a6, b6, a7, b7, a8, b8, a9, b9, a10, b10, a11, b11, a12, b12, b1.1, by have := b1.2; simp at this; show be (T.take 4) ≤ _; omega, b2.1, by have := b2.2; simp at this; show be (T.drop 4) ≤ _; omega⟩
end Go.Proofs.YtdpbbagllhfjbaaDoorW.AI.G

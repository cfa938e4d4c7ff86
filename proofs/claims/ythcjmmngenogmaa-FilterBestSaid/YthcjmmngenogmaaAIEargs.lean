import Derived.Test.YthcjmmngenogmaaAIEbase
import Derived.Test.YthcjmmngenogmaaAIInt
namespace Go.Proofs.YthcjmmngenogmaaW.AI.E
open Go Go.Proofs.YthcjmmngenogmaaW.AI
set_option maxRecDepth 100000
set_option linter.unusedSimpArgs false
set_option linter.unusedVariables false
set_option linter.unusedSectionVars false
theorem glG : Good CP.gl := rfl
theorem sc3s (k : IntKind) (a b c : Int) : scEqs [0, 0, 0] [.int k a, .int k b, .int k c] [.int k a, .int k b, .int k c] = some true := by simp [scEqs, scEq]
theorem good_ext {js : AHeap} (h : Ext js) : Good (CP.gl ++ js) := good_app glG (List.all_eq_true.2 fun x hx => by unfold notOld; rcases h x hx with e | e <;> rw [e])
theorem ty_nil {g g' : AHeap} {l : List CK} {y : AV} (h : Ty g (.sl l) y) (h0 : y.lt 0 = true) : Ty g' (.sl l) y := by
  simp only [Ty] at h ⊢
  rcases h with rfl | ⟨b, n, c, es, rfl, _⟩
  · exact Or.inl rfl
  · simp [AV.lt] at h0
theorem arg_iv {k : IntKind} {g : AHeap} {v : AV} (hv : Ty g (.sl [.i k]) v) : ∃ L, IV k g v L ∧ L.length ≤ 9223372036854775807 ∧ ∀ x ∈ L, k.min ≤ x ∧ x ≤ k.max := by
  obtain ⟨es, hs, he⟩ := Ty_sl hv
  have hle := hs.le
  rcases hs with ⟨rfl, rfl⟩ | ⟨b, c, rfl, g1, g2, g3, g4⟩
  · exact ⟨[], IV.nil k g, by simp, by simp⟩
  · have hl := flat_len (l := [CK.i k]) fun e h' => (TyL_lt (he e h')).2.2
    have hl1 : (es.flatten.map toI).length = es.length := by rw [List.length_map, hl]; simp
    refine ⟨es.flatten.map toI, Or.inr ⟨b, c, .ext, es.flatten.map toI, false, ?_, Or.inl rfl, Nat.le_refl _, List.take_length, Or.inl ⟨by rw [hl1], by omega⟩⟩, by omega, ?_⟩
    · exact g4
    · intro x hx
      obtain ⟨a, ha, rfl⟩ := List.mem_map.1 hx
      obtain ⟨e, h1, h2⟩ := List.mem_flatten.1 ha
      have := he e h1
      simp only [TyL, Ty] at this
      obtain ⟨v, vs, rfl, ⟨n, rfl, n1, n2⟩, rfl⟩ := this
      simp only [List.mem_singleton] at h2
      subst h2
      exact ⟨n1, n2⟩
end Go.Proofs.YthcjmmngenogmaaW.AI.E

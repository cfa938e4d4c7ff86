import Derived.Test.YtcpiohklljppaaaAIDbase
namespace Go.Proofs.YtcpiohklljppaaaW.AI.D
open Go Go.Proofs.YtcpiohklljppaaaW.AI
theorem good_gl : Good CP.gl := rfl
theorem good_ext {js : AHeap} (h : Ext js) : Good (CP.gl ++ js) := good_app good_gl (List.all_eq_true.2 fun x hx => by unfold notOld; rcases h x hx with e | e <;> rw [e])
theorem tmod_in {a c : Int} (ha : 0 ≤ a) (hc : 0 < c) : 0 ≤ a.tmod c ∧ a.tmod c < c := by rw [Int.tmod_eq_emod_of_nonneg ha]; exact ⟨Int.emod_nonneg _ (by omega), Int.emod_lt_of_pos _ hc⟩
theorem tmod_to {a : Int} (c : Int) (ha : 0 ≤ a) (hc : 0 < c) : ∃ r, a.tmod c = r ∧ 0 ≤ r ∧ r < c := ⟨_, rfl, tmod_in ha hc⟩
theorem scEqs3_same (k : IntKind) (a b c : Int) : scEqs [0, 0, 0] [.int k a, .int k b, .int k c] [.int k a, .int k b, .int k c] = some true := by simp [scEqs, scEq]
theorem scEqs3 (k : IntKind) (a b c a' b' c' : Int) : scEqs [0, 0, 0] [.int k a, .int k b, .int k c] [.int k a', .int k b', .int k c'] = some (a == a' && (b == b' && c == c')) := by simp [scEqs, scEq]
end Go.Proofs.YtcpiohklljppaaaW.AI.D

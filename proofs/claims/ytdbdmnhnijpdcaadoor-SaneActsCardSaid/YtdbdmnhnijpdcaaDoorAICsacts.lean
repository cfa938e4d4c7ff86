import Derived.Test.YtdbdmnhnijpdcaaDoorAICsane5
import Derived.Test.YtdbdmnhnijpdcaaDoorAICsfar
import Derived.Test.YtdbdmnhnijpdcaaDoorAICard2
namespace Go.Proofs.YtdbdmnhnijpdcaaDoorW.AI.C
open Go Go.Proofs.YtdbdmnhnijpdcaaDoorW.AI Go.RowKit
set_option maxRecDepth 100000
set_option linter.unusedVariables false
set_option linter.unusedSimpArgs false
theorem sb_space : (⟨#[32]⟩ : ByteArray) = sb [32] := rfl
theorem actV_space (l : List UInt8) : actV (l ++ [32]) = 0 := by
  unfold actV
  have h : ∀ (a b c d : UInt8), d ≠ 32 → ¬ l ++ [32] = [a, b, c, d] := by
    intro a b c d hd e
    have := congrArg List.getLast? e
    simp at this
    exact hd this.symm
  rw [if_neg (h _ _ _ _ (by decide)), if_neg (h _ _ _ _ (by decide)), if_neg (h _ _ _ _ (by decide))]
theorem acts_body (g : AHeap) (l : List UInt8) (hl : l.length ≤ 1000000000000000) :
    Wp (xbody (W CS) M5 [.str (sb l)] g) fun r => r.1 = .bool true := by
  have h1 := fun l h => act_c l h
  have h2 := fun l h => refAct_c l h
  have aw := fun h => law08_alive h
  have hz : (sb l).size + (sb [32]).size ≤ 9223372036854775807 := by rw [sb_size, sb_size]; simp only [List.length_cons, List.length_nil]; omega
  have h3 := actV_space l
  simp (maxDischargeDepth := 9) -implicitDefEqProofs only [push_cast, reduceIte, Nat.reduceEqDiff, Nat.reduceAdd, Nat.reduceSub, Nat.reduceMul, Nat.reduceDiv, Nat.reduceMod, Nat.reduceLT, Nat.reduceLeDiff, Nat.reduceBEq, Nat.reduceBNe, reduceCtorEq, Int.reduceEq, Int.reduceNe, Int.reduceLT, Int.reduceLE, Int.reduceToNat, Int.reduceNeg, Int.reduceAdd, Int.reduceSub, Int.reduceMul, Int.reducePow, Nat.reducePow, Int.reduceBEq, M5, h1, h2, aw, sb_space, hz, sb_append, h3]
theorem acts_walk {H : Type} {enc : TypeId × Value → H} {w : World} {base : Nat} {args : Array Value} {ds : List (DataW H)} {ps : List MemPlace} (hs : ∀ s : ByteArray, args.toList = [.string s] → s.size ≤ reachBytes) (hl : Laid CS.gl X.gid w)
    (ht : DataW.TrodAll enc Go.Proofs.Tryd.prog w 0 (fun _ => true) true [9] args.toList ds ps) (hw : ∀ (j : Nat) t v, [9][j]? = some t → args.toList[j]? = some v → Value.okWide Go.Proofs.Tryd.prog w .any base t v) :
    Calls Go.Proofs.Tryd.prog 5 args w fun e w' => e = .returned (.bool true) ∧ Below w.heap.size w w' := by
  refine law_laid_r (X := X) (n := 20) (aks := [.one .s]) CS follows rfl mp_chk primOkS hl (by kernel_rfl) (fun js avs ρ hx ht hr => ?_) ht hw
  simp only [TyA] at ht
  obtain ⟨v, _, rfl, h1, rfl⟩ := ht
  simp only [Ty] at h1
  obtain ⟨s, rfl, h2⟩ := h1
  simp only [Rs, R] at hr
  obtain ⟨_, _, e, rfl, rfl⟩ := hr
  have h3 := hs s e
  obtain ⟨l, rfl⟩ := sb_of' s
  have h4 : l.length ≤ 1000000000000000 := by
    have : reachBytes ≤ 1000000000000000 := by decide
    rw [sb_size] at h3
    omega
  exact W_law (m := M5) (fun _ => rfl) rfl (acts_body _ l h4) fun _ => acts_body _ l h4
end Go.Proofs.YtdbdmnhnijpdcaaDoorW.AI.C

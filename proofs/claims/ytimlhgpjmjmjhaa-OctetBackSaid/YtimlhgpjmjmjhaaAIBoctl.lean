import Derived.Test.YtimlhgpjmjmjhaaAIBoctB
namespace Go.Proofs.YtimlhgpjmjmjhaaW.AI.B
open Go Go.Proofs.YtimlhgpjmjmjhaaW.AI Go.Proofs.YtimlhgpjmjmjhaaW.AI.Oct
set_option linter.unusedVariables false
/-- What is laid is taken. -/
theorem takeV_layB : ∀ {Ls : List Nat} {V R : List Int}, Ls.length = V.length → (∀ (i s : Nat) (v : Int), Ls[i]? = some s → V[i]? = some v → 0 ≤ v ∧ v < 256 ^ s) → takeV Ls (layB Ls V ++ R) = V
  | [], [], R, _, _ => rfl
  | s :: Ls, v :: V, R, h, hf => by
    have h0 := hf 0 s v rfl rfl
    have hl := dg_len s v
    simp only [layB, takeV, List.append_assoc]
    rw [List.take_left' hl, List.drop_left' hl, be_dg s v h0.1 h0.2, takeV_layB (by simpa using h) fun i => by simpa using hf (i + 1)]
  | [], _ :: _, _, h, _ => by simp at h
  | _ :: _, [], _, h, _ => by simp at h
/-- What is taken is laid again. -/
theorem layB_takeV : ∀ {Ls : List Nat} {D : List Int}, Byt D → Ls.sum ≤ D.length → layB Ls (takeV Ls D) = D.take Ls.sum
  | [], D, _, _ => by simp [layB]
  | s :: Ls, D, hB, hl => by
    simp only [List.sum_cons] at hl ⊢
    have h1 : (D.take s).length = s := by rw [List.length_take]; omega
    have h2 := dg_be (fun z hz => hB z (List.mem_of_mem_take hz) : Byt (D.take s))
    rw [h1] at h2
    simp only [takeV, layB]
    rw [h2, layB_takeV (fun z hz => hB z (List.mem_of_mem_drop hz)) (by rw [List.length_drop]; omega), List.take_add]
/-- What is taken fits. -/
theorem takeV_fits : ∀ {Ls : List Nat} {D : List Int}, Byt D → Ls.sum ≤ D.length → ∀ (i s : Nat) (v : Int), Ls[i]? = some s → (takeV Ls D)[i]? = some v → 0 ≤ v ∧ v < 256 ^ s
  | [], D, _, _, i, s, v, h, _ => by simp at h
  | s :: Ls, D, hB, hl, i, s', v, h, hv => by
    simp only [List.sum_cons] at hl
    cases i with
    | zero =>
      simp only [takeV, List.getElem?_cons_zero, Option.some.injEq] at h hv
      subst h hv
      have := be_bound (fun z hz => hB z (List.mem_of_mem_take hz) : Byt (D.take s))
      rw [List.length_take, Nat.min_eq_left (by omega)] at this
      exact this
    | succ i =>
      simp only [takeV, List.getElem?_cons_succ] at h hv
      exact takeV_fits (fun z hz => hB z (List.mem_of_mem_drop hz)) (by rw [List.length_drop]; omega) i s' v h hv
end Go.Proofs.YtimlhgpjmjmjhaaW.AI.B

import Derived.Test.YtdbdmnhnijpdcaaDoorAICard
import Derived.ChangeSame
import Derived.LaidMore
import Derived.LaidHandle
/-! A listed table of numbers and functions. -/
namespace Go.Proofs.YtdbdmnhnijpdcaaDoorW.AI
open Go Go.RowKit
set_option linter.unusedVariables false
/-- A struct of a whole number and a function by its name. -/
theorem test_cell {P : Program} {w : World} {base : Nat} {sp : Nat → Bool} {fuel tS tE tF F : Nat} {f0 f1 : Field} {ps rs : Array TypeId} {va : Bool} {cs : List Value} {n : Int} {b : UInt8} {r : List UInt8} {q : List MemPlace}
    (hs : P.underlying tS = some (.struct #[f0, f1])) (h0 : f0.type = tE ∧ f0.offset = 0) (h1 : f1.type = tF ∧ f1.offset = 1) (hE : P.underlying tE = some (.int .i64)) (hF : P.underlying tF = some (.func ps rs va)) (cS : P.cellsOf tS = 2) (cE : P.cellsOf tE = 1) (cF : P.cellsOf tF = 1)
    (hone : ((List.range P.funcs.size).filter fun f => (P.funcs[f]?).any (·.name.toUTF8.data.toList == b :: r)) = [F])
    (h : DataW.trod (funcToken P) P w base sp true fuel tS cs = some (.agg [.lit (.int .i64 n), .held (b :: r)], q)) : cs = [.int .i64 n, .func (.func F) #[] #[]] := by
  obtain ⟨y0, y1, m, e, hl, e0, e1⟩ := Go.ChangeShapes.trod_struct2 hs h
  rw [cS] at hl
  obtain ⟨a, c, rfl⟩ : ∃ a c, cs = [a, c] := by
    match cs, hl with
    | [a, c], _ => exact ⟨a, c, rfl⟩
  simp only [Prod.mk.injEq, DataW.agg.injEq, List.cons.injEq, and_true] at e
  obtain ⟨⟨g0, g1⟩, _⟩ := e
  rw [h0.1, h0.2, cE] at e0
  rw [h1.1, h1.2, cF] at e1
  simp only [List.drop_zero, List.take_succ_cons, List.take_zero, List.drop_succ_cons] at e0 e1
  obtain ⟨v, k1, k2, _⟩ := DataW.trod_int hE e0
  have hv : v = n := by rw [k2] at g0; simpa using g0.symm
  have e1' : DataW.trod (funcToken P) P w base sp true m tF [c] = some (.held (b :: r), y1.2) := by rw [e1]; congr 1; rw [g1]
  have k3 := Go.func_of_trod hF hone e1'
  simp only [List.cons.injEq, and_true] at k1
  rw [k1, k3, hv]
/-- A table of them. -/
theorem tests_of_trod {P : Program} {w : World} {base : Nat} {sp : Nat → Bool} {fuel tA tS : Nat} {l : List (Int × List UInt8)} {g : Int → List UInt8 → List Value → Prop} {cs : List Value} {q : List MemPlace}
    (ht : P.underlying tA = some (.array l.length tS)) (cS : P.cellsOf tS = 2) (cA : P.cellsOf tA = l.length * 2)
    (h : DataW.trod (funcToken P) P w base sp true fuel tA cs = some (.agg (l.map fun p => .agg [.lit (.int .i64 p.1), .held p.2]), q)) (out : List (List Value)) (hout : out.length = l.length)
    (one : ∀ i (hi : i < l.length) m c q, DataW.trod (funcToken P) P w base sp true m tS c = some (.agg [.lit (.int .i64 l[i].1), .held l[i].2], q) → out[i]? = some c) : cs = out.flatten := by
  obtain ⟨xs, m, rfl, hx, hlen, hn, hel⟩ := DataW.trod_array ht h
  simp only [Prod.mk.injEq, DataW.agg.injEq] at hx
  rw [cA] at hlen
  have key : ∀ i, i < l.length → out[i]? = some ((cs.drop (i * 2)).take 2) := by
    intro i hi
    have h1 := hel i hi
    rw [cS, List.getElem?_eq_getElem (show i < xs.length by omega)] at h1
    have h2 : (xs.map (·.1))[i]? = (l.map fun p => DataW.agg [.lit (.int .i64 p.1), .held p.2])[i]? := by rw [hx.1]
    rw [List.getElem?_map, List.getElem?_map, List.getElem?_eq_getElem (show i < xs.length by omega), List.getElem?_eq_getElem hi] at h2
    simp only [Option.map_some, Option.some.injEq] at h2
    refine one i hi m _ (xs[i].2) ?_
    rw [h1, ← h2]
  have : ∀ (out : List (List Value)) (cs : List Value), cs.length = out.length * 2 → (∀ i, i < out.length → out[i]? = some ((cs.drop (i * 2)).take 2)) → cs = out.flatten := by
    intro out
    induction out with
    | nil => intro cs hl _; simp at hl; simp [hl]
    | cons o out ih =>
      intro cs hl hk
      have h0 := hk 0 (by simp)
      simp at h0
      have h1 := ih (cs.drop 2) (by simp at hl ⊢; omega) (fun i hi => by
        have := hk (i + 1) (by simp; omega)
        rw [List.getElem?_cons_succ] at this
        rw [this, List.drop_drop]
        congr 3; omega)
      rw [List.flatten_cons, ← h1, h0, List.take_append_drop]
  exact this out cs (by omega) (fun i hi => key i (by omega))
end Go.Proofs.YtdbdmnhnijpdcaaDoorW.AI

import Derived.Test.YthcjmmngenogmaaAIWO
import Derived.Test.YthcjmmngenogmaaAIEchk
import Derived.Laws.Externs
namespace Go.Proofs.YthcjmmngenogmaaW.AI.E
open Go Go.Proofs.YthcjmmngenogmaaW.AI Go.RowKit
set_option maxRecDepth 100000
set_option linter.unusedVariables false
/-- math/bits.Add64, for which the model stands in. -/
def prim (f : Nat) (xs : List AV) (h : AHeap) : Option (Option (AV × AHeap × List Nat)) :=
  if f = 89 then match xs with
    | [.int .u64 x, .int .u64 y, .int .u64 c] => some (if 0 ≤ x ∧ 0 ≤ y ∧ 0 ≤ c ∧ c ≤ 1 then some (.tup [.int .u64 ((x + y + c) % 18446744073709551616), .int .u64 ((x + y + c) / 18446744073709551616)], h, []) else none)
    | _ => some none
  else none
def CP : Cfg := { mp := MP, gl := [⟨.dead, .vals []⟩, ⟨.dead, .vals []⟩], prim := prim }
theorem primOk : PrimOkX X CP := by
  refine ⟨fun f vs h r hr => ?_, fun B ρg f vs h r hr => Or.inr fun ρ w xs hst hl hrs => ?_⟩
  · simp only [CP, prim] at hr
    split at hr
    · split at hr
      · simp only [Option.some.injEq] at hr
        split at hr
        · cases hr; exact Steady.refl _ _
        · cases hr
      · cases hr
    · cases hr
  · simp only [CP, prim] at hr
    split at hr
    case isFalse => cases hr
    rename_i hf
    subst hf
    split at hr
    case h_2 => cases hr
    rename_i x y c
    simp only [Option.some.injEq] at hr
    split at hr
    case isFalse => cases hr
    rename_i hc
    cases hr
    obtain ⟨l⟩ := xs
    simp only [Rs] at hrs
    obtain ⟨_, _, rfl, h1, _, _, rfl, h2, _, _, rfl, h3, rfl⟩ := hrs
    simp only [R] at h1 h2 h3
    subst h1 h2 h3
    refine ⟨.tuple #[.int .u64 ((x + y + c) % 18446744073709551616), .int .u64 ((x + y + c) / 18446744073709551616)], w, ?_, ?_⟩
    · rw [run_callFunc_extern (P := X.P) (e := add64Entry) Go.Proofs.Try.func89 (by kernel_rfl) (by kernel_rfl) (by kernel_rfl) (by kernel_rfl), run_add64 x y c hc.1 hc.2.1 hc.2.2.1 hc.2.2.2]
      rfl
    · refine post_float hst rfl ?_
      simp only [R, Rs]
      exact ⟨_, rfl, _, _, rfl, rfl, _, _, rfl, rfl, rfl⟩
/-- A law of this seat. -/
theorem law_walkX {f n : Nat} (hne : ∀ vs h, CP.prim f vs h = none) {aks : List AK} (hlaw : ∀ (js : AHeap) (avs : List AV), Ext js → TyA (CP.gl ++ js) aks avs → ∃ h' ws, W CP f avs (CP.gl ++ js) = some (.bool true, h', ws)) {ts : List TypeId} (hk : aksOf X.P n ts = some aks)
    {H : Type} {enc : TypeId × Value → H} {w : World} {base : Nat} {args : Array Value} {ds : List (DataW H)} {ps : List MemPlace}
    (ht : DataW.TrodAll enc Go.Proofs.Try.prog w 0 (fun _ => true) true ts args.toList ds ps) (hw : ∀ (j : Nat) t v, ts[j]? = some t → args.toList[j]? = some v → Value.okWide Go.Proofs.Try.prog w .any base t v) :
    Calls Go.Proofs.Try.prog f args w fun e w' => e = .returned (.bool true) ∧ Below w.heap.size w w' :=
  calls_lawX (X := X) CP follows rfl rfl mp_chk primOk hne hlaw hk ht hw
end Go.Proofs.YthcjmmngenogmaaW.AI.E

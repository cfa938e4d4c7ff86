import Derived.Test.YtdpbbagllhfjbaaDoorAIGpktA
import Derived.Test.YtdpbbagllhfjbaaDoorAIGmacB
namespace Go.Proofs.YtdpbbagllhfjbaaDoorW.AI.G
open Go Go.Proofs.YtdpbbagllhfjbaaDoorW.AI Go.Proofs.YtdpbbagllhfjbaaDoorW.AI.Oct
set_option maxRecDepth 100000
set_option linter.unusedSimpArgs false
set_option linter.unusedVariables false
set_option linter.unusedSectionVars false
section
variable {P : Pk} {x : AV} {F : List (Int × List Int)} {h : AHeap} {id A B : Int}
/-- What Put answers. -/
def putE (P : Pk) (F : List (Int × List Int)) : Int := if mayP P F = true then (if (putP P F).length ≤ 512 then 0 else 3) else 1
def putD (P : Pk) (F : List (Int × List Int)) : List Int := if mayP P F = true ∧ (putP P F).length ≤ 512 then putP P F else []
/-- What Sign answers. -/
def signS (P : Pk) (F : List (Int × List Int)) (id A B : Int) : Pk := if putE (sgP P id 0) F = 0 then sgP P id (tagI A B (bodyP P F)) else pk0
def signX (P : Pk) (F : List (Int × List Int)) (id : Int) (x : AV) : AV := if putE (sgP P id 0) F = 0 then x else .nils
theorem putE_0 {Q : Pk} (hm : mayP Q F = true) (hl : (putP Q F).length ≤ 512) : putE Q F = 0 := by unfold putE; rw [if_pos hm, if_pos hl]
theorem putE_3 {Q : Pk} (hm : mayP Q F = true) (hl : ¬ (putP Q F).length ≤ 512) : putE Q F = 3 := by unfold putE; rw [if_pos hm, if_neg hl]
theorem putE_1 {Q : Pk} (hm : mayP Q F = false) : putE Q F = 1 := by unfold putE; rw [hm]; rfl
theorem sign_u (ok : P.Ok) (i0 : 0 ≤ id) (i1 : id ≤ 4294967295) (hF : F.length < 1000000) (hD : ∀ z ∈ F, z.2.length < 1000000000) (hxc : x.isCell = true) (hg : Good h) (ha : At0 h) (hx : ExtAt h x F) (hxl : x.lt h.length = true) :
    W CP 21 [.agg (P.l x), .agg [.int .u32 id, .int .u64 A, .int .u64 B]] h = some (.tup [.agg ((signS P F id A B).l (signX P F id x)), .int .i64 (putE (sgP P id 0) F)], h, []) := by
  unfold signS signX
  cases hm : mayP (sgP P id 0) F with
  | false => rw [putE_1 hm]; exact psign_bad ok i0 i1 hm hF hD hxc hg hx
  | true =>
    by_cases hl : (putP (sgP P id 0) F).length ≤ 512
    · rw [putE_0 hm hl]; exact psign_ok ok i0 i1 hm hl hxc hg ha hx hxl
    · rw [putE_3 hm hl]; exact psign_long ok i0 i1 hm hl hxc hg ha hx
theorem u64_le (p : Int) : 0 ≤ IntKind.u64.wrap p ∧ IntKind.u64.wrap p ≤ 18446744073709551615 := by
  have := u64_in p
  omega
theorem tag_le (A B : Int) (D : List Int) : 0 ≤ tagI A B D ∧ tagI A B D ≤ 18446744073709551615 := by
  unfold tagI
  exact u64_le _
theorem pk0_fine : pk0.Ok := by constructor <;> decide
theorem signS_ok (ok : P.Ok) (i0 : 0 ≤ id) (i1 : id ≤ 4294967295) : (signS P F id A B).Ok := by
  unfold signS
  split
  · exact sgP_ok ok i0 i1 (tag_le _ _ _).1 (tag_le _ _ _).2
  · exact pk0_fine
end
end Go.Proofs.YtdpbbagllhfjbaaDoorW.AI.G

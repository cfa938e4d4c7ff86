import Derived.Test.YtdpbbagllhfjbaaDoorAIGmacA
import Derived.Test.YtdpbbagllhfjbaaDoorAIGpkt2
namespace Go.Proofs.YtdpbbagllhfjbaaDoorW.AI.G
open Go Go.Proofs.YtdpbbagllhfjbaaDoorW.AI Go.Proofs.YtdpbbagllhfjbaaDoorW.AI.Oct
set_option maxRecDepth 100000
set_option linter.unusedSimpArgs false
set_option linter.unusedVariables false
set_option linter.unusedSectionVars false
theorem wrap_u64 (x : Int) : IntKind.u64.wrap x = x % 18446744073709551616 := by
  simp only [IntKind.wrap, IntKind.bits, IntKind.signed]
  simp
/-- The bits of two numbers that do not meet. -/
theorem abits_or {a b : Nat} (ha : a < 2 ^ 64) (hb : b < 2 ^ 64) : abits .or .u64 (a : Int) (b : Int) = ((a ||| b : Nat) : Int) := by
  have e : abits .or .u64 (a : Int) (b : Int) = IntKind.u64.wrap ((BitVec.ofInt 64 (a : Int) ||| BitVec.ofInt 64 (b : Int)).toNat : Int) := rfl
  rw [e, BitVec.ofInt_natCast, BitVec.ofInt_natCast, BitVec.toNat_or, BitVec.toNat_ofNat, BitVec.toNat_ofNat, Nat.mod_eq_of_lt ha, Nat.mod_eq_of_lt hb, wrap_u64]
  have := Nat.or_lt_two_pow ha hb
  omega
end Go.Proofs.YtdpbbagllhfjbaaDoorW.AI.G
namespace Go.Proofs.YtdpbbagllhfjbaaDoorW.AI.G
open Go Go.Proofs.YtdpbbagllhfjbaaDoorW.AI Go.Proofs.YtdpbbagllhfjbaaDoorW.AI.Oct
set_option maxRecDepth 100000
set_option linter.unusedSimpArgs false
set_option linter.unusedVariables false
set_option linter.unusedSectionVars false
theorem u64_in (p : Int) : 0 ≤ IntKind.u64.wrap p ∧ IntKind.u64.wrap p < 18446744073709551616 := by
  rw [wrap_u64]
  omega
/-- The lowest digit first. -/
def le : List Int → Int
  | [] => 0
  | c :: t => c + 256 * le t
end Go.Proofs.YtdpbbagllhfjbaaDoorW.AI.G
namespace Go.Proofs.YtdpbbagllhfjbaaDoorW.AI.G
open Go Go.Proofs.YtdpbbagllhfjbaaDoorW.AI Go.Proofs.YtdpbbagllhfjbaaDoorW.AI.Oct
set_option maxRecDepth 100000
set_option linter.unusedSimpArgs false
set_option linter.unusedVariables false
set_option linter.unusedSectionVars false
end Go.Proofs.YtdpbbagllhfjbaaDoorW.AI.G
namespace Go.Proofs.YtdpbbagllhfjbaaDoorW.AI.G
open Go Go.Proofs.YtdpbbagllhfjbaaDoorW.AI Go.Proofs.YtdpbbagllhfjbaaDoorW.AI.Oct
set_option maxRecDepth 100000
set_option linter.unusedSimpArgs false
set_option linter.unusedVariables false
set_option linter.unusedSectionVars false
structure R4 (v : V4) : Prop where
  b0 : 0 ≤ v.b
  b1 : v.b < 18446744073709551616
  d0 : 0 ≤ v.d
  d1 : v.d < 18446744073709551616
theorem xor_in (x y : Int) : 0 ≤ xorI x y ∧ xorI x y < 18446744073709551616 := by
  unfold xorI abits
  exact u64_in _
theorem R4.round (v : V4) : R4 (roundV v) := by
  have hb : (roundV v).b = xorI (rotI (half1 v).b 17) (addI (half1 v).c (half1 v).b) := rfl
  have hd : (roundV v).d = xorI (rotI (half1 v).d 21) (addI (half1 v).a (half1 v).d) := rfl
  exact ⟨by rw [hb]; exact (xor_in _ _).1, by rw [hb]; exact (xor_in _ _).2, by rw [hd]; exact (xor_in _ _).1, by rw [hd]; exact (xor_in _ _).2⟩
theorem R4.iter : ∀ (n : Nat) {v : V4}, R4 v → R4 (iterV n v)
  | 0, v, h => h
  | n + 1, v, _ => R4.iter n (R4.round v)
theorem R4.take (v : V4) (m : Int) (h : R4 v) : R4 (takeW v m) := by
  have h2 : R4 { v with d := xorI v.d m } := ⟨h.b0, h.b1, (xor_in _ _).1, (xor_in _ _).2⟩
  have h1 := R4.iter 2 h2
  obtain ⟨w, hw⟩ : ∃ w, iterV 2 { v with d := xorI v.d m } = w := ⟨_, rfl⟩
  have ht : takeW v m = { w with a := xorI w.a m } := by unfold takeW; rw [hw]
  rw [hw] at h1
  rw [ht]
  exact ⟨h1.b0, h1.b1, h1.d0, h1.d1⟩
theorem R4.start (A B : Int) : R4 (startV A B) := ⟨(xor_in _ _).1, (xor_in _ _).2, (xor_in _ _).1, (xor_in _ _).2⟩
end Go.Proofs.YtdpbbagllhfjbaaDoorW.AI.G

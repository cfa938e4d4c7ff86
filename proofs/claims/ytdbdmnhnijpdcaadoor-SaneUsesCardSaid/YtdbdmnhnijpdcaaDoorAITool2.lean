import Derived.Test.YtdbdmnhnijpdcaaDoorAITool
/-! Contracts of functions whose arguments may bear an address, or none. -/
namespace Go.Proofs.YtdbdmnhnijpdcaaDoorW.AI
open Go
set_option linter.unusedVariables false
theorem nadd1 (n : Nat) : (n = n + 1) = False := by simp
theorem nadd2 (n : Nat) : (n = n + 2) = False := by simp
theorem nadd3 (n : Nat) : (n = n + 3) = False := by simp
theorem nadd4 (n : Nat) : (n = n + 4) = False := by simp
theorem nadd5 (n : Nat) : (n = n + 5) = False := by simp
theorem nadd6 (n : Nat) : (n = n + 6) = False := by simp
theorem nadd7 (n : Nat) : (n = n + 7) = False := by simp
theorem nadd8 (n : Nat) : (n = n + 8) = False := by simp
theorem nadd9 (n : Nat) : (n = n + 9) = False := by simp
theorem nadd10 (n : Nat) : (n = n + 10) = False := by simp
theorem nadd11 (n : Nat) : (n = n + 11) = False := by simp
theorem nadd12 (n : Nat) : (n = n + 12) = False := by simp
section
variable {C : Cfg}
/-- Answers v, no address, whether or not an address is handed in. -/
theorem W_both {f : Nat} {m : MFunc} {args : List AV} {v : AV} (I : AHeap → Prop) (hp : ∀ h, C.prim f args h = none) (hm : C.mp f = some m) (ht : m.trim = true) (hv : AV.lt 0 v = true) (hg0 : Good C.gl) (hi0 : I C.gl)
    (e : ∀ g, Good g → I g → Wp (xbody (W C) m args g) (Quiet g v)) {h : AHeap} (hg : Good h) (hi : I h) : W C f args h = some (v, h, []) := by
  cases h0 : AV.lts 0 args with
  | true => exact W_val hp hm h0 hv ((e _ hg0 hi0).mono fun r hr => hr.1) h
  | false => exact W_quietP (hp h) hm h0 ht (AV.lt_mono (Nat.zero_le _) _ hv) hg (e h hg hi)
end
end Go.Proofs.YtdbdmnhnijpdcaaDoorW.AI

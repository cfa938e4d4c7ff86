import Derived.Test.YtdbdmnhnijpdcaaDoorAIW
/-! More contracts. -/
namespace Go.Proofs.YtdbdmnhnijpdcaaDoorW.AI
open Go
set_option linter.unusedVariables false
set_option linter.unusedSectionVars false
theorem wp_eqP {α : Type} {o : Option α} {x : α} (h : Wp o fun r => r = x) : o = some x := by obtain ⟨r, rfl, rfl⟩ := h; rfl
theorem kBlock_keep {id : Nat} {keep : List Nat} {a b : Acts} {h : AHeap} {ws : List Nat} (e : keepA keep a = b) : kBlock id keep (some (.exit id, a, h, ws)) = some (.normal, b, h, ws) := by rw [w_kBlockE, if_pos rfl, e]
theorem trim_addr {n : Nat} {v : AV} {h : AHeap} {ws : List Nat} (hv : v.lt n = false) : trimR n (v, h, ws) = (v, h, ws) := by
  unfold trimR
  rw [if_neg]
  simp only [hv, Bool.false_and, Bool.false_eq_true, not_false_eq_true]
section
variable {C : Cfg}
/-- No address goes in or out; what is answered is told alone. -/
theorem W_val {f : Nat} {m : MFunc} {args : List AV} {v : AV} (hp : ∀ h, C.prim f args h = none) (hm : C.mp f = some m) (h0 : AV.lts 0 args = true) (hv : AV.lt 0 v = true)
    (e : Wp (xbody (W C) m args C.gl) fun r => r.1 = v) (h : AHeap) : W C f args h = some (v, h, []) := by
  obtain ⟨⟨v', h', ws⟩, e, rfl⟩ := e
  exact W_pure hp hm h0 hv e h
/-- Answers v, and only lays new blocks behind. -/
def Quiet (h : AHeap) (v : AV) (r : AV × AHeap × List Nat) : Prop := r.1 = v ∧ (∃ js, r.2.1 = h ++ js) ∧ r.2.2 = []
theorem quiet_i {h : AHeap} {v : AV} {js : AHeap} : Quiet h v (v, h ++ js, []) := ⟨rfl, ⟨js, rfl⟩, rfl⟩
theorem quiet_0 {h : AHeap} {v : AV} : Quiet h v (v, h, []) := ⟨rfl, ⟨[], by simp⟩, rfl⟩
theorem W_quietP {f : Nat} {m : MFunc} {args : List AV} {h : AHeap} {v : AV} (hp : C.prim f args h = none) (hm : C.mp f = some m) (h0 : AV.lts 0 args = false) (ht : m.trim = true) (hv : v.lt h.length = true) (hg : Good h)
    (e : Wp (xbody (W C) m args h) (Quiet h v)) : W C f args h = some (v, h, []) := by
  obtain ⟨⟨v', h', ws⟩, e, rfl, ⟨js, rfl⟩, rfl⟩ := e
  exact W_quiet (js := js) hp hm h0 ht hv hg e
end
end Go.Proofs.YtdbdmnhnijpdcaaDoorW.AI

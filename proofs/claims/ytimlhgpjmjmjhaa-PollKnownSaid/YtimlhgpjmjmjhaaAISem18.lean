import Derived.Test.YtimlhgpjmjmjhaaAISem17
import Derived.Below
/-! A call without arguments, in a program without variables of its own. -/
namespace Go.Proofs.YtimlhgpjmjmjhaaW.AI
open Go Go.RowKit
set_option linter.unusedVariables false

/-- No function is taken on trust. -/
theorem noPrim_steady {C : Cfg} (h : C.prim = fun _ _ _ => none) : ∀ f vs h r, C.prim f vs h = some (some r) → Steady h r.2.1 r.2.2 := by
  intro f vs h' r hr; rw [h] at hr; cases hr

theorem callOk_plain {X : Ctx} (C : Cfg) {B : Nat} {ρg : Env} (hm : X.P.follows .mixedOrders = true) (hG : C.gl.length = X.G) (hmp : ∀ f m, C.mp f = some m → chkFunc X f m = true) (hp : C.prim = fun _ _ _ => none) (n : Nat) : CallOk X B ρg C.gl (acall C n) :=
  acall_sound C hm hG hmp (noPrim_steady hp) (fun f vs h r hr => by rw [hp] at hr; cases hr) n

theorem lookup_mem {l : List (Nat × MFunc)} {f : Nat} {m : MFunc} (h : l.lookup f = some m) : (f, m) ∈ l := by
  induction l with
  | nil => cases h
  | cons p l ih =>
    obtain ⟨g, m'⟩ := p
    simp only [List.lookup] at h
    split at h
    · rename_i he
      cases h
      have : f = g := by simpa using he
      subst this
      exact List.mem_cons_self
    · exact List.mem_cons_of_mem _ (ih h)

def isTrue : Option (AV × AHeap × List Nat) → Bool
  | some (.bool true, _, _) => true
  | _ => false

theorem isTrue_elim {r : Option (AV × AHeap × List Nat)} (h : isTrue r = true) : ∃ h' ws, r = some (.bool true, h', ws) := by
  unfold isTrue at h
  split at h
  · exact ⟨_, _, rfl⟩
  · cases h

theorem calls_closed {X : Ctx} (C : Cfg) (hm : X.P.follows .mixedOrders = true) (hgl : C.gl = []) (hG : X.G = 0) (hmp : ∀ f m, C.mp f = some m → chkFunc X f m = true) (hp : C.prim = fun _ _ _ => none) {n f : Nat} (hr : isTrue (acall C n f [] []) = true) (w : World) :
    Calls X.P f #[] w fun e w' => e = .returned (.bool true) ∧ Below w.heap.size w w' := by
  obtain ⟨h', ws, hr⟩ := isTrue_elim hr
  have ρ : Env := ⟨fun _ => 0, fun _ => 0, fun _ => 0⟩
  have hgl' : C.gl.length = X.G := by rw [hgl, hG]; rfl
  have hok := callOk_plain C (B := w.heap.size) (ρg := ρ) hm hgl' hmp hp n f [] [] _ hr
  have hrep : Rep w.heap.size ρ [] w := ⟨fun i x hi => by simp at hi, fun i x t hi => by simp at hi, fun i x hi => by simp at hi, fun i x o hi => by simp at hi, fun i x hi => by simp at hi, fun i j x y o hi => by simp at hi⟩
  have hst : St w.heap.size ρ C.gl X.gid ρ [] w := by
    rw [hgl]
    exact ⟨hrep, hrep, fun i x hi => by simp at hi, Nat.le_refl _, fun i hi => by simp at hi, fun i hi => by simp at hi⟩
  refine Calls.mono (hok.2 ρ w #[] hst rfl rfl) fun e w' he => ?_
  obtain ⟨x, rfl, ρ', ag, hx, _, _, fr, _⟩ := he
  simp only [R] at hx
  subst hx
  exact ⟨rfl, fr.os, fr.tape, fr.output, fr.size, fun k hk => fr.keep k hk (by rintro ⟨i, y, o, hi, _⟩; simp at hi)⟩

end Go.Proofs.YtimlhgpjmjmjhaaW.AI

import Derived.Test.YtdpbbagllhfjbaaDoorAISem17
import Derived.Below
/-! A call without arguments, in a program without variables of its own. -/
namespace Go.Proofs.YtdpbbagllhfjbaaDoorW.AI
open Go Go.RowKit
set_option linter.unusedVariables false

theorem lookup_mem {l : List (Nat × MFunc)} {f : Nat} {m : MFunc} (h : l.lookup f = some m) : (f, m) ∈ l := by
  induction l with
  | nil => cases h
  | cons p l ih =>
    obtain ⟨g, m'⟩ := p
    simp only [List.lookup] at h
    split at h
    · rename_i he
      cases h
      have : f = g := by simpa using he
      subst this
      exact List.mem_cons_self
    · exact List.mem_cons_of_mem _ (ih h)

def isTrue : Option (AV × AHeap × List Nat) → Bool
  | some (.bool true, _, _) => true
  | _ => false

theorem isTrue_elim {r : Option (AV × AHeap × List Nat)} (h : isTrue r = true) : ∃ h' ws, r = some (.bool true, h', ws) := by
  unfold isTrue at h
  split at h
  · exact ⟨_, _, rfl⟩
  · cases h

/-- What is asked of functions that are taken on a proof of their own. -/
def PrimOk (X : Ctx) (C : Cfg) : Prop :=
  (∀ f vs h r, C.prim f vs h = some (some r) → Steady h r.2.1 r.2.2) ∧
  ∀ (B : Nat) (ρg : Env) f vs h r, C.prim f vs h = some (some r) → chkCallee X f = true ∧ ∀ (ρ : Env) (w : World) (xs : Array Value), St B ρg C.gl X.gid ρ h w → AV.lts h.length vs = true → Rs ρ vs xs.toList →
      Calls X.P f xs w fun e w' => ∃ x, e = .returned x ∧ Post X B ρg C.gl ρ h w r.1 r.2.1 x w'

end Go.Proofs.YtdpbbagllhfjbaaDoorW.AI

import Derived.Test.YtcpiohklljppaaaAIDcmb9
namespace Go.Proofs.YtcpiohklljppaaaW.AI.D
open Go Go.Proofs.YtcpiohklljppaaaW.AI Go.RowKit Go.Shelf
set_option maxRecDepth 100000
set_option linter.unusedVariables false
/-- Without arguments, in a program of which some functions are answered on a proof of their own. -/
theorem calls_closedX {X : Ctx} (C : Cfg) (hm : X.P.follows .mixedOrders = true) (hgl : C.gl.all isDead = true) (hG : C.gl.length = X.G) (hmp : ∀ f m, C.mp f = some m → chkFunc X f m = true) (hp : PrimOkX X C) {n f : Nat} (hne : C.prim f [] C.gl = none) (hr : isTrue (acall C n f [] C.gl) = true) (w : World) :
    Calls X.P f #[] w fun e w' => e = .returned (.bool true) ∧ Below w.heap.size w w' := by
  obtain ⟨h', ws, hr⟩ := isTrue_elim hr
  have hd : ∀ (i : Nat) (x : ABlk), C.gl[i]? = some x → x.st = .dead := fun i x hi => isDead_elim hgl hi
  have hok := (acall_both C (B := w.heap.size) (ρg := ⟨X.gid, fun _ => 0, fun _ => 0⟩) hm hG hmp hp.1 (hp.2 _ _) n f [] C.gl _ hr).1 hne
  have hrep : Rep w.heap.size ⟨X.gid, fun _ => 0, fun _ => 0⟩ C.gl w :=
    ⟨fun i x hi hn => absurd (hd i x hi) hn, fun i x t hi ht => (by rw [hd i x hi] at ht; cases ht), fun i x hi hn => absurd (hd i x hi) hn, fun i x o hi ht => (by rw [hd i x hi] at ht; cases ht), fun i x hi ht => (by rw [hd i x hi] at ht; cases ht), fun i j x y o hi _ _ ht => (by rw [hd i x hi] at ht; cases ht)⟩
  have hst : St w.heap.size ⟨X.gid, fun _ => 0, fun _ => 0⟩ C.gl X.gid ⟨X.gid, fun _ => 0, fun _ => 0⟩ C.gl w :=
    ⟨hrep, hrep, fun i x hi => Or.inr (hd i x hi), Nat.le_refl _, fun i hi => ⟨hi, rfl, rfl⟩, fun i hi => ⟨rfl, rfl⟩⟩
  refine Calls.mono (hok.2 _ w #[] hst rfl rfl) fun e w' he => ?_
  obtain ⟨x, rfl, ρ', ag, hx, _, _, fr, _⟩ := he
  simp only [R] at hx
  subst hx
  exact ⟨rfl, fr.os, fr.tape, fr.output, fr.size, fun k hk => fr.keep k hk (by rintro ⟨i, y, o, hi, ht, _⟩; rw [hd i y hi] at ht; cases ht)⟩
theorem known_true : isTrue (acall CM 60 13 [] CM.gl) = true := by kernel_rfl
theorem combine_known (w : World) : Calls Go.Proofs.Try.prog 13 #[] w fun e w' => e = .returned (.bool true) ∧ Below w.heap.size w w' :=
  calls_closedX (X := X) CM follows rfl rfl mp_chk primOkM (n := 60) (f := 13) rfl known_true w
end Go.Proofs.YtcpiohklljppaaaW.AI.D

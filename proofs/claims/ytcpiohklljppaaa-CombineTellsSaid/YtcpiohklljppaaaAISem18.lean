import Derived.Test.YtcpiohklljppaaaAISem17
import Derived.Below
/-! A call without arguments, in a program without variables of its own. -/
namespace Go.Proofs.YtcpiohklljppaaaW.AI
open Go Go.RowKit
set_option linter.unusedVariables false

/-- No function is taken on trust. -/
theorem noPrim_steady {C : Cfg} (h : C.prim = fun _ _ _ => none) : ∀ f vs h r, C.prim f vs h = some (some r) → Steady h r.2.1 r.2.2 := by
  intro f vs h' r hr; rw [h] at hr; cases hr

theorem callOk_plain {X : Ctx} (C : Cfg) {B : Nat} {ρg : Env} (hm : X.P.follows .mixedOrders = true) (hG : C.gl.length = X.G) (hmp : ∀ f m, C.mp f = some m → chkFunc X f m = true) (hp : C.prim = fun _ _ _ => none) (n : Nat) : CallOk X B ρg C.gl (acall C n) :=
  fun f vs h r e => Or.inl (acall_sound C hm hG hmp (noPrim_steady hp) (fun f vs h r hr => by rw [hp] at hr; cases hr) n f vs h r e)

theorem lookup_mem {l : List (Nat × MFunc)} {f : Nat} {m : MFunc} (h : l.lookup f = some m) : (f, m) ∈ l := by
  induction l with
  | nil => cases h
  | cons p l ih =>
    obtain ⟨g, m'⟩ := p
    simp only [List.lookup] at h
    split at h
    · rename_i he
      cases h
      have : f = g := by simpa using he
      subst this
      exact List.mem_cons_self
    · exact List.mem_cons_of_mem _ (ih h)

def isTrue : Option (AV × AHeap × List Nat) → Bool
  | some (.bool true, _, _) => true
  | _ => false

theorem isTrue_elim {r : Option (AV × AHeap × List Nat)} (h : isTrue r = true) : ∃ h' ws, r = some (.bool true, h', ws) := by
  unfold isTrue at h
  split at h
  · exact ⟨_, _, rfl⟩
  · cases h

def isDead (x : ABlk) : Bool := match x.st with | .dead => true | _ => false

theorem isDead_elim {l : AHeap} (h : l.all isDead = true) {i : Nat} {x : ABlk} (hi : l[i]? = some x) : x.st = .dead := by
  have := List.all_eq_true.1 h x (List.mem_of_getElem? hi)
  unfold isDead at this
  split at this
  · assumption
  · cases this

/-- What is asked of functions that are taken on a proof of their own. -/
def PrimOk (X : Ctx) (C : Cfg) : Prop :=
  (∀ f vs h r, C.prim f vs h = some (some r) → Steady h r.2.1 r.2.2) ∧
  ∀ (B : Nat) (ρg : Env) f vs h r, C.prim f vs h = some (some r) → chkCallee X f = true ∧ ∀ (ρ : Env) (w : World) (xs : Array Value), St B ρg C.gl X.gid ρ h w → AV.lts h.length vs = true → Rs ρ vs xs.toList →
      Calls X.P f xs w fun e w' => ∃ x, e = .returned x ∧ Post X B ρg C.gl ρ h w r.1 r.2.1 x w'

/-- The same, where a call may be answered at once, too. -/
def PrimOkX (X : Ctx) (C : Cfg) : Prop :=
  (∀ f vs h r, C.prim f vs h = some (some r) → Steady h r.2.1 r.2.2) ∧
  ∀ (B : Nat) (ρg : Env) f vs h r, C.prim f vs h = some (some r) → CallsOk X B ρg C.gl f vs h r ∨ RunsOk X B ρg C.gl f vs h r

theorem noPrim {X : Ctx} {C : Cfg} (h : C.prim = fun _ _ _ => none) : PrimOk X C :=
  ⟨noPrim_steady h, fun B ρg f vs h' r hr => by rw [h] at hr; cases hr⟩

/-- No argument, and no variable of the program is told of. -/
theorem calls_closed {X : Ctx} (C : Cfg) (hm : X.P.follows .mixedOrders = true) (hgl : C.gl.all isDead = true) (hG : C.gl.length = X.G) (hmp : ∀ f m, C.mp f = some m → chkFunc X f m = true) (hp : PrimOk X C) {n f : Nat} (hr : isTrue (acall C n f [] C.gl) = true) (w : World) :
    Calls X.P f #[] w fun e w' => e = .returned (.bool true) ∧ Below w.heap.size w w' := by
  obtain ⟨h', ws, hr⟩ := isTrue_elim hr
  have hd : ∀ (i : Nat) (x : ABlk), C.gl[i]? = some x → x.st = .dead := fun i x hi => isDead_elim hgl hi
  have hok := acall_sound C (B := w.heap.size) (ρg := ⟨X.gid, fun _ => 0, fun _ => 0⟩) hm hG hmp hp.1 (hp.2 _ _) n f [] C.gl _ hr
  have hrep : Rep w.heap.size ⟨X.gid, fun _ => 0, fun _ => 0⟩ C.gl w :=
    ⟨fun i x hi hn => absurd (hd i x hi) hn, fun i x t hi ht => (by rw [hd i x hi] at ht; cases ht), fun i x hi hn => absurd (hd i x hi) hn, fun i x o hi ht => (by rw [hd i x hi] at ht; cases ht), fun i x hi ht => (by rw [hd i x hi] at ht; cases ht), fun i j x y o hi _ _ ht => (by rw [hd i x hi] at ht; cases ht)⟩
  have hst : St w.heap.size ⟨X.gid, fun _ => 0, fun _ => 0⟩ C.gl X.gid ⟨X.gid, fun _ => 0, fun _ => 0⟩ C.gl w :=
    ⟨hrep, hrep, fun i x hi => Or.inr (hd i x hi), Nat.le_refl _, fun i hi => ⟨hi, rfl, rfl⟩, fun i hi => ⟨rfl, rfl⟩⟩
  refine Calls.mono (hok.2 _ w #[] hst rfl rfl) fun e w' he => ?_
  obtain ⟨x, rfl, ρ', ag, hx, _, _, fr, _⟩ := he
  simp only [R] at hx
  subst hx
  exact ⟨rfl, fr.os, fr.tape, fr.output, fr.size, fun k hk => fr.keep k hk (by rintro ⟨i, y, o, hi, ht, _⟩; rw [hd i y hi] at ht; cases ht)⟩

end Go.Proofs.YtcpiohklljppaaaW.AI

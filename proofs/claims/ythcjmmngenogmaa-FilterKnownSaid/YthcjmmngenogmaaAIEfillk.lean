import Derived.Test.YthcjmmngenogmaaAIEfil3
namespace Go.Proofs.YthcjmmngenogmaaW.AI.E
open Go Go.Proofs.YthcjmmngenogmaaW.AI Go.RowKit
set_option maxRecDepth 100000
set_option linter.unusedVariables false
/-- Without arguments, in a program of which some functions are answered on a proof of their own. -/
theorem calls_closedX {X : Ctx} (C : Cfg) (hm : X.P.follows .mixedOrders = true) (hgl : C.gl.all isDead = true) (hG : C.gl.length = X.G) (hmp : ∀ f m, C.mp f = some m → chkFunc X f m = true) (hp : PrimOkX X C) {n f : Nat} (hne : C.prim f [] C.gl = none) (hr : isTrue (acall C n f [] C.gl) = true) (w : World) :
    Calls X.P f #[] w fun e w' => e = .returned (.bool true) ∧ Below w.heap.size w w' := by
  obtain ⟨h', ws, hr⟩ := isTrue_elim hr
  have hd : ∀ (i : Nat) (x : ABlk), C.gl[i]? = some x → x.st = .dead := fun i x hi => isDead_elim hgl hi
  have hok := (acall_both C (B := w.heap.size) (ρg := ⟨X.gid, fun _ => 0, fun _ => 0⟩) hm hG hmp hp.1 (hp.2 _ _) n f [] C.gl _ hr).1 hne
  have hrep : Rep w.heap.size ⟨X.gid, fun _ => 0, fun _ => 0⟩ C.gl w :=
    ⟨fun i x hi hn => absurd (hd i x hi) hn, fun i x t hi ht => (by rw [hd i x hi] at ht; cases ht), fun i x hi hn => absurd (hd i x hi) hn, fun i x o hi ht => (by rw [hd i x hi] at ht; cases ht), fun i x hi ht => (by rw [hd i x hi] at ht; cases ht), fun i j x y o hi _ _ ht => (by rw [hd i x hi] at ht; cases ht)⟩
  have hst : St w.heap.size ⟨X.gid, fun _ => 0, fun _ => 0⟩ C.gl X.gid ⟨X.gid, fun _ => 0, fun _ => 0⟩ C.gl w :=
    ⟨hrep, hrep, fun i x hi => Or.inr (hd i x hi), Nat.le_refl _, fun i hi => ⟨hi, rfl, rfl⟩, fun i hi => ⟨rfl, rfl⟩⟩
  refine Calls.mono (hok.2 _ w #[] hst rfl rfl) fun e w' he => ?_
  obtain ⟨x, rfl, ρ', ag, hx, _, _, fr, _⟩ := he
  simp only [R] at hx
  subst hx
  exact ⟨rfl, fr.os, fr.tape, fr.output, fr.size, fun k hk => fr.keep k hk (by rintro ⟨i, y, o, hi, ht, _⟩; rw [hd i y hi] at ht; cases ht)⟩
/-- What some functions answer, by their contracts. -/
def told (f : Nat) (xs : List AV) (h : AHeap) : Option (AV × AHeap × List Nat) :=
  if f = 38 then match xs with
    | [.agg [.int .i64 a, .int .i64 l, .int .i64 u]] => some (.int .i64 (widS a l u), h, [])
    | _ => none
  else if f = 105 then match xs with
    | [.agg [.int .i64 a, .int .i64 l, .int .i64 u]] => some (.int .i64 (midS a l u), h, [])
    | _ => none
  else if f = 76 then match xs with
    | [.agg [.int .i64 a, .int .i64 l, .int .i64 u]] => some (.bool (mayS a l u), h, [])
    | _ => none
  else if f = 37 then match xs with
    | [.ptr p 0, .agg [.int .i64 a, .int .i64 l, .int .i64 u], .int .i64 raw] => match h[p]? with
      | some ⟨.tip false, .vals [.int .i64 t, .int .i64 f, .bool true]⟩ => if h.all (oldIn h.length) = true ∧ 1 ≤ t ∧ t ≤ 1000000000 ∧ 0 ≤ f ∧ f ≤ 500000 then
          some (if mayS a l u = true ∧ a ≤ raw ∧ raw ≤ 4611686018427387904 then .tup [spA raw (bro (l + downV t f (raw - a))) (bro (u + upV t f (raw - a))), .int .i64 0] else .tup [spA 0 0 0, .int .i64 1], h, []) else none
      | _ => none
    | _ => none
  else if f = 82 then match xs with
    | [.agg [.int .i64 a, .int .i64 l, .int .i64 u], .agg [.int .i64 a', .int .i64 l', .int .i64 u']] => some (.int .i64 (apS (a, l, u) (a', l', u')), h, [])
    | _ => none
  else if f = 102 then match xs with
    | [.int .i64 a, .int .i64 b] => if (-9223372036854775808 ≤ a ∧ a ≤ 9223372036854775807) ∧ -9223372036854775808 ≤ b ∧ b ≤ 9223372036854775807 then some (.int .i64 (sat (a + b)), h, []) else none
    | _ => none
  else none
theorem told_W {f : Nat} {xs : List AV} {h : AHeap} {r : AV × AHeap × List Nat} (e : told f xs h = some r) : W CP f xs h = some r := by
  unfold told at e
  split at e
  · rename_i hf; subst hf
    split at e
    · cases e; exact span_Width h
    · cases e
  split at e
  · rename_i hf; subst hf
    split at e
    · cases e; exact span_Mid h
    · cases e
  split at e
  · rename_i hf; subst hf
    split at e
    · cases e; exact span_May h
    · cases e
  split at e
  · rename_i hf; subst hf
    split at e
    · rename_i p a l u raw
      split at e
      · rename_i t f hp
        split at e
        · rename_i hc
          cases e
          exact Ruler_Age hc.1 ⟨hp, (List.getElem?_eq_some_iff.1 hp).1, hc.2⟩
        · cases e
      · cases e
    · cases e
  split at e
  · rename_i hf; subst hf
    split at e
    · rename_i a l u a' l' u'
      cases e; exact apart_c (a, l, u) (a', l', u') h
    · cases e
  split at e
  · rename_i hf; subst hf
    split at e
    · split at e
      · rename_i hc
        cases e; exact fix_AddSat hc.1 hc.2 h
      · cases e
    · cases e
  cases e
def primK (f : Nat) (xs : List AV) (h : AHeap) : Option (Option (AV × AHeap × List Nat)) :=
  match told f xs h with
  | some r => some (some r)
  | none => prim f xs h
def CK : Cfg := { mp := MP, gl := [⟨.dead, .vals []⟩, ⟨.dead, .vals []⟩], prim := primK }
theorem primOkK : PrimOkX X CK := by
  have key : ∀ f vs h r, primK f vs h = some (some r) → W CP f vs h = some r := by
    intro f vs h r hr
    unfold primK at hr
    split at hr
    · rename_i r' hr'
      cases hr
      exact told_W hr'
    · refine W_eq.2 ⟨1, ?_⟩
      have : CP.prim f vs h = some (some r) := hr
      rw [acall, this]
  refine ⟨fun f vs h r hr => ?_, fun B ρg f vs h r hr => ?_⟩
  · obtain ⟨n, e⟩ := W_eq.1 (key f vs h r hr)
    exact acall_steady primOk.1 n f vs h r e
  · obtain ⟨n, e⟩ := W_eq.1 (key f vs h r hr)
    exact (acall_both CP follows rfl mp_chk primOk.1 (primOk.2 B ρg) n f vs h r e).2
end Go.Proofs.YthcjmmngenogmaaW.AI.E

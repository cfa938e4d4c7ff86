import Derived.RangeFuncNested
import Derived.RangeFuncBound
import Derived.RangeFuncCalls
import Derived.RangeFuncLeaves
import Derived.Shelf.Abstract
import Derived.Shelf.RegionOpen
import Derived.WalkKit
import Derived.OwnWalkIn
import Derived.TacticsInMore
import Derived.LoopNIn
import Derived.LoopIn
import Derived.Test.YtdbdmnhnijpdcaaDoorProg
namespace Go.Proofs.YtdbdmnhnijpdcaaDoorW.AI.C
open Go Go.Proofs Go.RowKit Go.Shelf
attribute [local go_sem] Oper.semAt_some
set_option linter.unusedVariables false

/-- A digit's place, and how many bits stand behind it. -/
def encD (m : Nat) (x : Fin m) : Array Value := #[.int .i64 (x.val : Int), .int .i64 (8 * ((m : Int) - 1 - (x.val : Int)))]

/-- The first k places have come. -/
def Upto {m : Nat} (k : Nat) (pre : List (Fin m)) : Prop := pre.map (·.val) = List.range k

theorem Upto.snoc {m k : Nat} {pre : List (Fin m)} (h : Upto k pre) (hk : k < m) : Upto (k + 1) (pre ++ [⟨k, hk⟩]) := by
  unfold Upto at *
  rw [List.map_append, h, List.range_succ]; rfl

theorem Upto.length {m k : Nat} {pre : List (Fin m)} (h : Upto k pre) : pre.length = k := by
  have := congrArg List.length h
  simpa using this

/-- Block s stays as it is. -/
def KpS (s : Nat) (W W' : World) : Prop := ∀ v, W.cell? ⟨s, 0, none⟩ = some v → W'.cell? ⟨s, 0, none⟩ = some v

set_option maxRecDepth 100000 in
set_option maxHeartbeats 4000000 in
theorem digits1_in (F : Fence) (n : Nat) (h79 : F.fn 116) (hro : F.round = none) (hn : 1 ≤ n) (l s : Nat) (m : Nat) (hm : m ≤ 1000000) (J Jx : List (Fin m) → World → Prop)
    (hY : ∀ pre x W, J pre W → pre.length < m → YieldAt F (n - 1) Tryd.prog l (encD m x) W fun e W' =>
      (e = .returned (.bool true) ∧ J (pre ++ [x]) W' ∧ KpS s W W') ∨ (e = .returned (.bool false) ∧ Jx (pre ++ [x]) W'))
    (W : World) (hs : W.cell? ⟨s, 0, none⟩ = some (.int .i64 m)) (h0 : J [] W) :
    CallsIn F n Tryd.prog 116 #[.func (.yield l) #[] #[], .pointer (some ⟨s, 0, none⟩)] W fun e W' => (∃ v, e = .returned v) ∧
      ((∃ ys, Upto m ys ∧ J ys W') ∨ (∃ pre, (∃ k, k ≤ m ∧ Upto k pre) ∧ Jx pre W')) := by
  refine callsIn_of_wp Tryd.func116 rfl h79 ?_ hro
  simp only [Tryd.ntmps116, List.size_toArray, List.length_cons, List.length_nil, Nat.reduceAdd, Nat.reduceSub, Array.replicate_succ, Array.replicate_zero, List.push_toArray, List.append_toArray, List.nil_append, List.cons_append]
  gi_wp2
  gi_loopw [3] (fun i wr => ∃ (k : Nat) (pre : List (Fin m)), k ≤ m ∧ i = .int .i64 k ∧ Upto k pre ∧ J pre wr ∧ wr.cell? ⟨s, 0, none⟩ = some (.int .i64 m))
    (fun i _ => m - (intOf i).toNat)
  case atStart => exact ⟨0, [], Nat.zero_le _, rfl, rfl, h0, hs⟩
  case round =>
    obtain ⟨k, pre, hk, rfl, hup, hJs, hc⟩ := hrel
    by_cases hlt : k < m
    · obtain ⟨fn, tmps, assign, body, hy, hR⟩ := hY _ ⟨k, hlt⟩ wr hJs (by rw [hup.length]; exact hlt)
      dsimp only [encD] at hy
      gi_wp2
      refine hR.mono ?_
      rintro e W3 (⟨rfl, hJ3, hk3⟩ | ⟨rfl, hJx3⟩)
      · gi_wp2
        go_roundw
        case rel => exact ⟨k + 1, _, by omega, by simp, hup.snoc hlt, hJ3, hk3 _ hc⟩
        case measure => simp [intOf]; omega
      · gi_wp2
        refine bodyPost_end (results_none rfl _ _ _) rfl ?_
        exact ⟨⟨_, rfl⟩, .inr ⟨_, ⟨k + 1, by omega, hup.snoc hlt⟩, hJx3⟩⟩
    · have hkm : k = m := by omega
      subst hkm
      gi_wp2
      refine ⟨fun f h => (by cases h), ?_⟩
      gi_wp2
      refine bodyPost_end (results_none rfl _ _ _) rfl ?_
      exact ⟨⟨_, rfl⟩, .inl ⟨_, hup, hJs⟩⟩

end Go.Proofs.YtdbdmnhnijpdcaaDoorW.AI.C

import Derived.Test.YtcpiohklljppaaaAIDcmb4
import Derived.Shelf.Abstract
import Derived.WalkKit
import Derived.OwnWalkIn
import Derived.TacticsInMore
import Derived.LoopNIn
import Derived.LoopIn
import Derived.RegionIn
import Derived.Shelf.RegionOpen
import Derived.RangeFuncWrites
namespace Go.Proofs.YtcpiohklljppaaaW.AI.D
open Go Go.Proofs.YtcpiohklljppaaaW.AI Go.RowKit Go.Shelf
set_option maxRecDepth 100000
set_option linter.unusedSimpArgs false
set_option linter.unusedVariables false
set_option linter.unusedSectionVars false
/-- Cells lie as they lay, but for one block. -/
def KC (b0 : Nat) (A B : World) : Prop := A.heap.size ≤ B.heap.size ∧ ∀ (k : Nat) (o : Obj), k ≠ b0 → A.heap[k]? = some o → o.isCells = true → B.heap[k]? = some o
theorem KC.refl (b0 : Nat) (A : World) : KC b0 A A := ⟨Nat.le_refl _, fun _ _ _ h _ => h⟩
theorem KC.trans {b0 : Nat} {A B C : World} (h : KC b0 A B) (k : KC b0 B C) : KC b0 A C := ⟨Nat.le_trans h.1 k.1, fun i o hi ho hc => k.2 i o hi (h.2 i o hi ho hc) hc⟩
theorem KC.below {b0 : Nat} {A B : World} (h : Below A.heap.size A B) : KC b0 A B := ⟨h.size, fun k o _ hk _ => (h.block k (Array.getElem?_eq_some_iff.1 hk).1).trans hk⟩
theorem KC.cell {b0 : Nat} {A B : World} (h : KC b0 A B) {a : Addr} {v : Value} (hc : A.cell? a = some v) (hb : a.block ≠ b0) : B.cell? a = some v := by
  unfold World.cell? at hc ⊢
  cases ho : A.heap[a.block]? with
  | none => rw [ho] at hc; cases hc
  | some o =>
    rw [ho] at hc
    cases o with
    | cells c T fz => rw [h.2 _ _ hb ho rfl]; exact hc
    | _ => cases hc
theorem KC.cel {b0 b o : Nat} {A B : World} {l : List Int} (h : KC b0 A B) (hc : Cel A b o l) (hb : b ≠ b0) : Cel B b o l := fun j x hx => h.cell (hc j x hx) hb
theorem KC.putObj {b0 : Nat} (W : World) (l : Nat) (o o' : Obj) (h : W.heap[l]? = some o) (hc : o.isCells = false) : KC b0 W (W.putObj l o') :=
  ⟨by simp, fun k p hk hp hcp => by
    by_cases e : k = l
    · subst e; rw [h] at hp; cases hp; rw [hc] at hcp; cases hcp
    · exact (World.putObj_heap_other e).trans hp⟩
/-- A middle, brought into the hull; its weight. -/
def cm (L : List Sp) (lo hi : Int) (i : Nat) : Int := clamp (mS ((L[i]?).getD (0, 0, 0))) lo hi
def wtd (L : List Sp) (i : Nat) : Int := ((wts L)[i]?).getD 0
theorem cellk {A B : World} (h : Below A.heap.size A B) {a : Addr} {v : Value} (hc : A.cell? a = some v) : B.cell? a = some v := (h.cell (World.block_lt_of_cell? A a hc)).trans hc
theorem grown_of {A B : World} (h : Below A.heap.size A B) : A.grownBy B none := ⟨h.os, h.tape, h.output, h.size, fun k hk _ => h.block k hk⟩
theorem grown_drew (A : World) : A.grownBy (World.drew A) none := ⟨rfl, rfl, rfl, Nat.le_refl _, fun _ _ _ => rfl⟩
def upF (m k : Nat) (hk : k ≤ m) : List (Fin m) := (List.finRange m).take k
theorem upF_succ {m k : Nat} (hk : k < m) : (List.finRange m).take (k + 1) = (List.finRange m).take k ++ [⟨k, hk⟩] := by
  rw [List.take_add_one]
  congr 1
  rw [List.getElem?_eq_getElem (by simpa using hk)]
  simp
set_option maxHeartbeats 8000000 in
theorem mids_in {n : Nat} (hn : 1 ≤ n) (l Bs Bh b0 b o cap : Nat) (at' lo hi : Int) (L : List Sp) (h16 : L.length ≤ 16) (h0 : L ≠ []) (hmay : L.all mayB = true) (hcap : L.length ≤ cap) (J Jx : List (Fin L.length) → World → Prop)
    (hJk : ∀ s A B, J s A → A.grownBy B none → J s B)
    (hY : ∀ (pre : List (Fin L.length)) (x : Fin L.length) (W : World), J pre W → pre.length < L.length → YieldAt Fence.wide (n - 1) Go.Proofs.Try.prog l #[.int .i64 (cm L lo hi x), .int .i64 (wtd L x)] W fun e W' => ∃ bb, e = .returned (.bool bb) ∧ (bb = true → J (pre ++ [x]) W' ∧ KC b0 W W') ∧ (bb = false → Jx (pre ++ [x]) W'))
    (W : World) (nBs : Bs ≠ b0) (nBh : Bh ≠ b0) (nb : b ≠ b0) (lb0 : b0 < W.heap.size) (hBs : W.cell? ⟨Bs, 0, none⟩ = some (.slice (some ⟨b, o, none⟩) L.length cap)) (hh : Cel W Bh 0 [at', lo, hi]) (hc : Cel W b o (flat3 L)) (hJ0 : J [] W) :
    CallsIn Fence.wide n Go.Proofs.Try.prog 81 #[.func (.yield l) #[] #[], .pointer (some ⟨Bs, 0, none⟩), .pointer (some ⟨Bh, 0, none⟩)] W fun e W' => (∃ v, e = .returned v) ∧ (J (List.finRange L.length) W' ∨ ∃ pre, Jx pre W') := by
  refine callsIn_of_wp Go.Proofs.Try.func81 rfl trivial ?_ rfl
  simp only [Go.Proofs.Try.ntmps81, List.size_toArray, List.length_cons, List.length_nil, Nat.reduceAdd, Nat.reduceSub, Array.replicate_succ, Array.replicate_zero, List.push_toArray, List.append_toArray, List.nil_append, List.cons_append]
  have hL1 : 0 < L.length := List.length_pos_iff.2 h0
  have hWc := hBs
  have hg36 := weights_raw hc hcap h16 h0 hmay
  clear hWc
  gi_wp2_with (refine ⟨trivial, ?_⟩; gi_at_call 36; refine (callsIn_wide.2 hg36).mono ?_; rintro e W1 ⟨xw, rfl, hB, bw, ow, capw, rfl, hbw, hcw⟩)
  have hll : (wts L).length = L.length := wts_len L
  simp only [hll]
  have hK1 : KC b0 W W1 := KC.below hB
  have hJ1 : J [] W1 := hJk _ _ _ hJ0 ⟨hB.os, hB.tape, hB.output, hB.size, fun k hk _ => hB.block k hk⟩
  have nbw : bw ≠ b0 := by omega
  have hBs1 := hK1.cell hBs nBs
  have hh1 := hK1.cel hh nBh
  have hc1 := hK1.cel hc nb
  clear hJ0 hBs hh hc hK1 hB hg36
  gi_loopw [9] (fun i wr => ∃ k : Nat, k ≤ L.length ∧ i = .int .i64 k ∧ J ((List.finRange L.length).take k) wr ∧ KC b0 W1 wr)
    (fun i _ => L.length - (intOf i).toNat)
  case atStart => exact ⟨0, Nat.zero_le _, rfl, by simpa using hJ1, KC.refl _ _⟩
  case round =>
    obtain ⟨k, hk, rfl, hJs, hnx⟩ := hrel
    have cBs := hnx.cell hBs1 nBs
    have cH := hnx.cel hh1 nBh
    have cL := hnx.cel hc1 nb
    have cW := hnx.cel hcw nbw
    by_cases hlt : k < L.length
    · obtain ⟨s, hs⟩ : ∃ s, L[k]? = some s := ⟨_, List.getElem?_eq_getElem hlt⟩
      obtain ⟨g1, g2, g3⟩ := flat3_get hs
      have q1 := cL _ _ g1
      have q2 : wr.cell? ⟨b, o + k * 3 + 1, none⟩ = some (.int .i64 s.2.1) := cL _ _ g2
      have q3 : wr.cell? ⟨b, o + k * 3 + 2, none⟩ = some (.int .i64 s.2.2) := cL _ _ g3
      have qlo : wr.cell? ⟨Bh, 1, none⟩ = some (.int .i64 lo) := cH 1 lo rfl
      have qhi : wr.cell? ⟨Bh, 2, none⟩ = some (.int .i64 hi) := cH 2 hi rfl
      have qw : wr.cell? ⟨bw, ow + k, none⟩ = some (.int .i64 (wtd L k)) := cW k _ (by unfold wtd; rw [List.getElem?_eq_getElem (by omega)]; rfl)
      clear cH cL cW
      have hmx : Go.Proofs.Try.prog.follows .mixedOrders = true := by kernel_rfl
      have hJd := hJk _ _ _ hJs (grown_drew wr)
      have hpl : ((List.finRange L.length).take k).length < L.length := by simp; omega
      have hsw : cm L lo hi k = clamp (mS s) lo hi := by unfold cm; rw [hs]; rfl
      gi_wp2
      gi_region_with_o (first
        | (refine ⟨trivial, ?_⟩; gi_at_call 31; refine (callsIn_wide.2 (mid_raw s)).mono ?_; rintro e w2 ⟨rfl, hB2⟩; have qlo2 := cellk hB2 (a := ⟨Bh, 1, none⟩) qlo; have qhi2 := cellk hB2 (a := ⟨Bh, 2, none⟩) qhi; have hJ2 := hJk _ _ _ hJd (grown_of hB2))
        | (refine ⟨trivial, ?_⟩; gi_at_call 73; refine (callsIn_wide.2 (clamp_raw (mS s) lo hi)).mono ?_; rintro e w3 ⟨rfl, hB3⟩; have hJ3 := hJk _ _ _ hJ2 (grown_of hB3); obtain ⟨fn, tmps, asg, bdy, hy, hR⟩ := hY _ ⟨k, hlt⟩ w3 hJ3 hpl; simp only [hsw] at hy)
        | (refine hR.mono ?_; rintro e w4 ⟨bb, rfl, hJ4, hX4⟩))
      all_goals gi_wp2
      all_goals first
        | (refine bodyPost_ret (results_none rfl _ _ _) rfl ?_; exact ⟨⟨_, rfl⟩, .inr ⟨_, hX4 (by simp_all)⟩⟩)
        | (go_roundw
           case rel =>
             have hbt : bb = true := by simp_all
             exact ⟨k + 1, by omega, by simp, by rw [upF_succ hlt]; exact (hJ4 hbt).1, hnx.trans ((KC.below hB2).trans ((KC.below hB3).trans (hJ4 hbt).2))⟩
           case measure => (simp [intOf]; omega))
    · obtain rfl : k = L.length := by omega
      gi_wp2
      go_end0
      exact ⟨⟨_, rfl⟩, .inl (by rw [List.take_of_length_le (by simp)] at hJs; exact hJs)⟩
end Go.Proofs.YtcpiohklljppaaaW.AI.D

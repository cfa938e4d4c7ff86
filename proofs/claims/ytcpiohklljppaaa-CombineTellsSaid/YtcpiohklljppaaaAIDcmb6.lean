import Derived.Test.YtcpiohklljppaaaAIDcmb5
import Derived.RangeFuncBox
import Derived.RangeFuncLeaves
import Derived.RangeFuncCalls
import Derived.TacticsIn
namespace Go.Proofs.YtcpiohklljppaaaW.AI.D
open Go Go.Proofs.YtcpiohklljppaaaW.AI Go.RowKit Go.Shelf
set_option maxRecDepth 100000
set_option linter.unusedSimpArgs false
set_option linter.unusedVariables false
set_option linter.unusedSectionVars false
attribute [local go_sem] Oper.semAt_some
theorem middles_in {n : Nat} (hn : 1 ≤ n) (sa : Option Addr) (sn sc : Nat) (x y z : Int) (w : World) :
    CallsIn Fence.wide n Go.Proofs.Try.prog 58 #[.slice sa sn sc, .agg #[.int .i64 x, .int .i64 y, .int .i64 z]] w fun e w' => e = .returned (.func (.func 81) #[] #[.pointer (some ⟨w.heap.size, 0, none⟩), .pointer (some ⟨w.heap.size + 1, 0, none⟩)]) ∧ w' = (w.alloc (.cells #[.slice sa sn sc] 64)).alloc (.cells #[.int .i64 x, .int .i64 y, .int .i64 z] 33) := by
  refine callsIn_of_wp Go.Proofs.Try.func58 rfl trivial ?_ rfl
  simp only [Go.Proofs.Try.ntmps58, List.size_toArray, List.length_cons, List.length_nil, Nat.reduceAdd, Nat.reduceSub, Array.replicate_succ, Array.replicate_zero, List.push_toArray, List.append_toArray, List.nil_append, List.cons_append]
  gi_wp2
  go_ret
  exact ⟨rfl, rfl⟩
theorem KC.setCell {b0 : Nat} (W : World) (i : Nat) (v : Value) : KC b0 W (W.setCell ⟨b0, i, none⟩ v) :=
  ⟨(KeepsWalks.setCell W _ v).size, fun k o hk hp _ => (Below.heap_setCell _ _ _ k hk).trans hp⟩
/-- A sum, as the program adds. -/
def sumF {m : Nat} (q : Fin m → Int) (l : List (Fin m)) : Int := l.foldl (fun s i => wrap64 (s + q i)) 0
theorem sumF_snoc {m : Nat} (q : Fin m → Int) (l : List (Fin m)) (x : Fin m) : sumF q (l ++ [x]) = wrap64 (sumF q l + q x) := by simp [sumF]
set_option maxHeartbeats 8000000 in
theorem added_in {n : Nat} (hn : 5 ≤ n) (g : Nat) (caps : Array Value) (Bl Bh b o cap : Nat) (at' lo hi : Int) (L : List Sp) (h16 : L.length ≤ 16) (h0 : L ≠ []) (hmay : L.all mayB = true) (hcap : L.length ≤ cap) (w : World)
    (hBl : w.cell? ⟨Bl, 0, none⟩ = some (.slice (some ⟨b, o, none⟩) L.length cap)) (hh : Cel w Bh 0 [at', lo, hi]) (hc : Cel w b o (flat3 L)) (eg : ∀ args w, (callFunc g args).run Go.Proofs.Try.prog w = .ok (.enter g args) w) (q er : Fin L.length → Int)
    (hP : ∀ (x : Fin L.length) (W : World), Below w.heap.size w W → Calls Go.Proofs.Try.prog g (#[.int .i64 (cm L lo hi x), .int .i64 (wtd L x)] ++ caps) W fun e W' => e = .returned (.tuple #[.int .i64 (q x), .int .i64 (er x)]) ∧ Below W.heap.size W W') :
    CallsIn Fence.wide n Go.Proofs.Try.prog 59 #[.func (.func g) #[] caps, .pointer (some ⟨Bl, 0, none⟩), .pointer (some ⟨Bh, 0, none⟩)] w fun e W' => e = .returned (.int .i64 (sumF q (List.finRange L.length))) ∧ Below w.heap.size w W' := by
  refine callsIn_of_wp_marks Go.Proofs.Try.func59 rfl trivial ?_ rfl
  simp only [Go.Proofs.Try.ntmps59, List.size_toArray, List.length_cons, List.length_nil, Nat.reduceAdd, Nat.reduceSub, Array.replicate_succ, Array.replicate_zero, List.push_toArray, List.append_toArray, List.nil_append, List.cons_append]
  have q0 : w.cell? ⟨Bh, 0, none⟩ = some (.int .i64 at') := hh 0 at' rfl
  have q1 : w.cell? ⟨Bh, 1, none⟩ = some (.int .i64 lo) := hh 1 lo rfl
  have q2 : w.cell? ⟨Bh, 2, none⟩ = some (.int .i64 hi) := hh 2 hi rfl
  have hB2 : Below w.heap.size w ((w.alloc (.cells #[.func (.func g) #[] caps] 95)).alloc (.cells #[.int .i64 0] 2)) := ((Below.refl _ w).alloc (Nat.le_refl _) _).alloc (by simp) _
  have rl := cellk hB2 hBl
  have r0 := cellk hB2 q0
  have r1 := cellk hB2 q1
  have r2 := cellk hB2 q2
  gi_wp2_with (refine ⟨trivial, fun _ => by omega, ?_⟩; gi_at_call 58; refine (middles_in (by omega) _ _ _ _ _ _ _).mono ?_; rintro e w' ⟨rfl, rfl⟩)
  have hbw : b < w.heap.size := by
    obtain ⟨s, hs⟩ := List.exists_mem_of_ne_nil L h0
    obtain ⟨k, hk, rfl⟩ := List.getElem_of_mem hs
    exact World.block_lt_of_cell? w _ (hc _ _ (flat3_get (List.getElem?_eq_getElem hk)).1)
  have e1 : ((w.alloc (.cells #[.func (.func g) #[] caps] 95)).alloc (.cells #[.int .i64 0] 2)).heap.size = w.heap.size + 1 + 1 := by simp
  have hB3 := hB2.alloc (Nat.le_trans (Nat.le_refl _) hB2.size) (.cells #[.slice (some ⟨b, o, none⟩) L.length cap] 64)
  have hB4 := hB3.alloc (Nat.le_trans (Nat.le_refl _) hB3.size) (.cells #[.int .i64 at', .int .i64 lo, .int .i64 hi] 33)
  have bP := (((Boxed.new w 95 (.func (.func g) #[] caps)).alloc (.cells #[.int .i64 0] 2)).alloc (.cells #[.slice (some ⟨b, o, none⟩) L.length cap] 64)).alloc (.cells #[.int .i64 at', .int .i64 lo, .int .i64 hi] 33)
  have bS := ((Boxed.new (w.alloc (.cells #[.func (.func g) #[] caps] 95)) 2 (.int .i64 0)).alloc (.cells #[.slice (some ⟨b, o, none⟩) L.length cap] 64)).alloc (.cells #[.int .i64 at', .int .i64 lo, .int .i64 hi] 33)
  rw [World.size_alloc] at bS
  have bN := (Boxed.new ((w.alloc (.cells #[.func (.func g) #[] caps] 95)).alloc (.cells #[.int .i64 0] 2)) 64 (.slice (some ⟨b, o, none⟩) L.length cap)).alloc (.cells #[.int .i64 at', .int .i64 lo, .int .i64 hi] 33)
  rw [World.size_alloc, World.size_alloc] at bN
  have bH : Cel (((((w.alloc (.cells #[.func (.func g) #[] caps] 95)).alloc (.cells #[.int .i64 0] 2)).alloc (.cells #[.slice (some ⟨b, o, none⟩) L.length cap] 64))).alloc (.cells #[.int .i64 at', .int .i64 lo, .int .i64 hi] 33)) (w.heap.size + 1 + 1 + 1) 0 [at', lo, hi] := by
    have hn := World.alloc_heap_new (((w.alloc (.cells #[.func (.func g) #[] caps] 95)).alloc (.cells #[.int .i64 0] 2)).alloc (.cells #[.slice (some ⟨b, o, none⟩) L.length cap] 64)) (.cells #[.int .i64 at', .int .i64 lo, .int .i64 hi] 33)
    rw [World.size_alloc, World.size_alloc, World.size_alloc] at hn
    intro j x hx
    unfold World.cell?
    simp only [hn]
    rcases j with _ | _ | _ | j
    · simp_all
    · simp_all
    · simp_all
    · simp at hx
  have hcW := (fun (A : World) (h : Below w.heap.size w A) => (fun j x hx => cellk h (hc j x hx) : Cel A b o (flat3 L)))
  generalize hW4 : ((((w.alloc (.cells #[.func (.func g) #[] caps] 95)).alloc (.cells #[.int .i64 0] 2)).alloc (.cells #[.slice (some ⟨b, o, none⟩) L.length cap] 64))).alloc (.cells #[.int .i64 at', .int .i64 lo, .int .i64 hi] 33) = W4 at bP bS bN bH hB4 ⊢
  have hz : W4.heap.size = w.heap.size + 4 := by rw [← hW4]; simp
  clear hW4 hB3 hB2 rl r0 r1 r2
  refine wpIn_rangeFunc_ownG rfl (by omega) (gf := 81) (lb := #[.pointer (some ⟨w.heap.size + 1 + 1, 0, none⟩), .pointer (some ⟨w.heap.size + 1 + 1 + 1, 0, none⟩)]) rfl trivial (Go.Proofs.enters_of Go.Proofs.Try.func81 (by kernel_rfl) rfl)
    (α := Fin L.length) (encs := fun x => #[.int .i64 (cm L lo hi x), .int .i64 (wtd L x)]) (Kp := KC (w.heap.size + 1)) (S := fun xs => xs = List.finRange L.length) (Sp := fun _ => True) (N := L.length) (w0 := W4)
    ?seq KC.trans (fun W l o o' _ h hc _ => KC.putObj W l o o' h hc) (Below.refl _ _) (fun _ => rfl)
    (fun pre W => (W.cell? ⟨w.heap.size + 1, 0, none⟩ = some (.int .i64 (sumF q pre)) ∧ W.frozen? ⟨w.heap.size + 1, 0, none⟩ = false ∧ W.cell? ⟨w.heap.size, 0, none⟩ = some (.func (.func g) #[] caps)) ∧ Below w.heap.size w W)
    (fun _ _ _ => False)
    (OwnFrom.and (Own.from (fun s A B row hs hg hr => ⟨cell_kept hs.1 hg hr, (frozen_kept hs.1 hg hr).trans hs.2.1, cell_kept hs.2.2 hg hr⟩) _) (ownFrom_below (Nat.le_refl _) (by omega)))
    (fun _ _ _ _ _ hs _ _ => hs)
    ⟨⟨bS.cell, bS.frozen, bP.cell⟩, hB4⟩
    (fun x => { tmps := #[.func (.func g) #[] caps, .pointer (some ⟨Bl, 0, none⟩), .pointer (some ⟨Bh, 0, none⟩), .pointer (some ⟨w.heap.size, 0, none⟩), .int .i64 0, .pointer (some ⟨w.heap.size + 1, 0, none⟩), .int .i64 (cm L lo hi x), .int .i64 (wtd L x), undef, undef, .slice (some ⟨b, o, none⟩) L.length cap, .agg #[.int .i64 at', .int .i64 lo, .int .i64 hi], .func (.func 81) #[] #[.pointer (some ⟨w.heap.size + 1 + 1, 0, none⟩), .pointer (some ⟨w.heap.size + 1 + 1 + 1, 0, none⟩)], .int .i64 (cm L lo hi x), .int .i64 (wtd L x), undef, undef, undef, undef, undef, undef, undef, undef, undef, undef, undef], defers := [] }) ?assign ?body ?done ?stop
  case seq =>
    intro l J Jx W hW hJa hJxa hY hJ0
    exact (mids_in (n := n - 1) (by omega) l (w.heap.size + 1 + 1) (w.heap.size + 1 + 1 + 1) (w.heap.size + 1) b o cap at' lo hi L h16 h0 hmay hcap J Jx (fun s A B hj hg => hJa s A B none hj hg (fun r e => by cases e))
      (fun pre x W1 hj hl => by
        obtain ⟨fn, tmps, asg, bdy, hy, hR⟩ := hY pre x W1 hj hl
        refine ⟨fn, tmps, asg, bdy, hy, hR.mono ?_⟩
        rintro e W' (⟨rfl, h1, h2⟩ | ⟨rfl, h1⟩)
        · exact ⟨true, rfl, (fun _ => ⟨h1, h2⟩), (fun h => by cases h)⟩
        · exact ⟨false, rfl, (fun h => by cases h), fun _ => h1⟩)
      W (by omega) (by omega) (by omega) (by have := hW.size; omega) (cellk hW bN.cell) (fun j x hx => cellk hW (bH j x hx)) (hcW W (hB4.trans (hW.mono hB4.size))) hJ0).mono fun e W' h => ⟨h.1, h.2.imp (fun h => ⟨_, rfl, h⟩) (fun ⟨pre, h⟩ => ⟨pre, trivial, h⟩)⟩
  case assign =>
    intro l x W K hK
    gi_wp2
    exact hK
  case body =>
    rintro l pre x W ⟨⟨hcs, hfs, hcp⟩, hB⟩ _
    have hd : 1 ≤ n - 1 - 1 := by omega
    have hmx : Go.Proofs.Try.prog.follows .mixedOrders = true := by kernel_rfl
    have hPW := fun (A : World) (hA : Below w.heap.size w A) => CallsIn.inRound l (n := n - 1 - 1 - 1) (callsIn_wide.2 (hP x A hA))
    gi_wp2
    refine ⟨trivial, (hPW W hB).mono ?_⟩
    rintro e W1 ⟨rfl, hB1⟩
    have hcs1 := cellk hB1 hcs
    have hfs1 := (hB1.frozen (p := ⟨w.heap.size + 1, 0, none⟩) (World.block_lt_of_cell? W _ hcs)).trans hfs
    have hcp1 := cellk hB1 hcp
    gi_wp2
    have hlt := World.block_lt_of_cell? W _ hcs
    have hko : KeepsOthers W W1 := ⟨hB1.size, fun k o hk _ => (hB1.block k (Array.getElem?_eq_some_iff.1 hk).1).trans hk⟩
    refine ⟨(hko.trans (KeepsOthers.setCell _ _ _)).from _, (KC.below hB1).trans (KC.setCell _ _ _), ⟨by rw [sumF_snoc]; exact World.cell?_setCell_same' _ _ _ (by rw [hcs1]; rfl), by rw [World.frozen?_setCell]; exact hfs1, (World.cell?_setCell_other _ _ _ _ (by simp)).trans hcp1⟩, (hB.trans (hB1.mono hB.size)).setCell (p := ⟨w.heap.size + 1, 0, none⟩) (by simp) _⟩
  case done =>
    rintro D xs W hD rfl ⟨⟨hcs, _⟩, hB⟩ hK
    gi_wp2
    refine ⟨by simp, .inl ⟨_, _, rfl, run_takeDeferred hK, ?_⟩⟩
    exact ⟨_, results_tmp rfl _ _ _, rfl, hB.trans (belowK_b (w := w) (Nat.le_refl _) W D _ _ (by omega) hK rfl rfl)⟩
  case stop =>
    rintro D c pre W _ _ h _
    exact h.elim
end Go.Proofs.YtcpiohklljppaaaW.AI.D

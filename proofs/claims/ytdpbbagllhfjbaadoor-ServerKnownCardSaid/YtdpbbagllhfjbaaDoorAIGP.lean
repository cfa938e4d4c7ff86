import Derived.RangeFuncNested
import Derived.RangeFuncBound
import Derived.RangeFuncCalls
import Derived.RangeFuncLeaves
import Derived.Shelf.Abstract
import Derived.Shelf.RegionOpen
import Derived.WalkKit
import Derived.OwnWalkIn
import Derived.TacticsInMore
import Derived.LoopNIn
import Derived.LoopIn
import Derived.Test.YtdpbbagllhfjbaaDoorProg
import Derived.Test.YtdpbbagllhfjbaaDoorAISemA
import Derived.Test.YtdpbbagllhfjbaaDoorAISem18
import Derived.Test.YtdpbbagllhfjbaaDoorAIG
namespace Go.Proofs.YtdpbbagllhfjbaaDoorW.AI.G
open Go Go.Proofs Go.RowKit Go.Shelf
attribute [local go_sem] Oper.semAt_some
set_option linter.unusedVariables false

/-- A digit's place, and how many bits stand behind it. -/
def encD (m : Nat) (x : Fin m) : Array Value := #[.int .i64 (x.val : Int), .int .i64 (8 * ((m : Int) - 1 - (x.val : Int)))]

/-- The first k places have come. -/
def Upto {m : Nat} (k : Nat) (pre : List (Fin m)) : Prop := pre.map (·.val) = List.range k

theorem Upto.snoc {m k : Nat} {pre : List (Fin m)} (h : Upto k pre) (hk : k < m) : Upto (k + 1) (pre ++ [⟨k, hk⟩]) := by
  unfold Upto at *
  rw [List.map_append, h, List.range_succ]; rfl

theorem Upto.length {m k : Nat} {pre : List (Fin m)} (h : Upto k pre) : pre.length = k := by
  have := congrArg List.length h
  simpa using this

/-- Block s stays as it is. -/
def KpS (s : Nat) (W W' : World) : Prop := ∀ v, W.cell? ⟨s, 0, none⟩ = some v → W'.cell? ⟨s, 0, none⟩ = some v

set_option maxRecDepth 100000 in
set_option maxHeartbeats 4000000 in
theorem digits1_in (F : Fence) (n : Nat) (h79 : F.fn 119) (hro : F.round = none) (hn : 1 ≤ n) (l s : Nat) (m : Nat) (hm : m ≤ 1000000) (J Jx : List (Fin m) → World → Prop)
    (hY : ∀ pre x W, J pre W → pre.length < m → YieldAt F (n - 1) Tryd.prog l (encD m x) W fun e W' =>
      (e = .returned (.bool true) ∧ J (pre ++ [x]) W' ∧ KpS s W W') ∨ (e = .returned (.bool false) ∧ Jx (pre ++ [x]) W'))
    (W : World) (hs : W.cell? ⟨s, 0, none⟩ = some (.int .i64 m)) (h0 : J [] W) :
    CallsIn F n Tryd.prog 119 #[.func (.yield l) #[] #[], .pointer (some ⟨s, 0, none⟩)] W fun e W' => (∃ v, e = .returned v) ∧
      ((∃ ys, Upto m ys ∧ J ys W') ∨ (∃ pre, (∃ k, k ≤ m ∧ Upto k pre) ∧ Jx pre W')) := by
  refine callsIn_of_wp Tryd.func119 rfl h79 ?_ hro
  simp only [Tryd.ntmps119, List.size_toArray, List.length_cons, List.length_nil, Nat.reduceAdd, Nat.reduceSub, Array.replicate_succ, Array.replicate_zero, List.push_toArray, List.append_toArray, List.nil_append, List.cons_append]
  gi_wp2
  gi_loopw [3] (fun i wr => ∃ (k : Nat) (pre : List (Fin m)), k ≤ m ∧ i = .int .i64 k ∧ Upto k pre ∧ J pre wr ∧ wr.cell? ⟨s, 0, none⟩ = some (.int .i64 m))
    (fun i _ => m - (intOf i).toNat)
  case atStart => exact ⟨0, [], Nat.zero_le _, rfl, rfl, h0, hs⟩
  case round =>
    obtain ⟨k, pre, hk, rfl, hup, hJs, hc⟩ := hrel
    by_cases hlt : k < m
    · obtain ⟨fn, tmps, assign, body, hy, hR⟩ := hY _ ⟨k, hlt⟩ wr hJs (by rw [hup.length]; exact hlt)
      dsimp only [encD] at hy
      gi_wp2
      refine hR.mono ?_
      rintro e W3 (⟨rfl, hJ3, hk3⟩ | ⟨rfl, hJx3⟩)
      · gi_wp2
        go_roundw
        case rel => exact ⟨k + 1, _, by omega, by simp, hup.snoc hlt, hJ3, hk3 _ hc⟩
        case measure => simp [intOf]; omega
      · gi_wp2
        refine bodyPost_end (results_none rfl _ _ _) rfl ?_
        exact ⟨⟨_, rfl⟩, .inr ⟨_, ⟨k + 1, by omega, hup.snoc hlt⟩, hJx3⟩⟩
    · have hkm : k = m := by omega
      subst hkm
      gi_wp2
      refine ⟨fun f h => (by cases h), ?_⟩
      gi_wp2
      refine bodyPost_end (results_none rfl _ _ _) rfl ?_
      exact ⟨⟨_, rfl⟩, .inl ⟨_, hup, hJs⟩⟩

end Go.Proofs.YtdpbbagllhfjbaaDoorW.AI.G
namespace Go.Proofs.YtdpbbagllhfjbaaDoorW.AI.G
open Go Go.Proofs Go.RowKit Go.Shelf
attribute [local go_sem] Oper.semAt_some
set_option linter.unusedVariables false

structure Only (b B : Nat) (w W : World) : Prop where
  os : W.os = w.os
  tape : W.tape = w.tape
  output : W.output = w.output
  size : w.heap.size ≤ W.heap.size
  block : ∀ k, k < B → k ≠ b → W.heap[k]? = w.heap[k]?

theorem digits_in (F : Fence) (n : Nat) (h77 : F.fn 106) (hro : F.round = none) (m : Int) (w : World) :
    CallsIn F n Tryd.prog 106 #[.int .i64 m] w fun e w' => e = .returned (.func (.func 119) #[] #[.pointer (some ⟨w.heap.size, 0, none⟩)]) ∧ w' = w.alloc (.cells #[.int .i64 m] 3) := by
  refine callsIn_of_wp Tryd.func106 rfl h77 ?_ hro
  simp only [Tryd.ntmps106, List.size_toArray, List.length_cons, List.length_nil, Nat.reduceAdd, Nat.reduceSub, Array.replicate_succ, Array.replicate_zero, List.push_toArray, List.append_toArray, List.nil_append, List.cons_append]
  gi_wp2
  go_ret
  exact ⟨rfl, rfl⟩

theorem kpS_t {s : Nat} {A B C : World} (h : KpS s A B) (k : KpS s B C) : KpS s A C := fun v hv => k v (h v hv)
theorem kpS_b {s : Nat} (W : World) (l : Nat) (o o' : Obj) (h : W.heap[l]? = some o) (hc : o.isCells = false) : KpS s W (W.putObj l o') := fun v hv =>
  cell_kept hv (grownBy_putObj' W l o') (fun r e => by cases e; exact ⟨_, h, hc⟩)

/-- The digit that stands at a place. -/
def digit (v : Int) (m k : Nat) : Value := .int .u8 (v / 2 ^ min (8 * (m - 1 - k)) 64 % 256)

def laidN (g : Nat → Value) (q : Nat) (arr : Array Value) (l : List Nat) : Array Value := l.foldl (fun a k => a.setIfInBounds (q + k) (g k)) arr

/-- The bytes laid so far. -/
def laid (g : Nat → Value) (q : Nat) {m : Nat} (arr : Array Value) (pre : List (Fin m)) : Array Value := pre.foldl (fun a x => a.setIfInBounds (q + x.val) (g x.val)) arr

theorem laid_eq (g : Nat → Value) (q : Nat) {m : Nat} : ∀ (pre : List (Fin m)) (arr : Array Value), laid g q arr pre = laidN g q arr (pre.map (·.val))
  | [], _ => rfl
  | x :: pre, arr => by simp only [laid, laidN, List.foldl_cons, List.map_cons]; exact laid_eq g q pre _

theorem laid_snoc (g : Nat → Value) (q : Nat) {m : Nat} (arr : Array Value) (pre : List (Fin m)) (x : Fin m) : laid g q arr (pre ++ [x]) = (laid g q arr pre).setIfInBounds (q + x.val) (g x.val) := by
  simp [laid]

theorem heap_setCell_at {W : World} {b off : Nat} {v : Value} {arr : Array Value} {T : TypeId} {fz : Nat × Nat} (h : W.heap[b]? = some (.cells arr T fz)) : (W.setCell ⟨b, off, none⟩ v).heap[b]? = some (.cells (arr.setIfInBounds off v) T fz) := by
  simp only [World.setCell, Array.getElem?_modify, h, if_true, Option.map_some]
  rfl

theorem Only.refl (b B : Nat) (w : World) : Only b B w w := ⟨rfl, rfl, rfl, Nat.le_refl _, fun _ _ _ => rfl⟩

theorem Only.setCell {b B off : Nat} {w W : World} (h : Only b B w W) (v : Value) : Only b B w (W.setCell ⟨b, off, none⟩ v) :=
  ⟨h.os, h.tape, h.output, by have := h.size; simp only [World.setCell, Array.size_modify]; exact this, fun k hk hne => (Below.heap_setCell W ⟨b, off, none⟩ v k hne).trans (h.block k hk hne)⟩

def InvW (g : Nat → Value) (b q : Nat) {m : Nat} (arr : Array Value) (T : TypeId) (fz : Nat × Nat) (w : World) (sv nv : Value) (pre : List (Fin m)) (W : World) : Prop :=
  W.cell? ⟨w.heap.size, 0, none⟩ = some sv ∧ W.cell? ⟨w.heap.size + 1, 0, none⟩ = some nv ∧ W.heap[b]? = some (.cells (laid g q arr pre) T fz) ∧ Only b w.heap.size w W

/-- One digit more. -/
theorem invW_step {g : Nat → Value} {b q m : Nat} {arr : Array Value} {T : TypeId} {fz : Nat × Nat} {w W : World} {sv nv : Value} {pre : List (Fin m)} (h : InvW g b q arr T fz w sv nv pre W) (hbw : b < w.heap.size) (x : Fin m) (u : Value) (hu : u = g x.val) (a : Act) :
    ownPostK (KpS (w.heap.size + 2)) (InvW g b q arr T fz w sv nv) (fun _ _ _ => False) (pre ++ [x]) W .normal a (W.setCell ⟨b, q + x.val, none⟩ u).drew := by
  obtain ⟨h1, h2, h3, h4⟩ := h
  subst hu
  have ne : ∀ (s : Nat), w.heap.size ≤ s → ∀ y, W.cell? ⟨s, 0, none⟩ = some y → (W.setCell ⟨b, q + x.val, none⟩ (g x.val)).drew.cell? ⟨s, 0, none⟩ = some y := by
    intro s hs y hy
    rw [cell_drew_own]
    rw [World.cell?_of_block (w := W) (a := ⟨s, 0, none⟩) (Below.heap_setCell W ⟨b, q + x.val, none⟩ (g x.val) s (by simp only; omega))]
    exact hy
  refine ⟨(KeepsOthers.setCell _ _ _).trans (KeepsOthers.drew _), fun y hy => ne _ (by omega) y hy, ne _ (Nat.le_refl _) _ h1, ne _ (by omega) _ h2, ?_, ?_⟩
  · rw [laid_snoc]
    exact heap_setCell_at h3
  · have := h4.setCell (off := q + x.val) (g x.val)
    exact ⟨this.os, this.tape, this.output, this.size, this.block⟩

theorem laid_size (g : Nat → Value) (q : Nat) {m : Nat} : ∀ (pre : List (Fin m)) (arr : Array Value), (laid g q arr pre).size = arr.size := by
  intro pre
  induction pre with
  | nil => intro arr; rfl
  | cons x pre ih => intro arr; simp only [laid, List.foldl_cons] at ih ⊢; rw [ih]; simp

theorem onlyFrom {β : Type} {b B : Nat} {w : World} (hB : w.heap.size ≤ B) : OwnFrom B (fun (_ : β) W => Only b w.heap.size w W) := fun s W W' row hs hg hr =>
  ⟨hg.os.trans hs.os, hg.tape.trans hs.tape, hg.output.trans hs.output, Nat.le_trans hs.size hg.size, fun k hk hne => (hg.block k (Nat.lt_of_lt_of_le hk hs.size) (fun e => by have := (hr k e.symm).1; omega)).trans (hs.block k hk hne)⟩

theorem invW_own {g : Nat → Value} {b q m : Nat} {arr : Array Value} {T : TypeId} {fz : Nat × Nat} {w : World} {sv nv : Value} {B : Nat} (hB : w.heap.size ≤ B) : OwnFrom B (InvW g b q (m := m) arr T fz w sv nv) := fun s W W' row hs hg hr => by
  obtain ⟨h1, h2, h3, h4⟩ := hs
  have hr' := fun r e => (hr r e).2
  exact ⟨cell_kept h1 hg hr', cell_kept h2 hg hr', (grownBy_keeps_cells hg hr' h3 rfl).trans h3, onlyFrom (β := Unit) hB () W W' row h4 hg hr⟩

theorem digits_stops (F : Fence) (n : Nat) (h79 : F.fn 119) (hro : F.round = none) (hn : 1 ≤ n) (s m : Nat) (hm : m ≤ 1000000) (w : World) (hs : s < w.heap.size) (hc : w.cell? ⟨s, 0, none⟩ = some (.int .i64 m)) :
    SeqStopsK F n Tryd.prog 119 #[.pointer (some ⟨s, 0, none⟩)] (encD m) (KpS s) (fun ys => Upto m ys) (fun pre => ∃ k, k ≤ m ∧ Upto k pre) m w := fun l J Jx W hW _ _ hY h0 =>
  digits1_in F n h79 hro hn l s m hm J Jx hY W ((hW.cell (p := ⟨s, 0, none⟩) hs).trans hc) h0

set_option maxRecDepth 100000 in
set_option maxHeartbeats 4000000 in
theorem write_in (F : Fence) (n : Nat) (h65 : F.fn 92) (h77 : F.fn 106) (h79 : F.fn 119) (hro : F.round = none) (hn : 4 ≤ n) (b q m cap : Nat) (hm : m ≤ 1000000) (v : Int) (arr : Array Value) (T : TypeId) (fz : Nat × Nat) (w : World)
    (hb : w.heap[b]? = some (.cells arr T fz)) (hq : q + m ≤ arr.size) (hfr : ∀ j, j < m → w.frozen? ⟨b, q + j, none⟩ = false) :
    CallsIn F n Tryd.prog 92 #[.slice (some ⟨b, q, none⟩) m cap, .int .u64 v] w fun e W' => e = .returned (.tuple #[]) ∧ Only b w.heap.size w W' ∧ W'.heap[b]? = some (.cells (laidN (digit v m) q arr (List.range m)) T fz) := by
  refine callsIn_of_wp_marks Tryd.func92 rfl h65 ?_ hro
  simp only [Tryd.ntmps92, List.size_toArray, List.length_cons, List.length_nil, Nat.reduceAdd, Nat.reduceSub, Array.replicate_succ, Array.replicate_zero, List.push_toArray, List.append_toArray, List.nil_append, List.cons_append]
  gi_wp2
  refine ⟨fun _ => by omega, (digits_in F (n - 1) h77 hro _ _).mono ?_⟩
  rintro e W1 ⟨rfl, rfl⟩
  gi_wp2
  have hbw : b < w.heap.size := (Array.getElem?_eq_some_iff.1 hb).1
  refine wpIn_rangeFunc_ownF hro (by omega) (gf := 119) (lb := #[.pointer (some ⟨w.heap.size + 2, 0, none⟩)]) (by simp [Act.eval]) h79 (enters_of Tryd.func119 (by kernel_rfl) rfl)
    (digits_stops F (n - 1) h79 hro (by omega) (w.heap.size + 2) m hm _ ?hs ?hc) kpS_t (fun W l o o' _ h1 h2 _ => kpS_b W l o o' h1 h2) (Below.refl _ _) (fun _ => rfl)
    (InvW (digit v m) b q arr T fz w (.slice (some ⟨b, q, none⟩) m cap) (.int .u64 v)) (fun _ _ _ => False) (invW_own ?own) (fun _ _ _ _ _ hs _ _ => hs)
    ?start
    (fun x => { tmps := #[.slice (some ⟨b, q, none⟩) m cap, .int .u64 v, .pointer (some ⟨w.heap.size, 0, none⟩), .pointer (some ⟨w.heap.size + 1, 0, none⟩), .int .i64 (x.val : Int), .int .i64 (8 * ((m : Int) - 1 - (x.val : Int))), .slice (some ⟨b, q, none⟩) m cap, .int .i64 m, .func (.func 119) #[] #[.pointer (some ⟨w.heap.size + 2, 0, none⟩)], .int .i64 (x.val : Int), .int .i64 (8 * ((m : Int) - 1 - (x.val : Int))), undef, undef, undef, undef, undef, undef, undef], defers := [] }) ?assign ?body ?done ?stop
  case hs => simp only [World.size_alloc]; omega
  case hc => go_simp
  case own => simp only [World.size_alloc]; omega
  case start =>
    unfold InvW
    refine ⟨?_, ?_, ?_, ?_⟩
    · go_simp
    · go_simp
    · rw [Below.heap_alloc _ _ b (by simp only [World.size_alloc]; omega), Below.heap_alloc _ _ b (by simp only [World.size_alloc]; omega), Below.heap_alloc _ _ b hbw]
      exact hb
    · exact ⟨rfl, rfl, rfl, by simp only [World.size_alloc]; omega, fun k hk _ => by
        rw [Below.heap_alloc _ _ k (by simp only [World.size_alloc]; omega), Below.heap_alloc _ _ k (by simp only [World.size_alloc]; omega), Below.heap_alloc _ _ k hk]⟩
  case assign =>
    intro l x W K hK
    simp only [encD]
    gi_wp2
    exact hK
  case body =>
    rintro l pre x W ⟨h1, h2, h3, h4⟩ _
    have hx := x.isLt
    have hsz : (laid (digit v m) q arr pre).size = arr.size := laid_size _ _ _ _
    obtain ⟨old, hold⟩ : ∃ old, W.cell? ⟨b, q + x.val, none⟩ = some old := by
      refine ⟨(laid (digit v m) q arr pre)[q + x.val]'(by omega), ?_⟩
      simp only [World.cell?, h3, Option.isSome_none, Bool.false_eq_true, if_false]
      exact Array.getElem?_eq_getElem _
    have hfz : W.frozen? ⟨b, q + x.val, none⟩ = false := by
      have := hfr x.val hx
      simp only [World.frozen?, hb] at this
      simp only [World.frozen?, h3]
      exact this
    have hmx : Tryd.prog.follows .mixedOrders = true := by kernel_rfl
    have hd1 : 1 ≤ n - 1 - 1 := by omega
    have hsh : ¬ (8 * ((m : Int) - 1 - (x.val : Int)) < 0) := by omega
    gi_wp2
    gi_region_o
    all_goals gi_wp2
    all_goals (try go_bits)
    all_goals exact invW_step ⟨h1, h2, h3, h4⟩ hbw x _ rfl _
  case done =>
    rintro D xs W hD hS ⟨h1, h2, h3, h4⟩ hK
    gi_wp2
    have hD' : w.heap.size ≤ D := by simp only [World.size_alloc] at hD; omega
    refine ⟨by simp, .inl ⟨_, _, rfl, run_takeDeferred hK, ?_⟩⟩
    refine ⟨_, results_none rfl _ _ _, rfl, ?_, ?_⟩
    · exact onlyFrom (β := Unit) (B := w.heap.size) (Nat.le_refl _) () W _ (some D) h4 (grownBy_putObj' W D (.deferred none)) (fun r e => by cases e; exact ⟨hD', _, hK, rfl⟩)
    · rw [World.putObj_heap_other (by omega), h3, laid_eq, hS]
  case stop =>
    rintro D c pre W _ _ h _
    exact h.elim

end Go.Proofs.YtdpbbagllhfjbaaDoorW.AI.G
namespace Go.Proofs.YtdpbbagllhfjbaaDoorW.AI.G
open Go Go.Proofs Go.RowKit Go.Shelf
attribute [local go_sem] Oper.semAt_some
set_option linter.unusedVariables false

/-- What has been read so far. -/
def accD (g : Nat → Int) (m : Nat) (s : Int) (k : Nat) : Int := bits BinOp.or IntKind.u64 s (IntKind.u64.wrap (IntKind.u64.wrap (g k) * 2 ^ min (8 * (m - 1 - k)) 64))
def accN (g : Nat → Int) (m : Nat) (l : List Nat) : Int := l.foldl (accD g m) 0

def InvV (g : Nat → Int) {m : Nat} (w : World) (sv : Value) (pre : List (Fin m)) (W : World) : Prop :=
  W.cell? ⟨w.heap.size, 0, none⟩ = some sv ∧ W.cell? ⟨w.heap.size + 1, 0, none⟩ = some (.int .u64 (accN g m (pre.map (·.val)))) ∧ W.frozen? ⟨w.heap.size + 1, 0, none⟩ = false ∧ Below w.heap.size w W

theorem invV_own {g : Nat → Int} {m : Nat} {w : World} {sv : Value} {B : Nat} (hB : w.heap.size ≤ B) : OwnFrom B (InvV g (m := m) w sv) := fun s W W' row hs hg hr => by
  obtain ⟨h1, h2, h3, h4⟩ := hs
  have hr' := fun r e => (hr r e).2
  exact ⟨cell_kept h1 hg hr', cell_kept h2 hg hr', (frozen_kept h2 hg hr').trans h3, ownFrom_below (β := Unit) (Nat.le_refl _) hB () W W' row h4 hg hr⟩

theorem accN_snoc (g : Nat → Int) (m : Nat) (l : List Nat) (k : Nat) : accN g m (l ++ [k]) = accD g m (accN g m l) k := by simp [accN]

theorem invV_step {g : Nat → Int} {m : Nat} {w W : World} {sv : Value} {pre : List (Fin m)} (h : InvV g w sv pre W) (x : Fin m) (u : Int) (hu : u = accD g m (accN g m (pre.map (·.val))) x.val) (a : Act) :
    ownPostK (KpS (w.heap.size + 2)) (InvV g w sv) (fun _ _ _ => False) (pre ++ [x]) W .normal a (W.setCell ⟨w.heap.size + 1, 0, none⟩ (.int .u64 u)).drew := by
  obtain ⟨h1, h2, h3, h4⟩ := h
  subst hu
  have ne : ∀ (s : Nat), s ≠ w.heap.size + 1 → ∀ v y, W.cell? ⟨s, 0, none⟩ = some y → (W.setCell ⟨w.heap.size + 1, 0, none⟩ v).drew.cell? ⟨s, 0, none⟩ = some y := by
    intro s hs v y hy
    rw [cell_drew_own]
    rw [World.cell?_of_block (w := W) (a := ⟨s, 0, none⟩) (Below.heap_setCell W ⟨w.heap.size + 1, 0, none⟩ v s hs)]
    exact hy
  refine ⟨(KeepsOthers.setCell _ _ _).trans (KeepsOthers.drew _), fun y hy => ne _ (by omega) _ y hy, ne _ (by omega) _ _ h1, ?_, ?_, ?_⟩
  · rw [cell_drew_own, List.map_append, List.map_singleton, accN_snoc]
    exact World.cell?_setCell_same' _ _ _ (by rw [h2]; rfl)
  · rw [frozen_drew_own, World.frozen?_setCell]; exact h3
  · exact (h4.setCell (p := ⟨w.heap.size + 1, 0, none⟩) (by simp) _).drew

set_option maxRecDepth 100000 in
set_option maxHeartbeats 4000000 in
theorem value_in (F : Fence) (n : Nat) (h68 : F.fn 72) (h77 : F.fn 106) (h79 : F.fn 119) (hro : F.round = none) (hn : 4 ≤ n) (b q m cap : Nat) (hm : m ≤ 1000000) (g : Nat → Int) (w : World)
    (hb : b < w.heap.size) (hg : ∀ j, j < m → w.cell? ⟨b, q + j, none⟩ = some (.int .u8 (g j))) :
    CallsIn F n Tryd.prog 72 #[.slice (some ⟨b, q, none⟩) m cap] w fun e W' => e = .returned (.int .u64 (accN g m (List.range m))) ∧ Below w.heap.size w W' := by
  refine callsIn_of_wp_marks Tryd.func72 rfl h68 ?_ hro
  simp only [Tryd.ntmps72, List.size_toArray, List.length_cons, List.length_nil, Nat.reduceAdd, Nat.reduceSub, Array.replicate_succ, Array.replicate_zero, List.push_toArray, List.append_toArray, List.nil_append, List.cons_append]
  gi_wp2
  refine ⟨fun _ => by omega, (digits_in F (n - 1) h77 hro _ _).mono ?_⟩
  rintro e W1 ⟨rfl, rfl⟩
  gi_wp2
  refine wpIn_rangeFunc_ownF hro (by omega) (gf := 119) (lb := #[.pointer (some ⟨w.heap.size + 2, 0, none⟩)]) (by simp [Act.eval]) h79 (enters_of Tryd.func119 (by kernel_rfl) rfl)
    (digits_stops F (n - 1) h79 hro (by omega) (w.heap.size + 2) m hm _ ?hs ?hc) kpS_t (fun W l o o' _ h1 h2 _ => kpS_b W l o o' h1 h2) (Below.refl _ _) (fun _ => rfl)
    (InvV g w (.slice (some ⟨b, q, none⟩) m cap)) (fun _ _ _ => False) (invV_own ?own) (fun _ _ _ _ _ hs _ _ => hs)
    ?start
    (fun x => { tmps := #[.slice (some ⟨b, q, none⟩) m cap, .pointer (some ⟨w.heap.size, 0, none⟩), .pointer (some ⟨w.heap.size + 1, 0, none⟩), .int .i64 (x.val : Int), .int .i64 (8 * ((m : Int) - 1 - (x.val : Int))), .slice (some ⟨b, q, none⟩) m cap, .int .i64 m, .func (.func 119) #[] #[.pointer (some ⟨w.heap.size + 2, 0, none⟩)], .int .i64 (x.val : Int), .int .i64 (8 * ((m : Int) - 1 - (x.val : Int))), undef, undef, undef, undef, undef, undef, undef, undef, undef, undef], defers := [] }) ?assign ?body ?done ?stop
  case hs => simp only [World.size_alloc]; omega
  case hc => go_simp
  case own => simp only [World.size_alloc]; omega
  case start =>
    unfold InvV
    refine ⟨?_, ?_, ?_, ?_⟩
    · go_simp
    · go_simp; rfl
    · go_simp
    · exact (((Below.refl _ w).alloc (Nat.le_refl _) _).alloc (by simp only [World.size_alloc]; omega) _).alloc (by simp only [World.size_alloc]; omega) _
  case assign =>
    intro l x W K hK
    simp only [encD]
    gi_wp2
    exact hK
  case body =>
    rintro l pre x W ⟨h1, h2, h3, h4⟩ _
    have hx := x.isLt
    have hold : W.cell? ⟨b, q + x.val, none⟩ = some (.int .u8 (g x.val)) := (h4.cell (p := ⟨b, q + x.val, none⟩) hb).trans (hg _ hx)
    have hmx : Tryd.prog.follows .mixedOrders = true := by kernel_rfl
    have hd1 : 1 ≤ n - 1 - 1 := by omega
    have hsh : ¬ (8 * ((m : Int) - 1 - (x.val : Int)) < 0) := by omega
    gi_wp2
    gi_region_o
    all_goals gi_wp2
    all_goals (try go_bits)
    all_goals exact invV_step ⟨h1, h2, h3, h4⟩ x _ rfl _
  case done =>
    rintro D xs W hD hS ⟨h1, h2, h3, h4⟩ hK
    gi_wp2
    have hD' : w.heap.size ≤ D := by simp only [World.size_alloc] at hD; omega
    have hK' := (KeepsOthers.setCell W ⟨w.heap.size + 1, 0, none⟩ (.int .u64 (accN g m (xs.map (·.val))))).same D _ hK rfl
    refine ⟨by simp, .inl ⟨_, _, rfl, run_takeDeferred hK', ?_⟩⟩
    have hc5 := cell_kept (World.cell?_setCell_same' W ⟨w.heap.size + 1, 0, none⟩ (.int .u64 (accN g m (xs.map (·.val)))) (by rw [h2]; rfl)) (grownBy_putObj' _ D (.deferred none)) (fun r e => by cases e; exact ⟨_, hK', rfl⟩)
    have hS' : xs.map (·.val) = List.range m := hS
    refine ⟨.int .u64 (accN g m (xs.map (·.val))), ?_, by rw [hS'], ?_⟩
    · simp [results, Tryd.f72, go_sem, hc5]
    · exact ownFrom_below (β := Unit) (w₀ := w) (n₀ := w.heap.size) (B := w.heap.size) (Nat.le_refl _) (Nat.le_refl _) () _ _ (some D) (h4.setCell (p := ⟨w.heap.size + 1, 0, none⟩) (by simp) _) (grownBy_putObj' _ D (.deferred none)) (fun r e => by cases e; exact ⟨hD', _, hK', rfl⟩)
  case stop =>
    rintro D c pre W _ _ h _
    exact h.elim

end Go.Proofs.YtdpbbagllhfjbaaDoorW.AI.G
namespace Go.Proofs.YtdpbbagllhfjbaaDoorW.AI.G
open Go Go.Proofs Go.RowKit Go.Proofs.YtdpbbagllhfjbaaDoorW.AI
set_option linter.unusedVariables false
set_option linter.unusedSimpArgs false

def digA (v : Int) (m k : Nat) : AV := .int .u8 (v / 2 ^ min (8 * (m - 1 - k)) 64 % 256)

/-- octet.write. -/
def bytesAt : AV → Option (Nat × Nat × Nat)
  | .sl b off n _ => some (b, off, n)
  | .gsl b off n e _ => if e = 1 then some (b, off, n) else none
  | _ => none

def primWrite (h : AHeap) (x : AV) (v : Int) : Option (AV × AHeap × List Nat) :=
  match bytesAt x with
  | some (b, off, n) => if 0 < n ∧ n ≤ 1000000 then (change h b fun c => storeL c off ((List.range n).map (digA v n))).map fun h' => (.tup [], h', [b]) else none
  | none => none

def intAt : AV → Int
  | .int _ n => n
  | _ => 0

def isU8 : AV → Bool
  | .int .u8 _ => true
  | _ => false

/-- octet.value. -/
def primValue (h : AHeap) (x : AV) : Option (AV × AHeap × List Nat) :=
  match slen x with
  | some n => if 0 < n ∧ n ≤ 1000000 then (sliceCells h 1 x).bind fun c => if c.list.all isU8 then some (.int .u64 (accN (fun k => intAt (c.list.getD k .any)) n (List.range n)), h, []) else none else none
  | none => none

def prim (f : Nat) (xs : List AV) (h : AHeap) : Option (Option (AV × AHeap × List Nat)) :=
  if f = 92 then match xs with
    | [x, .int .u64 v] => some (primWrite h x v)
    | _ => some none
  else if f = 72 then match xs with
    | [x] => some (primValue h x)
    | _ => some none
  else none

theorem prim_steady : ∀ f vs h r, prim f vs h = some (some r) → Steady h r.2.1 r.2.2 := by
  intro f vs h r hr
  unfold prim at hr
  split at hr
  · split at hr
    · simp only [Option.some.injEq] at hr
      unfold primWrite at hr
      split at hr
      · split at hr
        · simp only [Option.map_eq_some_iff] at hr
          obtain ⟨h', h1, rfl⟩ := hr
          exact change_steady h1
        · cases hr
      · cases hr
    · cases hr
  · split at hr
    · split at hr
      · simp only [Option.some.injEq] at hr
        unfold primValue at hr
        split at hr
        · split at hr
          · simp only [Option.bind_eq_some_iff] at hr
            obtain ⟨c, _, hr⟩ := hr
            split at hr
            · cases hr; exact Steady.refl _ _
            · cases hr
          · cases hr
        · cases hr
      · cases hr
    · cases hr

theorem spliceA_laid (g : Nat → Value) (q : Nat) : ∀ (l : Nat) (s : Nat) (arr : Array Value), spliceA arr (q + s) ((List.range' s l).map g) = laidN g q arr (List.range' s l)
  | 0, s, arr => rfl
  | l + 1, s, arr => by
    simp only [List.range'_succ, List.map_cons, spliceA, laidN, List.foldl_cons]
    have := spliceA_laid g q l (s + 1) (arr.setIfInBounds (q + s) (g s))
    simp only [laidN] at this
    rw [← this]
    rfl

def F0 : Fence := { fn := fun _ => True }

section
variable {B : Nat} {ρg : Env} {gl : AHeap} {ρ : Env} {h h' : AHeap} {w : World}

theorem write_sound (hst : St B ρg gl X.gid ρ h w) {x : AV} {v : Int} {r : AV × AHeap × List Nat} (hr : primWrite h x v = some r) {sv : Value} (hx : R ρ x sv) :
    Calls X.P 92 #[sv, .int .u64 v] w fun e w' => ∃ y, e = .returned y ∧ Post X B ρg gl ρ h w r.1 r.2.1 y w' := by
  unfold primWrite at hr
  split at hr
  case h_2 => cases hr
  rename_i b off n hx0
  split at hr
  case isFalse => cases hr
  rename_i hn
  simp only [Option.map_eq_some_iff] at hr
  obtain ⟨h', hch, rfl⟩ := hr
  obtain ⟨cap, rfl⟩ : ∃ cap, sv = .slice (some ⟨ρ.blk b, ρ.base b + off, none⟩) n cap := by
    unfold bytesAt at hx0
    split at hx0
    · cases hx0
      simp only [R] at hx
      obtain ⟨q, e, hq, hcap⟩ := hx
      exact ⟨_, by rw [e, hq (by omega)]⟩
    · split at hx0
      · rename_i he
        cases hx0
        subst he
        simp only [R] at hx
        rcases hx with ⟨q, cap, e, hcap, hq⟩ | ⟨_, h0, _⟩
        · exact ⟨_, by rw [e, (hq (by omega)).1]⟩
        · omega
      · cases hx0
    · cases hx0
  have hrs : Rs ρ ((List.range n).map (digA v n)) ((List.range n).map (digit v n)) := by
    generalize List.range n = l
    induction l with
    | nil => rfl
    | cons k l ih => simp only [List.map_cons, Rs]; exact ⟨_, _, rfl, rfl, ih⟩
  obtain ⟨o, c, c', hb, hcc, he⟩ := change_spec hch
  obtain ⟨w'', r1, r2, r3, r4⟩ := hst.rep.change hch (fun c0 c1 hcc => storeL_splice hcc) hrs (by intro u hu; obtain ⟨k, _, rfl⟩ := List.mem_map.1 hu; rfl) X.P
  obtain ⟨sp, _⟩ := storeL_splice hcc
  have hlies : Lies ρ b c w := hst.rep.lies b _ hb (by simp)
  have hcsz : c.len ≤ ρ.sz b := hlies.1
  have hol : off + n ≤ c.len := by
    have := sp.2.1 (by intro e; have := congrArg List.length e; simp at this; omega)
    rw [ACells.len_list c]
    simpa using this
  have hsz0 : ρ.sz b ≠ 0 := by omega
  obtain ⟨arr, T, fz, g1, g2, g3⟩ := hlies.2 hsz0
  have hle : ρ.base b + off + n ≤ arr.size := by omega
  have hfr := (hst.rep.own b _ o hb rfl hsz0).2
  have hw := write_in F0 10 trivial trivial trivial rfl (by omega) (ρ.blk b) (ρ.base b + off) n cap hn.2 v arr T fz w g1 hle (fun j hj => hfr _ (by omega) (by omega))
  refine Calls.mono (hw.calls (fun k d hd => by cases hd)) fun e W' hpost => ?_
  obtain ⟨rfl, ho, hblk⟩ := hpost
  -- the world of the stores, one by one
  have hw'' : w'' = World.putBlk w (ρ.blk b) (.cells (spliceA arr (ρ.base b + off) ((List.range n).map (digit v n))) T fz) := by
    have := run_storeCells_env (P := X.P) (g := ρ.blk b) (T := T) (fz := fz) ((List.range n).map (digit v n)) (ρ.base b + off) 0 arr w g1 (fun _ => by simpa using hle) (fun p hp1 hp2 => by
      have := hfr p (by omega) (by simp at hp2; omega)
      simp only [World.frozen?, g1] at this
      simpa using this) (by intro u hu; obtain ⟨k, _, rfl⟩ := List.mem_map.1 hu; rfl)
    rw [Nat.add_zero] at this
    rw [show (ρ.addr b off) = (⟨ρ.blk b, ρ.base b + off, none⟩ : Addr) from rfl, this] at r1
    cases r1; rfl
  have hlt : ρ.blk b < w.heap.size := (Array.getElem?_eq_some_iff.1 g1).1
  have heq : ∀ k, k < w.heap.size → W'.heap[k]? = w''.heap[k]? := by
    intro k hk
    rw [hw'']
    by_cases hkb : k = ρ.blk b
    · subst hkb
      rw [hblk]
      have := spliceA_laid (digit v n) (ρ.base b + off) n 0 arr
      rw [Nat.add_zero, ← List.range_eq_range'] at this
      rw [this]
      simp [World.putBlk, hlt]
    · rw [ho.block k hk hkb]
      simp only [World.putBlk]
      rw [Array.getElem?_setIfInBounds_ne (fun e => hkb e.symm)]
  have hsz'' : w''.heap.size = w.heap.size := by rw [hw'']; simp [World.putBlk]
  have hal : ∀ (i : Nat) (y : ABlk), h'[i]? = some y → y.st ≠ .dead → ρ.sz i ≠ 0 → ρ.blk i < w.heap.size := by
    intro i y hi hd hz
    obtain ⟨arr', T', fz', k1, _⟩ := (r2.lies i y hi hd).2 hz
    have := (Array.getElem?_eq_some_iff.1 k1).1
    omega
  refine ⟨.tuple #[], rfl, post_mem hst (Agree.refl _ _) (by simp only [R]; exact ⟨#[], rfl, rfl⟩) rfl (r2.same fun i y hi hd hz => heq _ (hal i y hi hd hz)) ⟨ho.os, ho.tape, ho.output, ho.size, fun k hk ht => (heq k hk).trans (r3.keep k hk ht), fun k hk => Or.inr ?_, fun k hk => Or.inr ?_⟩ (by show h.length ≤ h'.length; omega)⟩
  · rcases r3.fresh k hk with h1 | h1
    · exfalso
      obtain ⟨i, y, o', k1, k2, k3, k4⟩ := hk
      have := hal i y k1 (by rw [k2]; simp) k3
      omega
    · exact h1
  · rcases r3.face k hk with h1 | h1
    · exfalso
      obtain ⟨i, y, k1, k2, k3, k4⟩ := hk
      have := hal i y k1 k2.1 k3
      omega
    · exact h1

theorem sub_get (c : ACells) (off n j : Nat) (hj : j < n) : (c.sub off n).list[j]? = c.get? (off + j) := by
  cases c with
  | ints k l => simp [ACells.sub, ACells.list, ACells.get?, List.getElem?_take, hj]
  | vals l => simp [ACells.sub, ACells.list, ACells.get?, List.getElem?_take, hj]

theorem value_sound (hst : St B ρg gl X.gid ρ h w) {x : AV} {r : AV × AHeap × List Nat} (hr : primValue h x = some r) {sv : Value} (hx : R ρ x sv) :
    Calls X.P 72 #[sv] w fun e w' => ∃ y, e = .returned y ∧ Post X B ρg gl ρ h w r.1 r.2.1 y w' := by
  unfold primValue at hr
  split at hr
  case h_2 => cases hr
  rename_i n hn
  split at hr
  case isFalse => cases hr
  rename_i hn1
  simp only [Option.bind_eq_some_iff] at hr
  obtain ⟨c, hc, hr⟩ := hr
  split at hr
  case isFalse => cases hr
  rename_i hu8
  cases hr
  have go : ∀ (b off cap : Nat) (cc : ACells), cellsAt h b = some cc → off + n * 1 ≤ cc.len → c = cc.sub off (n * 1) → sv = .slice (some ⟨ρ.blk b, ρ.base b + off, none⟩) n cap →
      Calls X.P 72 #[sv] w fun e w' => ∃ y, e = .returned y ∧ Post X B ρg gl ρ h w (.int .u64 (accN (fun k => intAt (c.list.getD k .any)) n (List.range n))) h y w' := by
    intro b off cap cc hcc hle hsub hsv
    subst hsv
    obtain ⟨blk, hb1, hb2, rfl⟩ := cellsAt_some hcc
    have hl := hst.rep.lies b blk hb1 hb2
    have hsz0 : ρ.sz b ≠ 0 := by have := hl.1; omega
    obtain ⟨arr, T, fz, g1, _⟩ := hl.2 hsz0
    have hlt : ρ.blk b < w.heap.size := (Array.getElem?_eq_some_iff.1 g1).1
    have hcell : ∀ j, j < n → w.cell? ⟨ρ.blk b, ρ.base b + off + j, none⟩ = some (.int .u8 (intAt (c.list.getD j .any))) := by
      intro j hj
      obtain ⟨u, hu⟩ := ACells.get_some (c := blk.c) (j := off + j) (by omega)
      obtain ⟨y, h1, h2⟩ := hl.cell hu
      have hcj : c.list[j]? = some u := by rw [hsub, sub_get _ _ _ _ (by omega)]; exact hu
      have h8 := List.all_eq_true.1 hu8 u (List.mem_of_getElem? hcj)
      have hgd : c.list.getD j .any = u := by rw [List.getD_eq_getElem?_getD, hcj]; rfl
      rw [hgd]
      unfold isU8 at h8
      split at h8
      · simp only [R] at h2
        subst h2
        rw [show (⟨ρ.blk b, ρ.base b + off + j, none⟩ : Addr) = ρ.addr b (off + j) from by simp [Env.addr, Nat.add_assoc]]
        exact h1
      · cases h8
    have hw := value_in F0 10 trivial trivial trivial rfl (by omega) (ρ.blk b) (ρ.base b + off) n cap hn1.2 _ w hlt hcell
    refine Calls.mono (hw.calls (fun k d hd => by cases hd)) fun e W' hpost => ?_
    obtain ⟨rfl, hbel⟩ := hpost
    refine ⟨_, rfl, post_mem hst (Agree.refl _ _) (by simp only [R]) rfl (hst.rep.same fun i y hi hd hz => ?_) ⟨hbel.os, hbel.tape, hbel.output, hbel.size, fun k hk _ => hbel.block k hk, fun k hk => Or.inr hk, fun k hk => Or.inr hk⟩ (Nat.le_refl _)⟩
    obtain ⟨arr', T', fz', k1, _⟩ := (hst.rep.lies i y hi hd).2 hz
    exact hbel.block _ (Array.getElem?_eq_some_iff.1 k1).1
  cases x <;> simp only [slen] at hn <;> first | (cases hn; done) | skip
  · simp [sliceCells] at hc
  · rename_i b off n' cap
    cases hn
    simp only [sliceCells, Option.bind_eq_some_iff] at hc
    obtain ⟨cc, h1, h2⟩ := hc
    split at h2
    · cases h2
      simp only [R] at hx
      obtain ⟨q, e, hq, hcap⟩ := hx
      exact go b off cap cc h1 (by assumption) rfl (by rw [e, hq (by omega)])
    · cases h2
  · rename_i b off n' e mn
    cases hn
    simp only [sliceCells] at hc
    split at hc
    case isFalse => cases hc
    rename_i he; subst he
    simp only [Option.bind_eq_some_iff] at hc
    obtain ⟨cc, h1, h2⟩ := hc
    split at h2
    · cases h2
      simp only [R] at hx
      rcases hx with ⟨q, cap, e, hcap, hq⟩ | ⟨_, h0, _⟩
      · exact go b off cap cc h1 (by assumption) rfl (by rw [e, (hq (by omega)).1])
      · omega
    · cases h2

theorem prim_sound : ∀ f vs h r, prim f vs h = some (some r) → chkCallee X f = true ∧ ∀ (ρ : Env) (w : World) (xs : Array Value), St B ρg gl X.gid ρ h w → AV.lts h.length vs = true → Rs ρ vs xs.toList →
      Calls X.P f xs w fun e w' => ∃ x, e = .returned x ∧ Post X B ρg gl ρ h w r.1 r.2.1 x w' := by
  intro f vs h r hr
  unfold prim at hr
  split at hr
  · rename_i hf; subst hf
    split at hr
    · rename_i x v
      simp only [Option.some.injEq] at hr
      refine ⟨by decide +kernel, fun ρ w xs hst _ hrs => ?_⟩
      simp only [Rs] at hrs
      obtain ⟨sv, vs', e, h1, nv, vs'', rfl, h2, rfl⟩ := hrs
      simp only [R] at h2; subst h2
      obtain rfl : xs = #[sv, .int .u64 v] := by cases xs; simp at e; rw [e]
      exact write_sound hst hr h1
    · cases hr
  · split at hr
    · rename_i hf; subst hf
      split at hr
      · rename_i x
        simp only [Option.some.injEq] at hr
        refine ⟨by decide +kernel, fun ρ w xs hst _ hrs => ?_⟩
        simp only [Rs] at hrs
        obtain ⟨sv, vs', e, h1, rfl⟩ := hrs
        obtain rfl : xs = #[sv] := by cases xs; simp at e; rw [e]
        exact value_sound hst hr h1
      · cases hr
    · cases hr

end
end Go.Proofs.YtdpbbagllhfjbaaDoorW.AI.G

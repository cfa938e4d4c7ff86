import Derived.Test.YtdbdmnhnijpdcaaDoorAICPdig
namespace Go.Proofs.YtdbdmnhnijpdcaaDoorW.AI.C
open Go Go.Proofs Go.RowKit Go.Shelf
attribute [local go_sem] Oper.semAt_some
set_option linter.unusedVariables false

structure Only (b B : Nat) (w W : World) : Prop where
  os : W.os = w.os
  tape : W.tape = w.tape
  output : W.output = w.output
  size : w.heap.size ≤ W.heap.size
  block : ∀ k, k < B → k ≠ b → W.heap[k]? = w.heap[k]?

theorem digits_in (F : Fence) (n : Nat) (h77 : F.fn 105) (hro : F.round = none) (m : Int) (w : World) :
    CallsIn F n Tryd.prog 105 #[.int .i64 m] w fun e w' => e = .returned (.func (.func 116) #[] #[.pointer (some ⟨w.heap.size, 0, none⟩)]) ∧ w' = w.alloc (.cells #[.int .i64 m] 3) := by
  refine callsIn_of_wp Tryd.func105 rfl h77 ?_ hro
  simp only [Tryd.ntmps105, List.size_toArray, List.length_cons, List.length_nil, Nat.reduceAdd, Nat.reduceSub, Array.replicate_succ, Array.replicate_zero, List.push_toArray, List.append_toArray, List.nil_append, List.cons_append]
  gi_wp2
  go_ret
  exact ⟨rfl, rfl⟩

theorem kpS_t {s : Nat} {A B C : World} (h : KpS s A B) (k : KpS s B C) : KpS s A C := fun v hv => k v (h v hv)
theorem kpS_b {s : Nat} (W : World) (l : Nat) (o o' : Obj) (h : W.heap[l]? = some o) (hc : o.isCells = false) : KpS s W (W.putObj l o') := fun v hv =>
  cell_kept hv (grownBy_putObj' W l o') (fun r e => by cases e; exact ⟨_, h, hc⟩)

/-- The digit that stands at a place. -/
def digit (v : Int) (m k : Nat) : Value := .int .u8 (v / 2 ^ min (8 * (m - 1 - k)) 64 % 256)

def laidN (g : Nat → Value) (q : Nat) (arr : Array Value) (l : List Nat) : Array Value := l.foldl (fun a k => a.setIfInBounds (q + k) (g k)) arr

/-- The bytes laid so far. -/
def laid (g : Nat → Value) (q : Nat) {m : Nat} (arr : Array Value) (pre : List (Fin m)) : Array Value := pre.foldl (fun a x => a.setIfInBounds (q + x.val) (g x.val)) arr

theorem laid_eq (g : Nat → Value) (q : Nat) {m : Nat} : ∀ (pre : List (Fin m)) (arr : Array Value), laid g q arr pre = laidN g q arr (pre.map (·.val))
  | [], _ => rfl
  | x :: pre, arr => by simp only [laid, laidN, List.foldl_cons, List.map_cons]; exact laid_eq g q pre _

theorem laid_snoc (g : Nat → Value) (q : Nat) {m : Nat} (arr : Array Value) (pre : List (Fin m)) (x : Fin m) : laid g q arr (pre ++ [x]) = (laid g q arr pre).setIfInBounds (q + x.val) (g x.val) := by
  simp [laid]

theorem heap_setCell_at {W : World} {b off : Nat} {v : Value} {arr : Array Value} {T : TypeId} {fz : Nat × Nat} (h : W.heap[b]? = some (.cells arr T fz)) : (W.setCell ⟨b, off, none⟩ v).heap[b]? = some (.cells (arr.setIfInBounds off v) T fz) := by
  simp only [World.setCell, Array.getElem?_modify, h, if_true, Option.map_some]
  rfl

theorem Only.refl (b B : Nat) (w : World) : Only b B w w := ⟨rfl, rfl, rfl, Nat.le_refl _, fun _ _ _ => rfl⟩

theorem Only.setCell {b B off : Nat} {w W : World} (h : Only b B w W) (v : Value) : Only b B w (W.setCell ⟨b, off, none⟩ v) :=
  ⟨h.os, h.tape, h.output, by have := h.size; simp only [World.setCell, Array.size_modify]; exact this, fun k hk hne => (Below.heap_setCell W ⟨b, off, none⟩ v k hne).trans (h.block k hk hne)⟩

def InvW (g : Nat → Value) (b q : Nat) {m : Nat} (arr : Array Value) (T : TypeId) (fz : Nat × Nat) (w : World) (sv nv : Value) (pre : List (Fin m)) (W : World) : Prop :=
  W.cell? ⟨w.heap.size, 0, none⟩ = some sv ∧ W.cell? ⟨w.heap.size + 1, 0, none⟩ = some nv ∧ W.heap[b]? = some (.cells (laid g q arr pre) T fz) ∧ Only b w.heap.size w W

/-- One digit more. -/
theorem invW_step {g : Nat → Value} {b q m : Nat} {arr : Array Value} {T : TypeId} {fz : Nat × Nat} {w W : World} {sv nv : Value} {pre : List (Fin m)} (h : InvW g b q arr T fz w sv nv pre W) (hbw : b < w.heap.size) (x : Fin m) (u : Value) (hu : u = g x.val) (a : Act) :
    ownPostK (KpS (w.heap.size + 2)) (InvW g b q arr T fz w sv nv) (fun _ _ _ => False) (pre ++ [x]) W .normal a (W.setCell ⟨b, q + x.val, none⟩ u).drew := by
  obtain ⟨h1, h2, h3, h4⟩ := h
  subst hu
  have ne : ∀ (s : Nat), w.heap.size ≤ s → ∀ y, W.cell? ⟨s, 0, none⟩ = some y → (W.setCell ⟨b, q + x.val, none⟩ (g x.val)).drew.cell? ⟨s, 0, none⟩ = some y := by
    intro s hs y hy
    rw [cell_drew_own]
    rw [World.cell?_of_block (w := W) (a := ⟨s, 0, none⟩) (Below.heap_setCell W ⟨b, q + x.val, none⟩ (g x.val) s (by simp only; omega))]
    exact hy
  refine ⟨(KeepsOthers.setCell _ _ _).trans (KeepsOthers.drew _), fun y hy => ne _ (by omega) y hy, ne _ (Nat.le_refl _) _ h1, ne _ (by omega) _ h2, ?_, ?_⟩
  · rw [laid_snoc]
    exact heap_setCell_at h3
  · have := h4.setCell (off := q + x.val) (g x.val)
    exact ⟨this.os, this.tape, this.output, this.size, this.block⟩

theorem laid_size (g : Nat → Value) (q : Nat) {m : Nat} : ∀ (pre : List (Fin m)) (arr : Array Value), (laid g q arr pre).size = arr.size := by
  intro pre
  induction pre with
  | nil => intro arr; rfl
  | cons x pre ih => intro arr; simp only [laid, List.foldl_cons] at ih ⊢; rw [ih]; simp

theorem onlyFrom {β : Type} {b B : Nat} {w : World} (hB : w.heap.size ≤ B) : OwnFrom B (fun (_ : β) W => Only b w.heap.size w W) := fun s W W' row hs hg hr =>
  ⟨hg.os.trans hs.os, hg.tape.trans hs.tape, hg.output.trans hs.output, Nat.le_trans hs.size hg.size, fun k hk hne => (hg.block k (Nat.lt_of_lt_of_le hk hs.size) (fun e => by have := (hr k e.symm).1; omega)).trans (hs.block k hk hne)⟩

theorem invW_own {g : Nat → Value} {b q m : Nat} {arr : Array Value} {T : TypeId} {fz : Nat × Nat} {w : World} {sv nv : Value} {B : Nat} (hB : w.heap.size ≤ B) : OwnFrom B (InvW g b q (m := m) arr T fz w sv nv) := fun s W W' row hs hg hr => by
  obtain ⟨h1, h2, h3, h4⟩ := hs
  have hr' := fun r e => (hr r e).2
  exact ⟨cell_kept h1 hg hr', cell_kept h2 hg hr', (grownBy_keeps_cells hg hr' h3 rfl).trans h3, onlyFrom (β := Unit) hB () W W' row h4 hg hr⟩

theorem digits_stops (F : Fence) (n : Nat) (h79 : F.fn 116) (hro : F.round = none) (hn : 1 ≤ n) (s m : Nat) (hm : m ≤ 1000000) (w : World) (hs : s < w.heap.size) (hc : w.cell? ⟨s, 0, none⟩ = some (.int .i64 m)) :
    SeqStopsK F n Tryd.prog 116 #[.pointer (some ⟨s, 0, none⟩)] (encD m) (KpS s) (fun ys => Upto m ys) (fun pre => ∃ k, k ≤ m ∧ Upto k pre) m w := fun l J Jx W hW _ _ hY h0 =>
  digits1_in F n h79 hro hn l s m hm J Jx hY W ((hW.cell (p := ⟨s, 0, none⟩) hs).trans hc) h0

set_option maxRecDepth 100000 in
set_option maxHeartbeats 4000000 in
theorem write_in (F : Fence) (n : Nat) (h65 : F.fn 91) (h77 : F.fn 105) (h79 : F.fn 116) (hro : F.round = none) (hn : 4 ≤ n) (b q m cap : Nat) (hm : m ≤ 1000000) (v : Int) (arr : Array Value) (T : TypeId) (fz : Nat × Nat) (w : World)
    (hb : w.heap[b]? = some (.cells arr T fz)) (hq : q + m ≤ arr.size) (hfr : ∀ j, j < m → w.frozen? ⟨b, q + j, none⟩ = false) :
    CallsIn F n Tryd.prog 91 #[.slice (some ⟨b, q, none⟩) m cap, .int .u64 v] w fun e W' => e = .returned (.tuple #[]) ∧ Only b w.heap.size w W' ∧ W'.heap[b]? = some (.cells (laidN (digit v m) q arr (List.range m)) T fz) := by
  refine callsIn_of_wp_marks Tryd.func91 rfl h65 ?_ hro
  simp only [Tryd.ntmps91, List.size_toArray, List.length_cons, List.length_nil, Nat.reduceAdd, Nat.reduceSub, Array.replicate_succ, Array.replicate_zero, List.push_toArray, List.append_toArray, List.nil_append, List.cons_append]
  gi_wp2
  refine ⟨fun _ => by omega, (digits_in F (n - 1) h77 hro _ _).mono ?_⟩
  rintro e W1 ⟨rfl, rfl⟩
  gi_wp2
  have hbw : b < w.heap.size := (Array.getElem?_eq_some_iff.1 hb).1
  refine wpIn_rangeFunc_ownF hro (by omega) (gf := 116) (lb := #[.pointer (some ⟨w.heap.size + 2, 0, none⟩)]) (by simp [Act.eval]) h79 (enters_of Tryd.func116 (by kernel_rfl) rfl)
    (digits_stops F (n - 1) h79 hro (by omega) (w.heap.size + 2) m hm _ ?hs ?hc) kpS_t (fun W l o o' _ h1 h2 _ => kpS_b W l o o' h1 h2) (Below.refl _ _) (fun _ => rfl)
    (InvW (digit v m) b q arr T fz w (.slice (some ⟨b, q, none⟩) m cap) (.int .u64 v)) (fun _ _ _ => False) (invW_own ?own) (fun _ _ _ _ _ hs _ _ => hs)
    ?start
    (fun x => { tmps := #[.slice (some ⟨b, q, none⟩) m cap, .int .u64 v, .pointer (some ⟨w.heap.size, 0, none⟩), .pointer (some ⟨w.heap.size + 1, 0, none⟩), .int .i64 (x.val : Int), .int .i64 (8 * ((m : Int) - 1 - (x.val : Int))), .slice (some ⟨b, q, none⟩) m cap, .int .i64 m, .func (.func 116) #[] #[.pointer (some ⟨w.heap.size + 2, 0, none⟩)], .int .i64 (x.val : Int), .int .i64 (8 * ((m : Int) - 1 - (x.val : Int))), undef, undef, undef, undef, undef, undef, undef], defers := [] }) ?assign ?body ?done ?stop
  case hs => simp only [World.size_alloc]; omega
  case hc => go_simp
  case own => simp only [World.size_alloc]; omega
  case start =>
    unfold InvW
    refine ⟨?_, ?_, ?_, ?_⟩
    · go_simp
    · go_simp
    · rw [Below.heap_alloc _ _ b (by simp only [World.size_alloc]; omega), Below.heap_alloc _ _ b (by simp only [World.size_alloc]; omega), Below.heap_alloc _ _ b hbw]
      exact hb
    · exact ⟨rfl, rfl, rfl, by simp only [World.size_alloc]; omega, fun k hk _ => by
        rw [Below.heap_alloc _ _ k (by simp only [World.size_alloc]; omega), Below.heap_alloc _ _ k (by simp only [World.size_alloc]; omega), Below.heap_alloc _ _ k hk]⟩
  case assign =>
    intro l x W K hK
    simp only [encD]
    gi_wp2
    exact hK
  case body =>
    rintro l pre x W ⟨h1, h2, h3, h4⟩ _
    have hx := x.isLt
    have hsz : (laid (digit v m) q arr pre).size = arr.size := laid_size _ _ _ _
    obtain ⟨old, hold⟩ : ∃ old, W.cell? ⟨b, q + x.val, none⟩ = some old := by
      refine ⟨(laid (digit v m) q arr pre)[q + x.val]'(by omega), ?_⟩
      simp only [World.cell?, h3, Option.isSome_none, Bool.false_eq_true, if_false]
      exact Array.getElem?_eq_getElem _
    have hfz : W.frozen? ⟨b, q + x.val, none⟩ = false := by
      have := hfr x.val hx
      simp only [World.frozen?, hb] at this
      simp only [World.frozen?, h3]
      exact this
    have hmx : Tryd.prog.follows .mixedOrders = true := by kernel_rfl
    have hd1 : 1 ≤ n - 1 - 1 := by omega
    have hsh : ¬ (8 * ((m : Int) - 1 - (x.val : Int)) < 0) := by omega
    gi_wp2
    gi_region_o
    all_goals gi_wp2
    all_goals (try go_bits)
    all_goals exact invW_step ⟨h1, h2, h3, h4⟩ hbw x _ rfl _
  case done =>
    rintro D xs W hD hS ⟨h1, h2, h3, h4⟩ hK
    gi_wp2
    have hD' : w.heap.size ≤ D := by simp only [World.size_alloc] at hD; omega
    refine ⟨by simp, .inl ⟨_, _, rfl, run_takeDeferred hK, ?_⟩⟩
    refine ⟨_, results_none rfl _ _ _, rfl, ?_, ?_⟩
    · exact onlyFrom (β := Unit) (B := w.heap.size) (Nat.le_refl _) () W _ (some D) h4 (grownBy_putObj' W D (.deferred none)) (fun r e => by cases e; exact ⟨hD', _, hK, rfl⟩)
    · rw [World.putObj_heap_other (by omega), h3, laid_eq, hS]
  case stop =>
    rintro D c pre W _ _ h _
    exact h.elim

end Go.Proofs.YtdbdmnhnijpdcaaDoorW.AI.C

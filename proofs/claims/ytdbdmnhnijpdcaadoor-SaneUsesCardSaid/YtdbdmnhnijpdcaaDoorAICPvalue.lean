import Derived.Test.YtdbdmnhnijpdcaaDoorAICPwrite
import Derived.Test.YtdbdmnhnijpdcaaDoorAICore
namespace Go.Proofs.YtdbdmnhnijpdcaaDoorW.AI.C
open Go Go.Proofs Go.RowKit Go.Shelf
attribute [local go_sem] Oper.semAt_some
set_option linter.unusedVariables false

/-- What has been read so far. -/
def accD (g : Nat → Int) (m : Nat) (s : Int) (k : Nat) : Int := bits BinOp.or IntKind.u64 s (IntKind.u64.wrap (IntKind.u64.wrap (g k) * 2 ^ min (8 * (m - 1 - k)) 64))
def accN (g : Nat → Int) (m : Nat) (l : List Nat) : Int := l.foldl (accD g m) 0

def InvV (g : Nat → Int) {m : Nat} (w : World) (sv : Value) (pre : List (Fin m)) (W : World) : Prop :=
  W.cell? ⟨w.heap.size, 0, none⟩ = some sv ∧ W.cell? ⟨w.heap.size + 1, 0, none⟩ = some (.int .u64 (accN g m (pre.map (·.val)))) ∧ W.frozen? ⟨w.heap.size + 1, 0, none⟩ = false ∧ Below w.heap.size w W

theorem invV_own {g : Nat → Int} {m : Nat} {w : World} {sv : Value} {B : Nat} (hB : w.heap.size ≤ B) : OwnFrom B (InvV g (m := m) w sv) := fun s W W' row hs hg hr => by
  obtain ⟨h1, h2, h3, h4⟩ := hs
  have hr' := fun r e => (hr r e).2
  exact ⟨cell_kept h1 hg hr', cell_kept h2 hg hr', (frozen_kept h2 hg hr').trans h3, ownFrom_below (β := Unit) (Nat.le_refl _) hB () W W' row h4 hg hr⟩

theorem accN_snoc (g : Nat → Int) (m : Nat) (l : List Nat) (k : Nat) : accN g m (l ++ [k]) = accD g m (accN g m l) k := by simp [accN]

theorem invV_step {g : Nat → Int} {m : Nat} {w W : World} {sv : Value} {pre : List (Fin m)} (h : InvV g w sv pre W) (x : Fin m) (u : Int) (hu : u = accD g m (accN g m (pre.map (·.val))) x.val) (a : Act) :
    ownPostK (KpS (w.heap.size + 2)) (InvV g w sv) (fun _ _ _ => False) (pre ++ [x]) W .normal a (W.setCell ⟨w.heap.size + 1, 0, none⟩ (.int .u64 u)).drew := by
  obtain ⟨h1, h2, h3, h4⟩ := h
  subst hu
  have ne : ∀ (s : Nat), s ≠ w.heap.size + 1 → ∀ v y, W.cell? ⟨s, 0, none⟩ = some y → (W.setCell ⟨w.heap.size + 1, 0, none⟩ v).drew.cell? ⟨s, 0, none⟩ = some y := by
    intro s hs v y hy
    rw [cell_drew_own]
    rw [World.cell?_of_block (w := W) (a := ⟨s, 0, none⟩) (Below.heap_setCell W ⟨w.heap.size + 1, 0, none⟩ v s hs)]
    exact hy
  refine ⟨(KeepsOthers.setCell _ _ _).trans (KeepsOthers.drew _), fun y hy => ne _ (by omega) _ y hy, ne _ (by omega) _ _ h1, ?_, ?_, ?_⟩
  · rw [cell_drew_own, List.map_append, List.map_singleton, accN_snoc]
    exact World.cell?_setCell_same' _ _ _ (by rw [h2]; rfl)
  · rw [frozen_drew_own, World.frozen?_setCell]; exact h3
  · exact (h4.setCell (p := ⟨w.heap.size + 1, 0, none⟩) (by simp) _).drew

set_option maxRecDepth 100000 in
set_option maxHeartbeats 4000000 in
theorem value_in (F : Fence) (n : Nat) (h68 : F.fn 79) (h77 : F.fn 105) (h79 : F.fn 116) (hro : F.round = none) (hn : 4 ≤ n) (b q m cap : Nat) (hm : m ≤ 1000000) (g : Nat → Int) (w : World)
    (hb : b < w.heap.size) (hg : ∀ j, j < m → w.cell? ⟨b, q + j, none⟩ = some (.int .u8 (g j))) :
    CallsIn F n Tryd.prog 79 #[.slice (some ⟨b, q, none⟩) m cap] w fun e W' => e = .returned (.int .u64 (accN g m (List.range m))) ∧ Below w.heap.size w W' := by
  refine callsIn_of_wp_marks Tryd.func79 rfl h68 ?_ hro
  simp only [Tryd.ntmps79, List.size_toArray, List.length_cons, List.length_nil, Nat.reduceAdd, Nat.reduceSub, Array.replicate_succ, Array.replicate_zero, List.push_toArray, List.append_toArray, List.nil_append, List.cons_append]
  gi_wp2
  refine ⟨fun _ => by omega, (digits_in F (n - 1) h77 hro _ _).mono ?_⟩
  rintro e W1 ⟨rfl, rfl⟩
  gi_wp2
  refine wpIn_rangeFunc_ownF hro (by omega) (gf := 116) (lb := #[.pointer (some ⟨w.heap.size + 2, 0, none⟩)]) (by simp [Act.eval]) h79 (enters_of Tryd.func116 (by kernel_rfl) rfl)
    (digits_stops F (n - 1) h79 hro (by omega) (w.heap.size + 2) m hm _ ?hs ?hc) kpS_t (fun W l o o' _ h1 h2 _ => kpS_b W l o o' h1 h2) (Below.refl _ _) (fun _ => rfl)
    (InvV g w (.slice (some ⟨b, q, none⟩) m cap)) (fun _ _ _ => False) (invV_own ?own) (fun _ _ _ _ _ hs _ _ => hs)
    ?start
    (fun x => { tmps := #[.slice (some ⟨b, q, none⟩) m cap, .pointer (some ⟨w.heap.size, 0, none⟩), .pointer (some ⟨w.heap.size + 1, 0, none⟩), .int .i64 (x.val : Int), .int .i64 (8 * ((m : Int) - 1 - (x.val : Int))), .slice (some ⟨b, q, none⟩) m cap, .int .i64 m, .func (.func 116) #[] #[.pointer (some ⟨w.heap.size + 2, 0, none⟩)], .int .i64 (x.val : Int), .int .i64 (8 * ((m : Int) - 1 - (x.val : Int))), undef, undef, undef, undef, undef, undef, undef, undef, undef, undef], defers := [] }) ?assign ?body ?done ?stop
  case hs => simp only [World.size_alloc]; omega
  case hc => go_simp
  case own => simp only [World.size_alloc]; omega
  case start =>
    unfold InvV
    refine ⟨?_, ?_, ?_, ?_⟩
    · go_simp
    · go_simp; rfl
    · go_simp
    · exact (((Below.refl _ w).alloc (Nat.le_refl _) _).alloc (by simp only [World.size_alloc]; omega) _).alloc (by simp only [World.size_alloc]; omega) _
  case assign =>
    intro l x W K hK
    simp only [encD]
    gi_wp2
    exact hK
  case body =>
    rintro l pre x W ⟨h1, h2, h3, h4⟩ _
    have hx := x.isLt
    have hold : W.cell? ⟨b, q + x.val, none⟩ = some (.int .u8 (g x.val)) := (h4.cell (p := ⟨b, q + x.val, none⟩) hb).trans (hg _ hx)
    have hmx : Tryd.prog.follows .mixedOrders = true := by kernel_rfl
    have hd1 : 1 ≤ n - 1 - 1 := by omega
    have hsh : ¬ (8 * ((m : Int) - 1 - (x.val : Int)) < 0) := by omega
    gi_wp2
    gi_region_o
    all_goals gi_wp2
    all_goals (try go_bits)
    all_goals exact invV_step ⟨h1, h2, h3, h4⟩ x _ rfl _
  case done =>
    rintro D xs W hD hS ⟨h1, h2, h3, h4⟩ hK
    gi_wp2
    have hD' : w.heap.size ≤ D := by simp only [World.size_alloc] at hD; omega
    have hK' := (KeepsOthers.setCell W ⟨w.heap.size + 1, 0, none⟩ (.int .u64 (accN g m (xs.map (·.val))))).same D _ hK rfl
    refine ⟨by simp, .inl ⟨_, _, rfl, run_takeDeferred hK', ?_⟩⟩
    have hc5 := cell_kept (World.cell?_setCell_same' W ⟨w.heap.size + 1, 0, none⟩ (.int .u64 (accN g m (xs.map (·.val)))) (by rw [h2]; rfl)) (grownBy_putObj' _ D (.deferred none)) (fun r e => by cases e; exact ⟨_, hK', rfl⟩)
    have hS' : xs.map (·.val) = List.range m := hS
    refine ⟨.int .u64 (accN g m (xs.map (·.val))), ?_, by rw [hS'], ?_⟩
    · simp [results, Tryd.f79, go_sem, hc5]
    · exact ownFrom_below (β := Unit) (w₀ := w) (n₀ := w.heap.size) (B := w.heap.size) (Nat.le_refl _) (Nat.le_refl _) () _ _ (some D) (h4.setCell (p := ⟨w.heap.size + 1, 0, none⟩) (by simp) _) (grownBy_putObj' _ D (.deferred none)) (fun r e => by cases e; exact ⟨hD', _, hK', rfl⟩)
  case stop =>
    rintro D c pre W _ _ h _
    exact h.elim

end Go.Proofs.YtdbdmnhnijpdcaaDoorW.AI.C

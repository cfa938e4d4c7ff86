import Derived.Test.YtcpiohklljppaaaAIDcmbb
namespace Go.Proofs.YtcpiohklljppaaaW.AI.D
open Go Go.Proofs.YtcpiohklljppaaaW.AI
set_option maxRecDepth 100000
set_option linter.unusedSimpArgs false
set_option linter.unusedVariables false
set_option linter.unusedSectionVars false
-- ------------------------------------------------------------------ arguments
theorem ty_nil3 {g g' : AHeap} {l : List CK} {y : AV} (h : Ty g (.sl l) y) (h0 : y.lt 0 = true) : Ty g' (.sl l) y := by
  simp only [Ty] at h ⊢
  rcases h with rfl | ⟨b, n, c, es, rfl, _⟩
  · exact Or.inl rfl
  · simp [AV.lt] at h0
theorem es3 {g : AHeap} : ∀ {es : List (List AV)}, (∀ e ∈ es, TyL g [.i .i64, .i .i64, .i .i64] e) → ∃ L : List Sp, es.flatten.map toI = flat3 L ∧ L.length = es.length
  | [], _ => ⟨[], rfl, rfl⟩
  | e :: es, h => by
    obtain ⟨L, h1, h2⟩ := es3 (es := es) fun e he => h e (by simp [he])
    have h0 := h e (by simp)
    simp only [TyL, Ty] at h0
    obtain ⟨_, _, rfl, ⟨a, rfl, _⟩, _, _, rfl, ⟨b, rfl, _⟩, _, _, rfl, ⟨c, rfl, _⟩, rfl⟩ := h0
    exact ⟨(a, b, c) :: L, by simp [flat3_cons, h1, toI], by simp [h2]⟩
theorem arg_sv {g : AHeap} {v : AV} (hv : Ty g (.sl [.i .i64, .i .i64, .i .i64]) v) : ∃ L, SV g v L ∧ L.length ≤ maxLen := by
  obtain ⟨es, hs, he⟩ := Ty_sl hv
  obtain ⟨L, h1, h2⟩ := es3 he
  rcases hs with ⟨rfl, rfl⟩ | ⟨b, c, rfl, g1, g2, g3, g4⟩
  · exact ⟨[], Or.inl ⟨rfl, rfl⟩, Nat.zero_le _⟩
  · refine ⟨L, Or.inr ⟨b, c, .ext, es.flatten.map toI, false, g4, Or.inl rfl, ?_, Or.inl ⟨by rw [h2], by omega⟩⟩, by omega⟩
    rw [h1, ← flat3_len, List.take_length]
-- ------------------------------------------------------------------ the least and the greatest middle
def aF (lo hi : Int) (L : List Sp) : Int := L.foldl (fun z s => if cmS lo hi s < z then cmS lo hi s else z) hi
def bF (lo hi : Int) (L : List Sp) : Int := L.foldl (fun z s => if z < cmS lo hi s then cmS lo hi s else z) lo
theorem aF_snoc (lo hi : Int) (L : List Sp) (s : Sp) : aF lo hi (L ++ [s]) = if cmS lo hi s < aF lo hi L then cmS lo hi s else aF lo hi L := by unfold aF; rw [List.foldl_append]; rfl
theorem bF_snoc (lo hi : Int) (L : List Sp) (s : Sp) : bF lo hi (L ++ [s]) = if bF lo hi L < cmS lo hi s then cmS lo hi s else bF lo hi L := by unfold bF; rw [List.foldl_append]; rfl
theorem aF_in {lo hi : Int} (h : lo ≤ hi) (L : List Sp) : lo ≤ aF lo hi L ∧ aF lo hi L ≤ hi ∧ ∀ s ∈ L, aF lo hi L ≤ cmS lo hi s := by
  unfold aF
  suffices ∀ (L : List Sp) (z : Int), lo ≤ z → lo ≤ L.foldl (fun z s => if cmS lo hi s < z then cmS lo hi s else z) z ∧ L.foldl (fun z s => if cmS lo hi s < z then cmS lo hi s else z) z ≤ z ∧ ∀ s ∈ L, L.foldl (fun z s => if cmS lo hi s < z then cmS lo hi s else z) z ≤ cmS lo hi s from this L hi h
  intro L
  induction L with
  | nil => intro z hz; simp [hz]
  | cons x L ih =>
    intro z hz
    have hx := cmS_in h x
    simp only [List.foldl_cons]
    have h0 : (if cmS lo hi x < z then cmS lo hi x else z) ≤ z ∧ (if cmS lo hi x < z then cmS lo hi x else z) ≤ cmS lo hi x ∧ lo ≤ (if cmS lo hi x < z then cmS lo hi x else z) := by split <;> omega
    obtain ⟨h1, h2, h3⟩ := ih (if cmS lo hi x < z then cmS lo hi x else z) h0.2.2
    refine ⟨h1, Int.le_trans h2 h0.1, fun s hs => ?_⟩
    rcases List.mem_cons.1 hs with rfl | hs
    · exact Int.le_trans h2 h0.2.1
    · exact h3 s hs
theorem bF_in {lo hi : Int} (h : lo ≤ hi) (L : List Sp) : lo ≤ bF lo hi L ∧ bF lo hi L ≤ hi ∧ ∀ s ∈ L, cmS lo hi s ≤ bF lo hi L := by
  unfold bF
  suffices ∀ (L : List Sp) (z : Int), z ≤ hi → z ≤ L.foldl (fun z s => if z < cmS lo hi s then cmS lo hi s else z) z ∧ L.foldl (fun z s => if z < cmS lo hi s then cmS lo hi s else z) z ≤ hi ∧ ∀ s ∈ L, cmS lo hi s ≤ L.foldl (fun z s => if z < cmS lo hi s then cmS lo hi s else z) z from this L lo h
  intro L
  induction L with
  | nil => intro z hz; simp [hz]
  | cons x L ih =>
    intro z hz
    have hx := cmS_in h x
    simp only [List.foldl_cons]
    have h0 : z ≤ (if z < cmS lo hi x then cmS lo hi x else z) ∧ cmS lo hi x ≤ (if z < cmS lo hi x then cmS lo hi x else z) ∧ (if z < cmS lo hi x then cmS lo hi x else z) ≤ hi := by split <;> omega
    obtain ⟨h1, h2, h3⟩ := ih (if z < cmS lo hi x then cmS lo hi x else z) h0.2.2
    refine ⟨Int.le_trans h0.1 h1, h2, fun s hs => ?_⟩
    rcases List.mem_cons.1 hs with rfl | hs
    · exact Int.le_trans h0.2.1 h1
    · exact h3 s hs
theorem single {s : Sp} (lo hi : Int) : meanP [s] lo hi = cmS lo hi s ∧ jitP [s] lo hi = 0 := by
  have hw := wt1_in (L := [s]) (s := s) (by simp)
  have e : meanP [s] lo hi = cmS lo hi s := by
    simp only [meanP, q2S, allP, List.map_cons, List.map_nil, List.sum_cons, List.sum_nil, mdv, Bool.false_eq_true, if_false, Int.add_zero]
    rw [Int.mul_ediv_cancel _ (by omega)]
    omega
  refine ⟨e, ?_⟩
  simp only [jitP, q3S, List.map_cons, List.map_nil, List.sum_cons, List.sum_nil, e, Int.sub_self, mdv, if_true, Int.add_zero]
  simp
/-- The law, plainly. -/
theorem mean_plain {L : List Sp} {lo hi : Int} (h0 : L ≠ []) (h16 : L.length ≤ 16) (h : lo ≤ hi) :
    lo ≤ meanP L lo hi ∧ meanP L lo hi ≤ hi ∧ meanP L lo hi ≤ bF lo hi L ∧ aF lo hi L - L.length < meanP L lo hi ∧ 0 ≤ jitP L lo hi ∧ jitP L lo hi ≤ (if bF lo hi L - meanP L lo hi < meanP L lo hi - aF lo hi L then meanP L lo hi - aF lo hi L else bF lo hi L - meanP L lo hi) + L.length ∧ jitP L lo hi ≤ hi - lo + L.length ∧ (1 < L.length ∨ (meanP L lo hi = aF lo hi L ∧ jitP L lo hi = 0)) := by
  obtain ⟨a1, a2, a3⟩ := aF_in h L
  obtain ⟨b1, b2, b3⟩ := bF_in h L
  obtain ⟨m1, m2, m3⟩ := mean_in h0 h16 h (a := aF lo hi L) (b := bF lo hi L) fun s hs => ⟨a3 s hs, b3 s hs⟩
  obtain ⟨j1, j2⟩ := jit_in h0 h16 h (b := if bF lo hi L - meanP L lo hi < meanP L lo hi - aF lo hi L then meanP L lo hi - aF lo hi L else bF lo hi L - meanP L lo hi) fun s hs => by
    have := a3 s hs
    have := b3 s hs
    split <;> omega
  obtain ⟨_, j3⟩ := jit_in h0 h16 h (b := hi - lo) fun s hs => by
    have := cmS_in h s
    omega
  refine ⟨m3, by omega, m2, m1, j1, by omega, by omega, ?_⟩
  match L, h0 with
  | [s], _ =>
    obtain ⟨e1, e2⟩ := single (s := s) lo hi
    refine Or.inr ⟨?_, e2⟩
    rw [e1]
    have := cmS_in h s
    show cmS lo hi s = if cmS lo hi s < hi then cmS lo hi s else hi
    split <;> omega
  | s :: t :: L, _ => exact Or.inl (by simp)
end Go.Proofs.YtcpiohklljppaaaW.AI.D

import Derived.Test.YtcpiohklljppaaaAIDcmb6
namespace Go.Proofs.YtcpiohklljppaaaW.AI.D
open Go Go.Proofs.YtcpiohklljppaaaW.AI Go.RowKit Go.Shelf
set_option maxRecDepth 100000
set_option linter.unusedSimpArgs false
set_option linter.unusedVariables false
set_option linter.unusedSectionVars false
-- ------------------------------------------------------------------ sums
theorem sum_le {α : Type} {l : List α} {f g : α → Int} (h : ∀ s ∈ l, f s ≤ g s) : (l.map f).sum ≤ (l.map g).sum := by
  induction l with
  | nil => simp
  | cons x l ih =>
    have h1 := h x (by simp)
    have h2 := ih fun s hs => h s (by simp [hs])
    simp only [List.map_cons, List.sum_cons]
    omega
theorem sum_mul {α : Type} (l : List α) (f : α → Int) (c : Int) : (l.map fun s => f s * c).sum = (l.map f).sum * c := by
  induction l with
  | nil => simp
  | cons x l ih => simp only [List.map_cons, List.sum_cons, ih, Int.add_mul]
theorem sum_mul' {α : Type} (l : List α) (f : α → Int) (c : Int) : (l.map fun s => c * f s).sum = c * (l.map f).sum := by
  induction l with
  | nil => simp
  | cons x l ih => simp only [List.map_cons, List.sum_cons, ih, Int.mul_add]
theorem sum_add_c {α : Type} (l : List α) (f : α → Int) (c : Int) : (l.map fun s => f s + c).sum = (l.map f).sum + l.length * c := by
  induction l with
  | nil => simp
  | cons x l ih =>
    simp only [List.map_cons, List.sum_cons, ih, List.length_cons, Int.natCast_add, Int.natCast_one, Int.add_mul, Int.one_mul]
    omega
theorem sum_nn {α : Type} {l : List α} {f : α → Int} (h : ∀ s ∈ l, 0 ≤ f s) : 0 ≤ (l.map f).sum := by
  induction l with
  | nil => simp
  | cons x l ih =>
    have h1 := h x (by simp)
    have h2 := ih fun s hs => h s (by simp [hs])
    simp only [List.map_cons, List.sum_cons]
    omega
theorem le_sum {α : Type} {l : List α} {f : α → Int} (h : ∀ s ∈ l, 0 ≤ f s) : ∀ x ∈ l, f x ≤ (l.map f).sum := by
  induction l with
  | nil => intro x hx; simp at hx
  | cons y l ih =>
    intro x hx
    have h1 := h y (by simp)
    have h2 := sum_nn (l := l) (f := f) fun s hs => h s (by simp [hs])
    simp only [List.map_cons, List.sum_cons]
    rcases List.mem_cons.1 hx with rfl | hx
    · omega
    · have := ih (fun s hs => h s (by simp [hs])) x hx
      omega
/-- What is shared out by weights, cut downwards, is not above the greatest, and not below the least by as much as there are parts. -/
theorem share_dn {α : Type} {l : List α} {f w : α → Int} {a b A : Int} (hA : A = (l.map w).sum) (hA0 : 0 < A) (hw : ∀ s ∈ l, 0 ≤ w s) (hf : ∀ s ∈ l, a ≤ f s ∧ f s ≤ b) (h0 : l ≠ []) :
    a - l.length < (l.map fun s => mdv false (f s) (w s) A).sum ∧ (l.map fun s => mdv false (f s) (w s) A).sum ≤ b := by
  have e1 : (l.map fun s => mdv false (f s) (w s) A).sum * A ≤ b * A := by
    rw [← sum_mul]
    refine Int.le_trans (sum_le (g := fun s => b * w s) fun s hs => ?_) (by rw [sum_mul', hA]; exact Int.le_refl _)
    have h1 : f s * w s / A * A ≤ f s * w s := Int.ediv_mul_le _ (by omega)
    have h2 := Int.mul_le_mul_of_nonneg_right (hf s hs).2 (hw s hs)
    simp only [mdv, Bool.false_eq_true, if_false]
    omega
  have e2 : a * A ≤ (l.map fun s => mdv false (f s) (w s) A).sum * A + l.length * (A - 1) := by
    rw [← sum_mul, ← sum_add_c]
    refine Int.le_trans (by rw [sum_mul', ← hA]; exact Int.le_refl _) (sum_le (f := fun s => a * w s) fun s hs => ?_)
    have h1 : f s * w s < (f s * w s / A + 1) * A := Int.lt_ediv_add_one_mul_self _ hA0
    have h2 := Int.mul_le_mul_of_nonneg_right (hf s hs).1 (hw s hs)
    simp only [mdv, Bool.false_eq_true, if_false]
    rw [Int.add_mul] at h1
    omega
  have hn : 0 < l.length := List.length_pos_iff.2 h0
  refine ⟨?_, Int.le_of_mul_le_mul_right e1 hA0⟩
  refine Int.lt_of_mul_lt_mul_right (a := A) ?_ (Int.le_of_lt hA0)
  rw [Int.sub_mul]
  have : (l.length : Int) * (A - 1) = l.length * A - l.length := by rw [Int.mul_sub, Int.mul_one]
  omega
theorem ceil_le {n c : Int} (hc : 0 < c) : n ≤ -(-n / c) * c ∧ -(-n / c) * c ≤ n + (c - 1) := by
  have h1 : -n / c * c ≤ -n := Int.ediv_mul_le _ (by omega)
  have h2 : -n < (-n / c + 1) * c := Int.lt_ediv_add_one_mul_self _ hc
  rw [Int.add_mul] at h2
  rw [Int.neg_mul]
  omega
/-- .. cut upwards. -/
theorem share_up {α : Type} {l : List α} {f w : α → Int} {b A : Int} (hA : A = (l.map w).sum) (hA0 : 0 < A) (hw : ∀ s ∈ l, 0 ≤ w s) (hf : ∀ s ∈ l, 0 ≤ f s ∧ f s ≤ b) (h0 : l ≠ []) :
    0 ≤ (l.map fun s => mdv true (f s) (w s) A).sum ∧ (l.map fun s => mdv true (f s) (w s) A).sum < b + l.length := by
  have e1 : (l.map fun s => mdv true (f s) (w s) A).sum * A ≤ b * A + l.length * (A - 1) := by
    rw [← sum_mul]
    refine Int.le_trans (sum_le (g := fun s => b * w s + (A - 1)) fun s hs => ?_) (by rw [sum_add_c, sum_mul', hA]; exact Int.le_refl _)
    have h1 := (ceil_le (n := f s * w s) hA0).2
    have h2 := Int.mul_le_mul_of_nonneg_right (hf s hs).2 (hw s hs)
    simp only [mdv, if_true]
    omega
  have hn : 0 < l.length := List.length_pos_iff.2 h0
  refine ⟨sum_nn fun s hs => ?_, ?_⟩
  · have h1 := (ceil_le (n := f s * w s) hA0).1
    have h2 := Int.mul_nonneg (hf s hs).1 (hw s hs)
    simp only [mdv, if_true]
    exact Int.nonneg_of_mul_nonneg_left (by omega) hA0
  refine Int.lt_of_mul_lt_mul_right (a := A) ?_ (Int.le_of_lt hA0)
  rw [Int.add_mul]
  have : (l.length : Int) * (A - 1) = l.length * A - l.length := by rw [Int.mul_sub, Int.mul_one]
  omega
-- ------------------------------------------------------------------ what the mean is
def allP (L : List Sp) : Int := (L.map (wt1 (wid L))).sum
def cmS (lo hi : Int) (s : Sp) : Int := clamp (mS s) lo hi
def q2S (L : List Sp) (lo hi : Int) (s : Sp) : Int := mdv false (cmS lo hi s - lo) (wt1 (wid L) s) (allP L)
def meanP (L : List Sp) (lo hi : Int) : Int := lo + (L.map (q2S L lo hi)).sum
def q3S (L : List Sp) (lo hi : Int) (s : Sp) : Int := mdv true ((cmS lo hi s - meanP L lo hi).natAbs : Int) (wt1 (wid L) s) (allP L)
def jitP (L : List Sp) (lo hi : Int) : Int := (L.map (q3S L lo hi)).sum
theorem wid_le {L : List Sp} {s : Sp} (hs : s ∈ L) : wS s + 1 ≤ wid L := by
  unfold wid
  suffices ∀ (L : List Sp) (m : Int), m ≤ L.foldl (fun m s => if m < wS s + 1 then wS s + 1 else m) m ∧ ∀ s ∈ L, wS s + 1 ≤ L.foldl (fun m s => if m < wS s + 1 then wS s + 1 else m) m from (this L 0).2 s hs
  intro L
  induction L with
  | nil => intro m; simp
  | cons x L ih =>
    intro m
    simp only [List.foldl_cons]
    have h0 : m ≤ (if m < wS x + 1 then wS x + 1 else m) ∧ wS x + 1 ≤ (if m < wS x + 1 then wS x + 1 else m) := by split <;> omega
    obtain ⟨h1, h2⟩ := ih (if m < wS x + 1 then wS x + 1 else m)
    refine ⟨Int.le_trans h0.1 h1, fun s hs => ?_⟩
    rcases List.mem_cons.1 hs with rfl | hs
    · exact Int.le_trans h0.2 h1
    · exact h2 s hs
theorem wt1_in {L : List Sp} {s : Sp} (hs : s ∈ L) : 1024 ≤ wt1 (wid L) s ∧ wt1 (wid L) s ≤ 1048576 := by
  have h1 := wid_le hs
  have h2 := wS_in s
  have h3 : 1024 ≤ mdv false (wid L) 1024 (wS s + 1) := by
    simp only [mdv, Bool.false_eq_true, if_false]
    rw [Int.le_ediv_iff_mul_le (by omega)]
    omega
  unfold wt1
  split <;> split <;> omega
theorem allP_in {L : List Sp} (h0 : L ≠ []) (h16 : L.length ≤ 16) : 1024 ≤ allP L ∧ allP L ≤ 16777216 := by
  obtain ⟨x, hx⟩ := List.exists_mem_of_ne_nil L h0
  have h1 : wt1 (wid L) x ≤ allP L := le_sum (f := wt1 (wid L)) (fun s hs => by have := wt1_in hs; omega) x hx
  have h2 := wt1_in hx
  have h3 : (L.map (wt1 (wid L))).sum ≤ (L.map fun s => (0 : Int) + 1048576).sum := sum_le fun s hs => by have := wt1_in hs; omega
  rw [sum_add_c] at h3
  have h4 : (L.map fun _ => (0 : Int)).sum = 0 := by
    have := sum_mul L (fun _ => (1 : Int)) 0
    simpa using this
  rw [h4] at h3
  unfold allP at h1 ⊢
  omega
theorem cmS_in {lo hi : Int} (h : lo ≤ hi) (s : Sp) : lo ≤ cmS lo hi s ∧ cmS lo hi s ≤ hi := by
  unfold cmS clamp
  split
  · omega
  split <;> omega
section
variable {L : List Sp} {lo hi : Int}
theorem mean_in (h0 : L ≠ []) (h16 : L.length ≤ 16) (h : lo ≤ hi) {a b : Int} (hab : ∀ s ∈ L, a ≤ cmS lo hi s ∧ cmS lo hi s ≤ b) : a - L.length < meanP L lo hi ∧ meanP L lo hi ≤ b ∧ lo ≤ meanP L lo hi := by
  obtain ⟨h1, h2⟩ := allP_in h0 h16
  have h3 := share_dn (l := L) (f := fun s => cmS lo hi s - lo) (w := wt1 (wid L)) (a := a - lo) (b := b - lo) (A := allP L) rfl (by omega) (fun s hs => by have := wt1_in hs; omega) (fun s hs => by have := hab s hs; omega) h0
  have h4 : 0 ≤ (L.map (q2S L lo hi)).sum := sum_nn fun s hs => by
    have := wt1_in hs
    have := cmS_in h s
    exact Int.ediv_nonneg (Int.mul_nonneg (by omega) (by omega)) (by omega)
  unfold meanP
  change a - lo - L.length < (L.map (q2S L lo hi)).sum ∧ (L.map (q2S L lo hi)).sum ≤ b - lo at h3
  omega
theorem jit_in (h0 : L ≠ []) (h16 : L.length ≤ 16) (h : lo ≤ hi) {b : Int} (hb : ∀ s ∈ L, ((cmS lo hi s - meanP L lo hi).natAbs : Int) ≤ b) : 0 ≤ jitP L lo hi ∧ jitP L lo hi < b + L.length := by
  obtain ⟨h1, h2⟩ := allP_in h0 h16
  exact share_up (l := L) (f := fun s => ((cmS lo hi s - meanP L lo hi).natAbs : Int)) (w := wt1 (wid L)) (b := b) (A := allP L) rfl (by omega) (fun s hs => by have := wt1_in hs; omega) (fun s hs => ⟨by omega, hb s hs⟩) h0
end
-- ------------------------------------------------------------------ as the program adds
theorem fold_sum {α : Type} (f : α → Int) (hb : Int) (h64 : hb ≤ 9223372036854775807) : ∀ (l : List α) (a : Int), 0 ≤ a → (∀ s ∈ l, 0 ≤ f s) → a + (l.map f).sum ≤ hb → l.foldl (fun s i => wrap64 (s + f i)) a = a + (l.map f).sum
  | [], a, _, _, _ => by simp
  | x :: l, a, h0, hf, h => by
    have h1 := hf x (by simp)
    have h2 := sum_nn (l := l) (f := f) fun s hs => hf s (by simp [hs])
    simp only [List.map_cons, List.sum_cons] at h
    have hw : wrap64 (a + f x) = a + f x := by unfold wrap64; omega
    rw [List.foldl_cons, hw, fold_sum f hb h64 l (a + f x) (by omega) (fun s hs => hf s (by simp [hs])) (by omega)]
    simp only [List.map_cons, List.sum_cons]
    omega
theorem fin_map (L : List Sp) (g : Nat → Int) (f : Sp → Int) (h : ∀ (k : Nat) (s : Sp), L[k]? = some s → g k = f s) : ((List.finRange L.length).map fun x : Fin L.length => g x.1) = L.map f := by
  apply List.ext_getElem
  · simp
  · intro i h1 h2
    have h3 : i < L.length := by simpa using h2
    simp only [List.getElem_map, List.getElem_finRange]
    exact h _ _ (List.getElem?_eq_getElem h3)
theorem sumF_P (L : List Sp) (g : Nat → Int) (f : Sp → Int) (h : ∀ (k : Nat) (s : Sp), L[k]? = some s → g k = f s) (hf : ∀ s ∈ L, 0 ≤ f s) (hb : (L.map f).sum ≤ 9223372036854775807) : sumF (fun x : Fin L.length => g x) (List.finRange L.length) = (L.map f).sum := by
  have e : sumF (fun x : Fin L.length => g x) (List.finRange L.length) = (L.map f).foldl (fun s i => wrap64 (s + i)) 0 := by
    rw [← fin_map L g f h, List.foldl_map]; rfl
  have k := fold_sum (fun i : Int => i) 9223372036854775807 (Int.le_refl _) (L.map f) 0 (Int.le_refl _) (fun s hs => by obtain ⟨x, hx, rfl⟩ := List.mem_map.1 hs; exact hf x hx) (by rw [List.map_id']; omega)
  rw [e, k, List.map_id']
  omega
theorem wtd_P {L : List Sp} {k : Nat} {s : Sp} (h : L[k]? = some s) : wtd L k = wt1 (wid L) s := by simp [wtd, wts, h]
theorem cm_P {L : List Sp} {lo hi : Int} {k : Nat} {s : Sp} (h : L[k]? = some s) : cm L lo hi k = cmS lo hi s := by simp [cm, cmS, h]
/-- What Mean answers. -/
def mnV (L : List Sp) (H : Sp) : Int × Int × Int := if 16 < L.length ∨ L.all mayB = false ∨ mayB H = false then (0, 0, 1) else if L = [] then (0, 0, 33) else (meanP L H.2.1 H.2.2, jitP L H.2.1 H.2.2, 0)
end Go.Proofs.YtcpiohklljppaaaW.AI.D

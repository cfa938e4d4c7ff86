import Derived.Test.YtdpbbagllhfjbaaDoorAISem13b
import Derived.Orders
/-! A region that draws its order. -/
namespace Go.Proofs.YtdpbbagllhfjbaaDoorW.AI
open Go
set_option linter.unusedVariables false
set_option linter.unusedSimpArgs false

section
variable {X : Ctx} {B : Nat} {ρg : Env} {gl : AHeap} {nt : Nat} {call : CallT} {ops : Array Oper}

structure Drawn (X : Ctx) (nt : Nat) (ops : Array Oper) (n : Nat) (ix : Nat → Nat) (mo : Nat → MOper) (ob : Nat → Oper) (bs : Nat → List Nat) (un : Nat → Nat → Prop) : Prop where
  op : ∀ k, k < n → ops[ix k]? = some (ob k)
  inj : ∀ j k, j < n → k < n → ix j = ix k → j = k
  sur : ∀ i, i < ops.size → ∃ k, k < n ∧ ix k = i
  chk : ∀ k, k < n → chkOper X nt ops (ob k) (mo k) = true
  rds : ∀ k, k < n → ∀ t ∈ (mo k).rds, t ∈ (ob k).looksAt ops
  just : ∀ k, k < n → ∀ j ∈ bs k, ∃ e ∈ (ob k).after, Region.binds .any e = true ∧ ∃ j', j' < n ∧ ix j' = e.on ∧ (j' = j ∨ j ∈ bs j')
  aft : ∀ k, k < n → ∀ e ∈ (ob k).after, Region.binds .any e = true → ∃ j, j < k ∧ ix j = e.on
  okx : ∀ k, k < n → (mo k).op.okx X.G = true
  pair : ∀ j k, j < k → k < n → j ∈ bs k ∨ ((ob j).apart ops (ob k) = true ∧ ¬ ((mo j).op.heap = true ∧ (mo k).op.actor = true) ∧
    ((mo j).op.reads = true → (mo k).op.actor = true → un j k) ∧ ((mo j).op.actor = true → (mo k).op.reads = true → un k j))

structure RunD (call : CallT) (n : Nat) (mo : Nat → MOper) (as : Nat → Acts) (hs : Nat → AHeap) (vs : Nat → AV) (wss : Nat → List Nat) (un : Nat → Nat → Prop) : Prop where
  step : ∀ k, k < n → aoper call (mo k) (as k) (hs k) = some (vs k, hs (k + 1), wss k) ∧ as (k + 1) = putA (as k) (mo k).dst (vs k)
  un : ∀ j q, un j q → j < n → q < n → ∀ b, (recOf (mo j) (as j) (hs j) (wss j) (hs (j + 1)).length).rb = some b → faceOk (hs j) b = true ∧ b ∉ wss q ∧ ¬ ((hs q).length ≤ b ∧ b < (hs (q + 1)).length)

/-- An alloc that has made its block. -/
def Fired (n : Nat) (mo : Nat → MOper) (hs : Nat → AHeap) (k : Nat) : Prop := k < n ∧ (mo k).op.alloc = true ∧ (hs (k + 1)).length = (hs k).length + 1

/-- Blocks that values may lead to. -/
def Made (hs : Nat → AHeap) (p : Nat) (V : AHeap) (i : Nat) : Prop := i < (hs p).length ∨ ∃ x : ABlk, V[i]? = some x ∧ x.st ≠ .dead

structure Inv (X : Ctx) (B : Nat) (ρg : Env) (gl : AHeap) (nt n : Nat) (mo : Nat → MOper) (bs : Nat → List Nat) (as : Nat → Acts) (hs : Nat → AHeap) (vs : Nat → AV) (ρ₀ : Env) (w₀ : World) (ex : Nat → Prop) (p : Nat) (V : AHeap) (ρ : Env) (A : Act) (w : World) : Prop where
  closed : ∀ k j, k < n → ex k → j ∈ bs k → ex j
  lo : ∀ k, k < n → (mo k).op.heap = true → k < p → ex k
  hi : ∀ k, k < n → (mo k).op.actor = true → p ≤ k → ¬ ex k
  pn : p ≤ n
  g0 : gl.length ≤ (hs 0).length
  vlen : V.length = (hs n).length
  vlow : ∀ i, i < (hs p).length → V[i]? = (hs p)[i]?
  vpen : ∀ k, Fired n mo hs k → ex k → p ≤ k → V[(hs k).length]? = (hs (k + 1))[(hs k).length]?
  vdead : ∀ (i : Nat) (x : ABlk), V[i]? = some x → x.st ≠ .dead → (hs p).length ≤ i → ∃ k, Fired n mo hs k ∧ ex k ∧ p ≤ k ∧ (hs k).length = i
  von : ∀ (i : Nat) (x : ABlk), V[i]? = some x → x.st ≠ .dead → (hs p).length ≤ i → x.st = .tip false ∧ x.c.on (Made hs p V) ∧ x.c.lt i = true
  wfs : ∀ q, q ≤ p → WFh (hs q)
  st : St B ρg gl X.gid ρ V w
  ag : Agree (hs 0).length ρ₀ ρ
  fr : Fr ρ₀ (hs 0) w₀ ρ V w
  dfs : A.defers = []
  size : nt ≤ A.tmps.size
  val : ∀ k, k < n → ex k → (vs k).lt (hs (k + 1)).length = true ∧ (vs k).on (Made hs p V)
  new : ∀ k t, k < n → ex k → (mo k).dst = some t → (∀ k', k < k' → k' < n → ex k' → (mo k').dst ≠ some t) → R ρ (vs k) (A.tmps.getD t undef)
  old : ∀ t v, (∀ k, k < n → ex k → (mo k).dst ≠ some t) → look (as 0) t = some v → v.lt (hs 0).length = true ∧ R ρ v (A.tmps.getD t undef)

variable {n : Nat} {ix : Nat → Nat} {mo : Nat → MOper} {ob : Nat → Oper} {bs : Nat → List Nat} {un : Nat → Nat → Prop} {as : Nat → Acts} {hs : Nat → AHeap} {vs : Nat → AV} {wss : Nat → List Nat} {ρ₀ : Env} {w₀ : World}

/-- Where a slot's value comes from. -/
theorem RunD.look (r : RunD call n mo as hs vs wss un) (t : Nat) : ∀ k, k ≤ n → (∃ j, j < k ∧ (mo j).dst = some t ∧ (∀ j', j < j' → j' < k → (mo j').dst ≠ some t) ∧ look (as k) t = some (vs j)) ∨ ((∀ j, j < k → (mo j).dst ≠ some t) ∧ look (as k) t = look (as 0) t)
  | 0, _ => Or.inr ⟨fun j hj => by omega, rfl⟩
  | k + 1, hk => by
    obtain ⟨_, e⟩ := r.step k (by omega)
    rw [e]
    by_cases hd : (mo k).dst = some t
    · refine Or.inl ⟨k, by omega, hd, fun j' h1 h2 => by omega, ?_⟩
      rw [hd]; simp [putA, AI.look]
    · have hl : AI.look (putA (as k) (mo k).dst (vs k)) t = AI.look (as k) t := by
        cases hdd : (mo k).dst with
        | none => rfl
        | some d => simp only [putA, AI.look]; rw [if_neg (fun e => hd (by rw [hdd, e]))]
      rw [hl]
      rcases r.look t k (by omega) with ⟨j, h1, h2, h3, h4⟩ | ⟨h1, h2⟩
      · refine Or.inl ⟨j, by omega, h2, fun j' g1 g2 => ?_, h4⟩
        by_cases hj : j' = k
        · subst hj; exact hd
        · exact h3 j' g1 (by omega)
      · refine Or.inr ⟨fun j hj => ?_, h2⟩
        by_cases hjk : j = k
        · subst hjk; exact hd
        · exact h1 j (by omega)

theorem RunD.steady (r : RunD call n mo as hs vs wss un) (hcall : SteadyCall call) {b j : Nat} {x : ABlk} (hx : (hs j)[b]? = some x) : ∀ d, j + d ≤ n → (∀ q, j ≤ q → q < j + d → (mo q).op.heap = true → b ∉ wss q) →
    ∃ x' : ABlk, (hs (j + d))[b]? = some x' ∧ x'.c = x.c ∧ (x'.st = x.st ∨ ∃ t, x.st = .old t)
  | 0, _, _ => ⟨x, hx, rfl, Or.inl rfl⟩
  | d + 1, hd, hw => by
    obtain ⟨x', h1, h2, h3⟩ := r.steady hcall hx d (by omega) (fun q g1 g2 => hw q g1 (by omega))
    obtain ⟨e, _⟩ := r.step (j + d) (by omega)
    by_cases hh : (mo (j + d)).op.heap = true
    · obtain ⟨x'', k1, k2, k3⟩ := (aoper_steady hcall e).2 b x' h1 (hw _ (by omega) (by omega) hh)
      refine ⟨x'', k1, k2.trans h2, ?_⟩
      rcases h3 with h3 | h3
      · rcases k3 with k3 | ⟨t, k3⟩
        · exact Or.inl (k3.trans h3)
        · exact Or.inr ⟨t, h3 ▸ k3⟩
      · exact Or.inr h3
    · have := (aoper_pure (hi := 0) (by simpa using hh) e).1
      refine ⟨x', ?_, h2, h3⟩
      show (hs (j + d + 1))[b]? = _
      rw [this]; exact h1

theorem RunD.length (r : RunD call n mo as hs vs wss un) (hcall : SteadyCall call) {j : Nat} : ∀ d, j + d ≤ n → (hs j).length ≤ (hs (j + d)).length
  | 0, _ => Nat.le_refl _
  | d + 1, hd => Nat.le_trans (r.length hcall d (by omega)) (aoper_steady hcall (r.step (j + d) (by omega)).1).1

/-- No heap operation between: the same heap. -/
theorem RunD.same (r : RunD call n mo as hs vs wss un) {j : Nat} : ∀ d, j + d ≤ n → (∀ q, j ≤ q → q < j + d → (mo q).op.heap = false) → hs (j + d) = hs j
  | 0, _, _ => rfl
  | d + 1, hd, hq => by
    have := (aoper_pure (hi := 0) (hq (j + d) (by omega) (by omega)) (r.step (j + d) (by omega)).1).1
    show hs (j + d + 1) = _
    rw [this, r.same d (by omega) (fun q g1 g2 => hq q g1 (by omega))]

theorem faceOk_elim {h : AHeap} {b : Nat} (hf : faceOk h b = true) : ∃ x : ABlk, h[b]? = some x ∧ (x.st = .ext ∨ ∃ o, x.st = .tip o) := by
  unfold faceOk at hf
  split at hf
  · exact ⟨_, by assumption, Or.inl rfl⟩
  · exact ⟨_, by assumption, Or.inr ⟨_, rfl⟩⟩
  · cases hf

theorem cellsAt_of {h : AHeap} {b : Nat} {x : ABlk} (hx : h[b]? = some x) (hd : x.st ≠ .dead) : cellsAt h b = some x.c := by
  obtain ⟨st, c⟩ := x
  unfold cellsAt
  rw [hx]
  split
  · rename_i he; cases he; exact absurd rfl hd
  · rename_i he; cases he; rfl
  · rename_i he; cases he

theorem Made.mono {p q : Nat} {V V' : AHeap} (h1 : (hs p).length ≤ (hs q).length) (h2 : ∀ (i : Nat) (x : ABlk), (hs p).length ≤ i → V[i]? = some x → x.st ≠ .dead → Made hs q V' i) {i : Nat} (h : Made hs p V i) : Made hs q V' i := by
  rcases h with h | ⟨x, h3, h4⟩
  · exact Or.inl (by omega)
  · by_cases hlt : i < (hs p).length
    · exact Or.inl (by omega)
    · exact h2 i x (by omega) h3 h4

/-- An alloc's step. -/
theorem RunD.alloc (r : RunD call n mo as hs vs wss un) (D : Drawn X nt ops n ix mo ob bs un) {k : Nat} (hk : k < n) (ha : (mo k).op.alloc = true) :
    (hs (k + 1) = hs k ∧ wss k = [] ∧ vs k = .tup [] ∧ ∀ h', aoper call (mo k) (as k) h' = some (.tup [], h', [])) ∨
    ∃ (mk : Nat → AV) (c : ACells), (mk = (fun n => .ptr n 0) ∨ ∃ l k, mk = fun n => .sl n 0 l k) ∧ vs k = mk (hs k).length ∧ hs (k + 1) = hs k ++ [.new c] ∧ wss k = [] ∧ (∀ h' : AHeap, aoper call (mo k) (as k) h' = some (mk h'.length, h' ++ [.new c], [])) ∧
      ∀ S : Nat → Prop, (∀ i, i < X.G → S i) → (∀ t ∈ (mo k).rds, ∀ v, AI.look (as k) t = some v → v.on S) → c.on S := by
  obtain ⟨e, _⟩ := r.step k hk
  simp only [aoper, Option.bind_eq_some_iff] at e
  obtain ⟨g, hg, e⟩ := e
  cases g
  · left
    simp only [Option.some.injEq, Prod.mk.injEq] at e
    obtain ⟨e1, e2, e3⟩ := e
    exact ⟨e2.symm, e3.symm, e1.symm, fun h' => by simp [aoper, hg]⟩
  · right
    obtain ⟨mk, c, h1, h2, h3, h4⟩ := aop_alloc ha (D.okx k hk) e
    simp only [Prod.mk.injEq] at h2
    obtain ⟨q1, q2, q3⟩ := h2
    exact ⟨mk, c, h1, q1, q2, q3, fun h' => by simp only [aoper, hg, Option.bind_some]; exact h3 h', fun S hG ha => h4 S hG fun t ht => ha t (by simp [MOper.rds, ht])⟩

/-- No actor between: what lies behind was made by allocs. -/
theorem RunD.span (r : RunD call n mo as hs vs wss un) (D : Drawn X nt ops n ix mo ob bs un) {p : Nat} : ∀ d, p + d ≤ n → (∀ q, p ≤ q → q < p + d → (mo q).op.actor = false) →
    ∃ E : AHeap, hs (p + d) = hs p ++ E ∧ ∀ i, i < E.length → ∃ k, p ≤ k ∧ k < p + d ∧ Fired n mo hs k ∧ (hs k).length = (hs p).length + i ∧ (hs (k + 1))[(hs k).length]? = E[i]?
  | 0, _, _ => ⟨[], by simp, fun i hi => by simp at hi⟩
  | d + 1, hd, hq => by
    obtain ⟨E, e1, e2⟩ := r.span D d (by omega) (fun q g1 g2 => hq q g1 (by omega))
    have up : ∀ i, i < E.length → ∃ k, p ≤ k ∧ k < p + (d + 1) ∧ Fired n mo hs k ∧ (hs k).length = (hs p).length + i ∧ (hs (k + 1))[(hs k).length]? = E[i]? := fun i hi => by
      obtain ⟨k, g1, g2, g3⟩ := e2 i hi
      exact ⟨k, g1, by omega, g3⟩
    cases hh : (mo (p + d)).op.heap with
    | false =>
      have := (aoper_pure (hi := 0) hh (r.step (p + d) (by omega)).1).1
      exact ⟨E, by show hs (p + d + 1) = _; rw [this, e1], up⟩
    | true =>
      have hal : (mo (p + d)).op.alloc = true := by
        rcases MOp.heap_cases hh with h | h
        · exact h
        · rw [hq (p + d) (by omega) (by omega)] at h; cases h
      rcases r.alloc D (show p + d < n by omega) hal with ⟨h1, _⟩ | ⟨mk, c, _, _, h1, _⟩
      · exact ⟨E, by show hs (p + d + 1) = _; rw [h1, e1], up⟩
      · refine ⟨E ++ [.new c], by show hs (p + d + 1) = _; rw [h1, e1, List.append_assoc], fun i hi => ?_⟩
        by_cases hlt : i < E.length
        · obtain ⟨k, g1, g2, g3, g4, g5⟩ := up i hlt
          exact ⟨k, g1, g2, g3, g4, by rw [g5, List.getElem?_append_left hlt]⟩
        · have hi2 : i = E.length := by simp at hi; omega
          subst hi2
          refine ⟨p + d, by omega, by omega, ⟨by omega, hal, by rw [h1]; simp⟩, by rw [e1]; simp, ?_⟩
          rw [h1]; simp

/-- What a load reads where it comes up reads as it does in the run. -/
theorem RunD.cells (r : RunD call n mo as hs vs wss un) (D : Drawn X nt ops n ix mo ob bs un) (hcall : SteadyCall call) {ex : Nat → Prop} {p : Nat} {V : AHeap} (lo : ∀ k, k < n → (mo k).op.heap = true → k < p → ex k) (hi : ∀ k, k < n → (mo k).op.actor = true → p ≤ k → ¬ ex k)
    (closed : ∀ k j, k < n → ex k → j ∈ bs k → ex j) (hp : p ≤ n) (vlow : ∀ i, i < (hs p).length → V[i]? = (hs p)[i]?) (vpen : ∀ k, Fired n mo hs k → ex k → p ≤ k → V[(hs k).length]? = (hs (k + 1))[(hs k).length]?)
    (vdead : ∀ (i : Nat) (x : ABlk), V[i]? = some x → x.st ≠ .dead → (hs p).length ≤ i → ∃ k, Fired n mo hs k ∧ ex k ∧ p ≤ k ∧ (hs k).length = i)
    {k : Nat} (hk : k < n) (hex : ¬ ex k) (hrdy : ∀ j ∈ bs k, ex j) (hread : (mo k).op.reads = true) {b : Nat} (hb : (recOf (mo k) (as k) (hs k) (wss k) (hs (k + 1)).length).rb = some b)
    (hc : ∃ c, cellsAt (hs k) b = some c) (hmade : Made hs p V b) : cellsAt V b = cellsAt (hs k) b := by
  obtain ⟨c, hc⟩ := hc
  obtain ⟨x, hx, hd, rfl⟩ := cellsAt_some hc
  rw [hc]
  have hbk : b < (hs k).length := (List.getElem?_eq_some_iff.1 hx).1
  have nows : ∀ q, q < n → (mo q).op.heap = true → (mo q).op.actor = false → b ∉ wss q := by
    intro q hq h1 h2
    rcases MOp.heap_cases h1 with h3 | h3
    · rcases r.alloc D hq h3 with ⟨_, h4, _⟩ | ⟨_, _, _, _, _, h4, _⟩ <;> rw [h4] <;> simp
    · rw [h2] at h3; cases h3
  have back : ∀ j, j ≤ k → p ≤ j → ∀ y : ABlk, (hs j)[b]? = some y → y.st ≠ .dead ∧ y.c = x.c := by
    intro j hjk hpj y hy
    obtain ⟨x', k1, k2, k3⟩ := r.steady hcall hy (k - j) (by omega) (fun q g1 g2 g3 => by
      cases hqa : (mo q).op.actor with
      | false => exact nows q (by omega) g3 hqa
      | true =>
        rcases D.pair q k (by omega) hk with h1 | ⟨_, _, _, h1⟩
        · exact absurd (hrdy q h1) (hi q (by omega) hqa (by omega))
        · exact (r.un k q (h1 hqa hread) hk (by omega) b hb).2.1)
    rw [show j + (k - j) = k by omega, hx] at k1
    cases k1
    refine ⟨fun hyd => ?_, k2.symm⟩
    rcases k3 with k3 | ⟨t, k3⟩
    · exact hd (k3.trans hyd)
    · rw [hyd] at k3; cases k3
  by_cases hkp : p ≤ k
  · rcases Nat.lt_or_ge b (hs p).length with hbp | hbp
    · obtain ⟨y, hy⟩ : ∃ y, (hs p)[b]? = some y := ⟨_, List.getElem?_eq_getElem hbp⟩
      obtain ⟨h1, h2⟩ := back p hkp (Nat.le_refl _) y hy
      rw [cellsAt_of ((vlow b hbp).trans hy) h1, h2]
    · rcases hmade with h0 | ⟨y, hy, hyd⟩
      · omega
      · obtain ⟨j, hf, hej, hpj, hjb⟩ := vdead b y hy hyd hbp
        have hjk : j < k := by
          rcases Nat.lt_or_ge j k with h | h
          · exact h
          · have := r.length hcall (j := k) (j - k) (by have := hf.1; omega)
            rw [show k + (j - k) = j by omega] at this
            omega
        have h3 := vpen j hf hej hpj
        rw [hjb, hy] at h3
        obtain ⟨h1, h2⟩ := back (j + 1) (by omega) (by omega) y h3.symm
        rw [cellsAt_of hy h1, h2]
  · -- the world has gone further
    have hkp' : k < p := by omega
    have hbp : b < (hs p).length := by
      have := r.length hcall (j := k) (p - k) (by omega)
      rw [show k + (p - k) = p by omega] at this
      omega
    have hu : ∀ q, k < q → q < p → (mo q).op.actor = true → faceOk (hs k) b = true ∧ b ∉ wss q := by
      intro q g1 g2 g3
      have hq := lo q (by omega) (MOp.actor_heap g3) g2
      rcases D.pair k q g1 (by omega) with h1 | ⟨_, _, h1, _⟩
      · exact absurd (closed q k (by omega) hq h1) hex
      · have := r.un k q (h1 hread g3) hk (by omega) b hb
        exact ⟨this.1, this.2.1⟩
    have hkh : (mo k).op.heap = false := by
      generalize (mo k).op = m at hread
      cases m <;> simp [MOp.reads] at hread <;> rfl
    have hka : (mo k).op.actor = false := by unfold MOp.actor; rw [hkh]; rfl
    by_cases hany : ∃ q, k < q ∧ q < p ∧ (mo q).op.actor = true
    · obtain ⟨q, g1, g2, g3⟩ := hany
      obtain ⟨x₁, hx₁, hst⟩ := faceOk_elim (hu q g1 g2 g3).1
      rw [hx] at hx₁; cases hx₁
      obtain ⟨x', k1, k2, k3⟩ := r.steady hcall hx (p - k) (by omega) (fun q' g1' g2' g3' => by
        by_cases hqk : q' = k
        · subst hqk; rw [hkh] at g3'; cases g3'
        · cases hqa : (mo q').op.actor with
          | false => exact nows q' (by omega) g3' hqa
          | true => exact (hu q' (by omega) (by omega) hqa).2)
      rw [show k + (p - k) = p by omega] at k1
      rw [cellsAt_of ((vlow b hbp).trans k1) ?_, k2]
      rcases k3 with k3 | ⟨t, k3⟩
      · rw [k3]; exact hd
      · rcases hst with hst | ⟨o, hst⟩ <;> rw [hst] at k3 <;> cases k3
    · obtain ⟨E, hE, _⟩ := r.span D (p := k) (p - k) (by omega) (fun q g1 g2 => by
        by_cases hqk : q = k
        · subst hqk; exact hka
        · have : ¬ ((mo q).op.actor = true) := fun hh => hany ⟨q, by omega, by omega, hh⟩
          simpa using this)
      rw [show k + (p - k) = p by omega] at hE
      rw [cellsAt_of ((vlow b hbp).trans (by rw [hE, List.getElem?_append_left hbk]; exact hx)) hd]

theorem recOf_reads {o : MOper} {a : Acts} {h : AHeap} {ws : List Nat} {hi b : Nat} (hb : (recOf o a h ws hi).rb = some b) : o.op.reads = true := by
  unfold recOf at hb
  split at hb
  · split at hb
    · rename_i b' hrb
      unfold readB at hrb
      split at hrb <;> first | (cases hrb; done) | skip
      all_goals (rename_i he; rw [he]; rfl)
    · cases hb
  · cases hb

theorem recOf_cells {o : MOper} {a : Acts} {h : AHeap} {ws : List Nat} {hi b : Nat} (hb : (recOf o a h ws hi).rb = some b) {v : AV} {h' : AHeap} (hr : aoper call o a h = some (v, h', ws)) : ∃ c, cellsAt h b = some c := by
  unfold recOf at hb
  split at hb
  case isFalse => cases hb
  rename_i hg
  simp only [aoper, hg, Option.bind_some] at hr
  split at hb
  case h_2 => cases hb
  rename_i b' hrb
  cases hb
  unfold readB at hrb
  split at hrb <;> first | (cases hrb; done) | skip
  · rename_i he
    rw [he] at hr
    simp only [aop] at hr
    split at hrb
    · rename_i hx
      cases hrb
      rw [hx] at hr
      simp only [Option.bind_some, Option.bind_eq_some_iff] at hr
      obtain ⟨c, hc, _⟩ := hr
      exact ⟨c, hc⟩
    · cases hrb
  · rename_i he
    rw [he] at hr
    simp only [aop] at hr
    split at hrb
    · rename_i hx
      cases hrb
      rw [hx] at hr
      simp only [Option.bind_some, Option.bind_eq_some_iff, sliceCells] at hr
      obtain ⟨c, ⟨c', hc, _⟩, _⟩ := hr
      exact ⟨c', hc⟩
    · rename_i hx
      cases hrb
      rw [hx] at hr
      simp only [Option.bind_some, Option.bind_eq_some_iff, sliceCells] at hr
      obtain ⟨c, hc, _⟩ := hr
      split at hc
      · simp only [Option.bind_eq_some_iff] at hc
        obtain ⟨c', hc, _⟩ := hc
        exact ⟨c', hc⟩
      · cases hc
    · cases hrb

/-- Operands' values. -/
theorem Inv.operand (r : RunD call n mo as hs vs wss un) (D : Drawn X nt ops n ix mo ob bs un) (hsc : SteadyCall call) {ex : Nat → Prop} {p : Nat} {V : AHeap} {ρ : Env} {A : Act} {w : World} (I : Inv X B ρg gl nt n mo bs as hs vs ρ₀ w₀ ex p V ρ A w)
    {k : Nat} (hk : k < n) (hex : ¬ ex k) (hrdy : ∀ j ∈ bs k, ex j) {t : Nat} (ht : t ∈ (mo k).rds) {v : AV} (hv : AI.look (as k) t = some v) : v.lt (hs k).length = true ∧ v.on (Made hs p V) ∧ R ρ v (A.tmps.getD t undef) := by
  have h0p : ∀ q, q ≤ n → (hs 0).length ≤ (hs q).length := fun q hq => by have := r.length hsc (j := 0) q (by omega); rwa [Nat.zero_add] at this
  have conf : ∀ j, j < n → (mo j).dst = some t → (j < k → ex j) ∧ (k < j → ¬ ex j) := by
    intro j hj hdj
    have hlk := D.rds k hk t ht
    have hdo : (ob j).dst = some t := by rw [(chkOper_dst (D.chk j hj)).1]; exact hdj
    constructor
    · intro hjk
      rcases D.pair j k hjk hk with h1 | ⟨h1, _⟩
      · exact hrdy j h1
      · exact absurd hlk ((Oper.apart_spec h1).1 t hdo)
    · intro hkj hej
      rcases D.pair k j hkj hj with h1 | ⟨h1, _⟩
      · exact hex (I.closed j k hj hej h1)
      · exact (Oper.apart_spec h1).2.2 t hdo hlk
  rcases r.look t k (by omega) with ⟨j, h1, h2, h3, h4⟩ | ⟨h1, h2⟩
  · rw [h4] at hv; cases hv
    have hej := (conf j (by omega) h2).1 h1
    obtain ⟨g1, g2⟩ := I.val j (by omega) hej
    have hle := r.length hsc (j := j + 1) (k - (j + 1)) (by omega)
    rw [show j + 1 + (k - (j + 1)) = k by omega] at hle
    refine ⟨AV.lt_mono hle _ g1, g2, I.new j t (by omega) hej h2 (fun k' g1 g2 g3 g4 => ?_)⟩
    by_cases hk' : k' < k
    · exact h3 k' g1 hk' g4
    · by_cases hkk : k' = k
      · subst hkk; exact hex g3
      · exact (conf k' g2 g4).2 (by omega) g3
  · rw [h2] at hv
    obtain ⟨g1, g2⟩ := I.old t v (fun j hj hej hdj => by
      by_cases hjk : j < k
      · exact h1 j hjk hdj
      · by_cases hkk : j = k
        · subst hkk; exact hex hej
        · exact (conf j hj hdj).2 (by omega) hej) hv
    exact ⟨AV.lt_mono (h0p k (by omega)) _ g1, AV.lt_on (fun i hi => Or.inl (Nat.lt_of_lt_of_le hi (h0p p I.pn))) _ g1, g2⟩

/-- The tmps behind an operation. -/
theorem Inv.tmps (D : Drawn X nt ops n ix mo ob bs un) {ex : Nat → Prop} {p : Nat} {V : AHeap} {ρ ρ' : Env} {A : Act} {w : World} (I : Inv X B ρg gl nt n mo bs as hs vs ρ₀ w₀ ex p V ρ A w) {S : Nat → Prop} (ag : AgreeOn S ρ ρ') (h0 : ∀ i, i < (hs 0).length → S i) (hval : ∀ j, j < n → ex j → (vs j).on S)
    {k : Nat} (hk : k < n) (hex : ¬ ex k) (hrdy : ∀ j ∈ bs k, ex j) {x : Value} (hr' : R ρ' (vs k) x) :
    (A.put (ob k).dst x).defers = [] ∧ nt ≤ (A.put (ob k).dst x).tmps.size ∧
    (∀ j t, j < n → (ex j ∨ j = k) → (mo j).dst = some t → (∀ k', j < k' → k' < n → (ex k' ∨ k' = k) → (mo k').dst ≠ some t) → R ρ' (vs j) ((A.put (ob k).dst x).tmps.getD t undef)) ∧
    (∀ t v, (∀ j, j < n → (ex j ∨ j = k) → (mo j).dst ≠ some t) → AI.look (as 0) t = some v → v.lt (hs 0).length = true ∧ R ρ' v ((A.put (ob k).dst x).tmps.getD t undef)) := by
  have hck := D.chk k hk
  obtain ⟨d1, d2⟩ := chkOper_dst hck
  refine ⟨?_, ?_, ?_, ?_⟩
  · have := I.dfs
    unfold Act.put
    split <;> exact this
  · have := I.size
    unfold Act.put
    split <;> simpa using this
  · intro j t hj hej hdj hlast
    by_cases hjk : j = k
    · subst hjk
      have hlt : t < A.tmps.size := Nat.lt_of_lt_of_le (d2 t hdj) I.size
      have : (A.put (ob j).dst x).tmps.getD t undef = x := by
        rw [d1, hdj]; simp [Act.put, hlt]
      rw [this]; exact hr'
    · have hej' : ex j := hej.resolve_right hjk
      have hne : (mo k).dst ≠ some t := by
        intro hdk
        by_cases hlt : j < k
        · exact hlast k hlt hk (Or.inr rfl) hdk
        · rcases D.pair k j (by omega) hj with h1 | ⟨h1, _⟩
          · exact hex (I.closed j k hj hej' h1)
          · refine (Oper.apart_spec h1).2.1 t ?_ ?_
            · rw [d1]; exact hdk
            · rw [(chkOper_dst (D.chk j hj)).1]; exact hdj
      have g2 := I.new j t hj hej' hdj (fun k' q1 q2 q3 => hlast k' q1 q2 (Or.inl q3))
      have : (A.put (ob k).dst x).tmps.getD t undef = A.tmps.getD t undef := by
        rw [d1]
        cases hdd : (mo k).dst with
        | none => rfl
        | some d =>
          have : d ≠ t := fun e => hne (by rw [hdd, e])
          simp [Act.put, Array.getElem?_setIfInBounds_ne this]
      rw [this]; exact R_on ag _ _ (hval j hj hej') g2
  · intro t v hno hv
    have hne : (mo k).dst ≠ some t := hno k hk (Or.inr rfl)
    obtain ⟨g1, g2⟩ := I.old t v (fun j hj hej => hno j hj (Or.inl hej)) hv
    have : (A.put (ob k).dst x).tmps.getD t undef = A.tmps.getD t undef := by
      rw [d1]
      cases hdd : (mo k).dst with
      | none => rfl
      | some d =>
        have : d ≠ t := fun e => hne (by rw [hdd, e])
        simp [Act.put, Array.getElem?_setIfInBounds_ne this]
    rw [this]; exact ⟨g1, R_on ag _ _ (AV.lt_on h0 _ g1) g2⟩

/-- One operation that comes up. -/
theorem Inv.step (hG : gl.length = X.G) (hcall : CallOk X B ρg gl call) (hsc : SteadyCall call) (r : RunD call n mo as hs vs wss un) (D : Drawn X nt ops n ix mo ob bs un) {ex : Nat → Prop} {p : Nat} {V : AHeap} {ρ : Env} {A : Act} {w : World} (I : Inv X B ρg gl nt n mo bs as hs vs ρ₀ w₀ ex p V ρ A w)
    {k : Nat} (hk : k < n) (hex : ¬ ex k) (hrdy : ∀ j ∈ bs k, ex j) {K : Act → World → Prop} {Q : Exit → Act → World → Prop}
    (hK : ∀ A' w' p' V' ρ', Inv X B ρg gl nt n mo bs as hs vs ρ₀ w₀ (fun j => ex j ∨ j = k) p' V' ρ' A' w' → K A' w') : wpOp X.P ops Q (ix k) K A w := by
  obtain ⟨e, eput⟩ := r.step k hk
  have hck := D.chk k hk
  have len : ∀ {i j}, i ≤ j → j ≤ n → (hs i).length ≤ (hs j).length := fun {i j} h1 h2 => by
    have := r.length hsc (j := i) (j - i) (by omega)
    rwa [show i + (j - i) = j by omega] at this
  have opd : ∀ {t : Nat}, t ∈ (mo k).rds → ∀ {v : AV}, AI.look (as k) t = some v → v.lt (hs k).length = true ∧ v.on (Made hs p V) ∧ R ρ v (A.tmps.getD t undef) := fun {t} ht {v} hv => I.operand r D hsc hk hex hrdy ht hv
  have har : ∀ m, (hs k).length ≤ m → AR ρ m nt (keepA (mo k).rds (as k)) A := by
    intro m hm
    refine ⟨I.size, I.dfs, fun t v hv => ?_⟩
    rw [look_keepA] at hv
    split at hv
    case isFalse => cases hv
    rename_i ht
    obtain ⟨h1, _, h3⟩ := opd ht hv
    exact ⟨AV.lt_mono hm _ h1, h3⟩
  have hcong : ∀ h', aoper call (mo k) (keepA (mo k).rds (as k)) h' = aoper call (mo k) (as k) h' := fun h' => aoper_congr h' fun t ht => by rw [look_keepA, if_pos ht]
  have hclosed : ∀ j i, j < n → (ex j ∨ j = k) → i ∈ bs j → (ex i ∨ i = k) := by
    intro j i hj hej hi
    rcases hej with h1 | h1
    · exact Or.inl (I.closed j i hj h1 hi)
    · subst h1; exact Or.inl (hrdy i hi)
  have hkn : (hs k).length ≤ (hs n).length := len (by omega) (Nat.le_refl _)
  have h0 : ∀ i, i < (hs 0).length → Made hs p V i := fun i hi => Or.inl (Nat.lt_of_lt_of_le hi (len (Nat.zero_le _) I.pn))
  have hG0 : ∀ i, i < X.G → Made hs p V i := fun i hi => h0 i (by have := I.g0; omega)
  have hG0k : ∀ i, i < X.G → i < (hs k).length := fun i hi => by have := I.g0; have := len (Nat.zero_le k) (by omega); omega
  -- nothing is done to the heap
  have still : ∀ (v : AV), vs k = v → hs (k + 1) = hs k → (∀ q, q = k → (mo q).op.actor = true → False) → ((mo k).op.heap = true → ¬ Fired n mo hs k) → v.lt (hs k).length = true → v.on (Made hs p V) → aoper call (mo k) (as k) V = some (v, V, []) → wpOp X.P ops Q (ix k) K A w := by
    intro v hv hsk hna hnf hvl hvo hrun
    refine oper_wp I.st hG (har V.length (by rw [I.vlen]; exact hkn)) hcall hck (by rw [hcong]; exact hrun) (D.op k hk) fun x w' hpst => ?_
    obtain ⟨ρ', ag, hr', _, hst', fr, _⟩ := hpst
    have agS : AgreeOn (Made hs p V) ρ ρ' := fun i hi => ag i (by
      rcases hi with h | ⟨x, h, _⟩
      · have := len I.pn (Nat.le_refl _); rw [I.vlen]; omega
      · exact (List.getElem?_eq_some_iff.1 h).1)
    obtain ⟨t1, t2, t3, t4⟩ := I.tmps D agS h0 (fun j hj he => (I.val j hj he).2) hk hex hrdy (by rw [hv]; exact hr')
    refine hK _ w' p V ρ' ⟨hclosed, fun j h1 h2 h3 => Or.inl (I.lo j h1 h2 h3), fun j h1 h2 h3 h4 => ?_, I.pn, I.g0, I.vlen, I.vlow, fun j h1 h2 h3 => ?_, fun i x h1 h2 h3 => ?_, I.von, I.wfs, hst', fun i hi => ?_, I.fr.trans fr, t1, t2, fun j hj he => ?_, t3, t4⟩
    · rcases h4 with h4 | h4
      · exact I.hi j h1 h2 h3 h4
      · subst h4; exact hna _ rfl h2
    · rcases h2 with h2 | h2
      · exact I.vpen j h1 h2 h3
      · subst h2; exact absurd h1 (hnf (MOp.alloc_heap h1.2.1))
    · obtain ⟨j, g1, g2, g3⟩ := I.vdead i x h1 h2 h3
      exact ⟨j, g1, Or.inl g2, g3⟩
    · obtain ⟨a1, a2, a3⟩ := I.ag i hi
      obtain ⟨b1, b2, b3⟩ := agS i (h0 i hi)
      exact ⟨b1.trans a1, b2.trans a2, b3.trans a3⟩
    · rcases he with he | he
      · exact I.val j hj he
      · subst he; rw [hv, hsk]; exact ⟨hvl, hvo⟩
  cases hh : (mo k).op.heap with
  | false =>
    obtain ⟨q1, q2⟩ := aoper_pure (hi := (hs (k + 1)).length) hh e
    have hact : (mo k).op.actor = false := by unfold MOp.actor; rw [hh]; rfl
    -- the cells that are read
    have hrd : ∀ b, (recOf (mo k) (as k) (hs k) (wss k) (hs (k + 1)).length).rb = some b → Made hs p V b → cellsAt V b = cellsAt (hs k) b := fun b hb hm =>
      r.cells D hsc I.lo I.hi I.closed I.pn I.vlow I.vpen I.vdead hk hex hrdy (recOf_reads hb) hb (recOf_cells hb e) hm
    have rbon : ∀ (S : Nat → Prop), (∀ i, i < X.G → S i) → (∀ t ∈ (mo k).rds, ∀ v, AI.look (as k) t = some v → v.on S) → ∀ b, readB (mo k).op (as k) = some b → S b := by
      intro S hS ha b hb
      have hkx := D.okx k hk
      unfold readB at hb
      split at hb <;> first | (cases hb; done) | skip
      · rename_i he
        rw [he] at hkx
        split at hb
        · rename_i hx
          cases hb
          exact aeval_on hS hkx (fun t ht => ha t (by simp [MOper.rds, he, MOp.rds, ht])) hx
        · cases hb
      · rename_i he
        rw [he] at hkx
        split at hb
        · rename_i hx
          cases hb
          exact aeval_on hS hkx (fun t ht => ha t (by simp [MOper.rds, he, MOp.rds, ht])) hx
        · rename_i hx
          cases hb
          exact aeval_on hS hkx (fun t ht => ha t (by simp [MOper.rds, he, MOp.rds, ht])) hx
        · cases hb
    have hmadeRB := rbon (Made hs p V) hG0 (fun t ht v hv => (opd ht hv).2.1)
    have hltRB := rbon (· < (hs k).length) hG0k (fun t ht v hv => AV.lt_on (fun _ h => h) _ (opd ht hv).1)
    have rbOf : ∀ b, (recOf (mo k) (as k) (hs k) (wss k) (hs (k + 1)).length).rb = some b → readB (mo k).op (as k) = some b := by
      intro b hb
      unfold recOf at hb
      split at hb
      · split at hb
        · rename_i b' h1; cases hb; exact h1
        · cases hb
      · cases hb
    have hrunV := q2 V fun b hb => hrd b hb (hmadeRB b (rbOf b hb))
    -- what is answered
    have hvs : (vs k).lt (hs k).length = true ∧ (vs k).on (Made hs p V) := by
      have e' := e
      simp only [aoper, Option.bind_eq_some_iff] at e'
      obtain ⟨g, hg, e'⟩ := e'
      cases g
      · simp only [Option.some.injEq, Prod.mk.injEq] at e'
        rw [← e'.1]; exact ⟨rfl, trivial⟩
      · simp only at e'
        have hrb : ∀ b, readB (mo k).op (as k) = some b → (recOf (mo k) (as k) (hs k) (wss k) (hs (k + 1)).length).rb = some b := by
          intro b hb; unfold recOf; rw [if_pos hg, hb]
        -- the cells of what is read
        have hcl : ∀ b c, readB (mo k).op (as k) = some b → cellsAt (hs k) b = some c → c.on (fun i => i < (hs k).length) ∧ c.on (Made hs p V) := by
          intro b c hb hc
          have hm := hmadeRB b hb
          have hlt := hltRB b hb
          have h1 := hrd b (hrb b hb) hm
          rw [hc] at h1
          obtain ⟨x, hx, hxd, rfl⟩ := cellsAt_some h1
          rcases Nat.lt_or_ge b (hs p).length with hbp | hbp
          · have hx2 : (hs p)[b]? = some x := by rw [← I.vlow b hbp]; exact hx
            have wl := (I.wfs p (Nat.le_refl _)).1 b x hx2 hxd
            refine ⟨?_, clt_on (fun i hi => Or.inl hi) wl⟩
            by_cases hkp : k ≤ p
            · obtain ⟨y, hy, hyd, hyc⟩ := cellsAt_some hc
              have := (I.wfs k hkp).1 b y hy hyd
              rw [hyc] at this
              exact clt_on (fun _ h => h) this
            · exact clt_on (fun i hi => Nat.lt_of_lt_of_le hi (len (by omega) (by omega))) wl
          · obtain ⟨_, h3, h4⟩ := I.von b x hx hxd hbp
            exact ⟨clt_on (fun i hi => Nat.lt_trans hi hlt) h4, h3⟩
        exact ⟨AV.on_lt (S := fun i => i < (hs k).length) (fun _ h => h) _ (aop_on hh (D.okx k hk) hG0k (fun t ht v hv => AV.lt_on (fun _ h => h) _ (opd (by simp [MOper.rds, ht]) hv).1) (fun b c h1 _ h3 => (hcl b c h1 h3).1) e'),
          aop_on hh (D.okx k hk) hG0 (fun t ht v hv => (opd (by simp [MOper.rds, ht]) hv).2.1) (fun b c h1 _ h3 => (hcl b c h1 h3).2) e'⟩
    exact still _ rfl q1 (fun q hq ha => by subst hq; rw [hact] at ha; cases ha) (fun h => by rw [hh] at h; cases h) hvs.1 hvs.2 hrunV
  | true =>
    rcases MOp.heap_cases hh with hal | hac
    · have hact : (mo k).op.actor = false := by unfold MOp.actor; rw [hal]; simp
      have hpk : p ≤ k := by
        rcases Nat.lt_or_ge k p with h1 | h1
        · exact absurd (I.lo k hk hh h1) hex
        · exact h1
      rcases r.alloc D hk hal with ⟨g1, g2, g3, g4⟩ | ⟨mk, c, hmk, g1, g2, g3, g4, g5⟩
      · exact still _ g3 g1 (fun q hq ha => by subst hq; rw [hact] at ha; cases ha) (fun _ hf => by have := hf.2.2; rw [g1] at this; omega) rfl trivial (g4 V)
      · -- a block is made
        have hf : Fired n mo hs k := ⟨hk, hal, by rw [g2]; simp⟩
        have hcS := g5 (Made hs p V) hG0 (fun t ht v hv => (opd ht hv).2.1)
        have hcL := g5 (· < (hs k).length) hG0k (fun t ht v hv => AV.lt_on (fun _ h => h) _ (opd ht hv).1)
        obtain ⟨b, hb⟩ : ∃ b, b = (hs k).length := ⟨_, rfl⟩
        have hbp : (hs p).length ≤ b := by rw [hb]; exact len hpk (by omega)
        have hbV : b < V.length := by rw [I.vlen, hb]; have := len (show k + 1 ≤ n by omega) (Nat.le_refl _); have := hf.2.2; omega
        have hbd : ∀ x, V[b]? = some x → x.st = .dead := by
          intro x hx
          by_cases hd : x.st = .dead
          · exact hd
          · obtain ⟨j, h1, h2, h3, h4⟩ := I.vdead b x hx hd hbp
            exfalso
            have hjk : j ≠ k := fun e => hex (e ▸ h2)
            rcases Nat.lt_or_gt_of_ne hjk with h5 | h5
            · have := len (show j + 1 ≤ k by omega) (by omega); have := h1.2.2; omega
            · have := len (show k + 1 ≤ j by omega) (by have := h1.1; omega); have := hf.2.2; omega
        have hnS : ¬ Made hs p V b := by
          rintro (h | ⟨x, h1, h2⟩)
          · omega
          · exact h2 (hbd x h1)
        have hnSV : ¬ Made hs p V V.length := by
          rintro (h | ⟨x, h1, h2⟩)
          · have := len I.pn (Nat.le_refl _); have := I.vlen; omega
          · have := (List.getElem?_eq_some_iff.1 h1).1; omega
        refine oper_wp I.st hG (har V.length (by rw [I.vlen]; exact hkn)) hcall hck (by rw [hcong]; exact g4 V) (D.op k hk) fun x w' hpst => ?_
        obtain ⟨ρ', ag, hr', _, hst', fr, _⟩ := hpst
        have hcell : c.lt V.length = true := by
          have h1 := hst'.rep.wf V.length (.new c) (by simp) (by simp)
          exact ACells.lt_list.2 fun v hv => ⟨AV.on_lt (fun i hi => Nat.lt_trans hi (hb ▸ hbV)) v (hcL v hv), (ACells.lt_list.1 h1 v hv).2⟩
        have honV : ∀ (i : Nat) (y : ABlk), V[i]? = some y → y.st ≠ .dead → y.c.on (Made hs p V) := by
          intro i y hy hd
          rcases Nat.lt_or_ge i (hs p).length with h1 | h1
          · rw [I.vlow i h1] at hy
            exact clt_on (fun i hi => Or.inl hi) ((I.wfs p (Nat.le_refl _)).1 i y hy hd)
          · exact (I.von i y hy hd h1).2.1
        have st2 := hst'.settle hbV hbd (by have := I.g0; have := len (Nat.zero_le p) I.pn; omega) hnS hnSV honV I.st.rep.wf I.st.rep.old hcS hcell
        have agS : AgreeOn (Made hs p V) ρ (ρ'.mv b V.length) := fun i hi => by
          have hib : i ≠ b := fun e => hnS (e ▸ hi)
          obtain ⟨e1, e2, e3⟩ := Env.mv_ne (ρ := ρ') (n := V.length) hib
          obtain ⟨a1, a2, a3⟩ := ag i (by
            rcases hi with h | ⟨x, h, _⟩
            · have := len I.pn (Nat.le_refl _); rw [I.vlen]; omega
            · exact (List.getElem?_eq_some_iff.1 h).1)
          exact ⟨e1.trans a1, e2.trans a2, e3.trans a3⟩
        have hrb : R (ρ'.mv b V.length) (vs k) x := by
          obtain ⟨e1, e2, e3⟩ := Env.mv_at (ρ := ρ') (b := b) (n := V.length)
          rw [g1, ← hb]
          rcases hmk with rfl | ⟨l, q, rfl⟩
          · simp only [R, Env.addr] at hr' ⊢
            rw [e1, e2]; exact hr'
          · simp only [R] at hr' ⊢
            rw [e1, e2]; exact hr'
        obtain ⟨t1, t2, t3, t4⟩ := I.tmps D agS h0 (fun j hj he => (I.val j hj he).2) hk hex hrdy hrb
        have hset : ∀ {i}, i ≠ b → (V.set b (ABlk.new c))[i]? = V[i]? := fun {i} h => List.getElem?_set_ne (Ne.symm h)
        have hsetb : (V.set b (ABlk.new c))[b]? = some (ABlk.new c) := List.getElem?_set_self hbV
        have made' : ∀ i, Made hs p V i → Made hs p (V.set b (ABlk.new c)) i := by
          rintro i (h | ⟨y, h1, h2⟩)
          · exact Or.inl h
          · exact Or.inr ⟨y, by rw [hset (fun e => h2 (hbd y (e ▸ h1)))]; exact h1, h2⟩
        have hnew : (hs (k + 1))[(hs k).length]? = some (ABlk.new c) := by rw [g2]; simp
        refine hK _ w' p (V.set b (.new c)) (ρ'.mv b V.length) ⟨hclosed, fun j h1 h2 h3 => Or.inl (I.lo j h1 h2 h3), fun j h1 h2 h3 h4 => ?_, I.pn, I.g0, by rw [List.length_set]; exact I.vlen, fun i hi => ?_, fun j h1 h2 h3 => ?_, fun i y h1 h2 h3 => ?_, fun i y h1 h2 h3 => ?_, I.wfs, st2, fun i hi => ?_,
          Fr.settle hbV hbd (I.fr.trans fr), t1, t2, fun j hj he => ?_, t3, t4⟩
        · rcases h4 with h4 | h4
          · exact I.hi j h1 h2 h3 h4
          · subst h4; rw [hact] at h2; cases h2
        · rw [hset (by omega)]; exact I.vlow i hi
        · rcases h2 with h2 | h2
          · rw [hset (fun e => ?_)]
            · exact I.vpen j h1 h2 h3
            · have hjk : j ≠ k := fun e => hex (e ▸ h2)
              rcases Nat.lt_or_gt_of_ne hjk with h5 | h5
              · have := len (show j + 1 ≤ k by omega) (by omega); have := h1.2.2; omega
              · have := len (show k + 1 ≤ j by omega) (by have := h1.1; omega); have := hf.2.2; omega
          · subst h2; rw [hnew, ← hb]; exact hsetb
        · by_cases hib : i = b
          · exact ⟨k, hf, Or.inr rfl, hpk, by rw [hib, hb]⟩
          · rw [hset hib] at h1
            obtain ⟨j, q1, q2, q3⟩ := I.vdead i y h1 h2 h3
            exact ⟨j, q1, Or.inl q2, q3⟩
        · by_cases hib : i = b
          · subst hib
            rw [hsetb] at h1; cases h1
            refine ⟨rfl, on_mono' made' hcS, ACells.lt_list.2 fun v hv => ⟨?_, (ACells.lt_list.1 hcell v hv).2⟩⟩
            rw [hb]
            exact AV.on_lt (fun _ h => h) v (hcL v hv)
          · rw [hset hib] at h1
            obtain ⟨q1, q2, q3⟩ := I.von i y h1 h2 h3
            exact ⟨q1, on_mono' made' q2, q3⟩
        · obtain ⟨a1, a2, a3⟩ := I.ag i hi
          obtain ⟨b1, b2, b3⟩ := agS i (h0 i hi)
          exact ⟨b1.trans a1, b2.trans a2, b3.trans a3⟩
        · rcases he with he | he
          · obtain ⟨q1, q2⟩ := I.val j hj he
            exact ⟨q1, AV.on_mono made' _ q2⟩
          · subst he
            rw [g1, hf.2.2]
            have hbm : Made hs p (V.set b (ABlk.new c)) (hs j).length := Or.inr ⟨_, by rw [← hb]; exact hsetb, by simp⟩
            rcases hmk with rfl | ⟨l, q, rfl⟩
            · exact ⟨by simp [AV.lt], hbm⟩
            · exact ⟨by simp [AV.lt], hbm⟩
    · -- an actor
      have hpk : p ≤ k := by
        rcases Nat.lt_or_ge k p with h1 | h1
        · exact absurd (I.lo k hk hh h1) hex
        · exact h1
      have hbefore : ∀ q, q < k → (mo q).op.heap = true → ex q := by
        intro q g1 g2
        rcases D.pair q k g1 hk with h1 | ⟨_, h1, _⟩
        · exact hrdy q h1
        · exact absurd ⟨g2, hac⟩ h1
      have hno : ∀ q, p ≤ q → q < p + (k - p) → (mo q).op.actor = false := by
        intro q g1 g2
        cases hq : (mo q).op.actor with
        | false => rfl
        | true => exact absurd (hbefore q (by omega) (MOp.actor_heap hq)) (I.hi q (by omega) hq g1)
      obtain ⟨E, hE, hE2⟩ := r.span D (p := p) (k - p) (by omega) hno
      rw [show p + (k - p) = k by omega] at hE hE2
      -- the run's heap lies below
      have hVk : ∀ i, i < (hs k).length → V[i]? = (hs k)[i]? := by
        intro i hi
        rcases Nat.lt_or_ge i (hs p).length with h1 | h1
        · rw [I.vlow i h1, hE, List.getElem?_append_left h1]
        · rw [hE, List.length_append] at hi
          obtain ⟨j, q1, q2, q3, q4, q5⟩ := hE2 (i - (hs p).length) (by omega)
          have h6 := I.vpen j q3 (hbefore j q2 (MOp.alloc_heap q3.2.1)) q1
          rw [q5, q4, show (hs p).length + (i - (hs p).length) = i by omega] at h6
          rw [h6, hE, List.getElem?_append_right h1]
      have wfk : WFh (hs k) := by
        have hle := len hpk (by omega)
        refine ⟨fun i x hx hd => ?_, fun i x t hx ht => ?_⟩
        · have hx' : V[i]? = some x := by rw [hVk i (List.getElem?_eq_some_iff.1 hx).1]; exact hx
          rcases Nat.lt_or_ge i (hs p).length with h1 | h1
          · rw [I.vlow i h1] at hx'
            exact ACells.lt_mono hle ((I.wfs p (Nat.le_refl _)).1 i x hx' hd)
          · exact ACells.lt_mono (by have := (List.getElem?_eq_some_iff.1 hx).1; omega) (I.von i x hx' hd h1).2.2
        · have hx' : V[i]? = some x := by rw [hVk i (List.getElem?_eq_some_iff.1 hx).1]; exact hx
          rcases Nat.lt_or_ge i (hs p).length with h1 | h1
          · rw [I.vlow i h1] at hx'
            have := (I.wfs p (Nat.le_refl _)).2 i x t hx' ht
            omega
          · have := (I.von i x hx' (by rw [ht]; simp) h1).1
            rw [this] at ht; cases ht
      have gk : gl.length ≤ (hs k).length := by have := I.g0; have := len (Nat.zero_le k) (by omega); omega
      have stk := I.st.low hVk wfk gk
      refine oper_wp stk hG (har _ (Nat.le_refl _)) hcall hck (by rw [hcong]; exact e) (D.op k hk) fun x w' hpst => ?_
      obtain ⟨ρ₁, ag, hr', hl', hst', fr, hle⟩ := hpst
      have hle : (hs k).length ≤ (hs (k + 1)).length := hle
      have hle2 : (hs (k + 1)).length ≤ V.length := by rw [I.vlen]; exact len (by omega) (Nat.le_refl _)
      -- above: what is ready
      have habove : ∀ (i : Nat) (y : ABlk), (hs k).length ≤ i → V[i]? = some y → y.st ≠ .dead → (hs (k + 1)).length ≤ i := by
        intro i y h1 h2 h3
        obtain ⟨j, q1, q2, q3, q4⟩ := I.vdead i y h2 h3 (by have := len hpk (by omega); omega)
        have hjk : j ≠ k := fun e => hex (e ▸ q2)
        rcases Nat.lt_or_gt_of_ne hjk with h5 | h5
        · have := len (show j + 1 ≤ k by omega) (by omega); have := q1.2.2; omega
        · have := len (show k + 1 ≤ j by omega) (by have := q1.1; omega); omega
      obtain ⟨V', hV'⟩ : ∃ V' : AHeap, V' = hs (k + 1) ++ V.drop (hs (k + 1)).length := ⟨_, rfl⟩
      have v1 : ∀ i, i < (hs (k + 1)).length → V'[i]? = (hs (k + 1))[i]? := fun i hi => by rw [hV', List.getElem?_append_left hi]
      have v2 : ∀ i, (hs (k + 1)).length ≤ i → V'[i]? = V[i]? := fun i hi => by rw [hV', List.getElem?_append_right hi, List.getElem?_drop]; congr 1; omega
      have v3 : V'.length = V.length := by rw [hV', List.length_append, List.length_drop]; omega
      have hpk2 := len hpk (by omega)
      have madeK : ∀ i, Made hs p V i → i < (hs k).length ∨ (hs (k + 1)).length ≤ i := by
        rintro i (h | ⟨y, h1, h2⟩)
        · exact Or.inl (by omega)
        · rcases Nat.lt_or_ge i (hs k).length with h3 | h3
          · exact Or.inl h3
          · exact Or.inr (habove i y h3 h1 h2)
      obtain ⟨st2, fr2⟩ := I.st.join (S := Made hs p V) hVk gk ag hst' fr hle v1 v2 v3 hle2 (fun i y h1 h2 h3 => by
        obtain ⟨q1, q2, q3⟩ := I.von i y h2 h3 (by omega)
        exact ⟨q1, q2, ACells.lt_mono (by have := (List.getElem?_eq_some_iff.1 h2).1; omega) q3⟩) madeK
      have agS : AgreeOn (Made hs p V) ρ (ρ.cut ρ₁ (hs (k + 1)).length) := fun i hi => by
        rcases madeK i hi with h1 | h1
        · obtain ⟨a1, a2, a3⟩ := ag i h1
          obtain ⟨e1, e2, e3⟩ := Env.cut_lt (ρ := ρ) (ρ' := ρ₁) (show i < (hs (k + 1)).length by omega)
          exact ⟨e1.trans a1, e2.trans a2, e3.trans a3⟩
        · exact Env.cut_ge h1
      have hrk : R (ρ.cut ρ₁ (hs (k + 1)).length) (vs k) x := R_on (S := (· < (hs (k + 1)).length)) (fun i hi => Env.cut_lt hi) _ _ (AV.lt_on (fun _ h => h) _ hl') hr'
      obtain ⟨t1, t2, t3, t4⟩ := I.tmps D agS h0 (fun j hj he => (I.val j hj he).2) hk hex hrdy hrk
      have made' : ∀ i, Made hs p V i → Made hs (k + 1) V' i := by
        rintro i (h | ⟨y, h1, h2⟩)
        · exact Or.inl (by omega)
        · rcases Nat.lt_or_ge i (hs (k + 1)).length with h3 | h3
          · exact Or.inl h3
          · exact Or.inr ⟨y, by rw [v2 i h3]; exact h1, h2⟩
      refine hK _ w' (k + 1) V' (ρ.cut ρ₁ (hs (k + 1)).length) ⟨hclosed, fun j h1 h2 h3 => ?_, fun j h1 h2 h3 h4 => ?_, by omega, I.g0, v3.trans I.vlen, v1, fun j h1 h2 h3 => ?_, fun i y h1 h2 h3 => ?_, fun i y h1 h2 h3 => ?_, fun q hq => ?_, st2, fun i hi => ?_, fr2 I.fr, t1, t2, fun j hj he => ?_, t3, t4⟩
      · by_cases hjk : j = k
        · exact Or.inr hjk
        · exact Or.inl (hbefore j (by omega) h2)
      · rcases h4 with h4 | h4
        · exact I.hi j h1 h2 (by omega) h4
        · omega
      · rcases h2 with h2 | h2
        · rw [v2 _ (len (by omega) (by have := h1.1; omega))]
          exact I.vpen j h1 h2 (by omega)
        · omega
      · rw [v2 i h3] at h1
        obtain ⟨j, q1, q2, q3, q4⟩ := I.vdead i y h1 h2 (by omega)
        refine ⟨j, q1, Or.inl q2, ?_, q4⟩
        have hjk : j ≠ k := fun e => hex (e ▸ q2)
        rcases Nat.lt_or_gt_of_ne hjk with h5 | h5
        · have := len (show j + 1 ≤ k by omega) (by omega); have := q1.2.2; omega
        · omega
      · rw [v2 i h3] at h1
        obtain ⟨q1, q2, q3⟩ := I.von i y h1 h2 (by omega)
        exact ⟨q1, on_mono' made' q2, q3⟩
      · by_cases hq1 : q ≤ p
        · exact I.wfs q hq1
        · by_cases hq2 : q = k + 1
          · subst hq2; exact hst'.rep.wfh
          · -- between the front and the actor: a part of the run's heap
            have hqk : q ≤ k := by omega
            obtain ⟨F, hF, _⟩ := r.span D (p := q) (k - q) (by omega) (fun j g1 g2 => hno j (by omega) (by omega))
            rw [show q + (k - q) = k by omega] at hF
            obtain ⟨F', hF', hF2⟩ := r.span D (p := p) (q - p) (by omega) (fun j g1 g2 => hno j (by omega) (by omega))
            rw [show p + (q - p) = q by omega] at hF'
            have hpq := len (show p ≤ q by omega) (by omega)
            have upk : ∀ {i : Nat} {y : ABlk}, (hs q)[i]? = some y → (hs k)[i]? = some y := fun {i y} hi => by rw [hF, List.getElem?_append_left (List.getElem?_eq_some_iff.1 hi).1]; exact hi
            refine ⟨fun i y hy hd => ?_, fun i y t hy ht => ?_⟩
            · have hy2 := upk hy
              have hyV : V[i]? = some y := by rw [hVk i (List.getElem?_eq_some_iff.1 hy2).1]; exact hy2
              rcases Nat.lt_or_ge i (hs p).length with h1 | h1
              · rw [I.vlow i h1] at hyV
                exact ACells.lt_mono hpq ((I.wfs p (Nat.le_refl _)).1 i y hyV hd)
              · exact ACells.lt_mono (by have := (List.getElem?_eq_some_iff.1 hy).1; omega) (I.von i y hyV hd h1).2.2
            · have hy2 := upk hy
              have hyV : V[i]? = some y := by rw [hVk i (List.getElem?_eq_some_iff.1 hy2).1]; exact hy2
              rcases Nat.lt_or_ge i (hs p).length with h1 | h1
              · rw [I.vlow i h1] at hyV
                have := (I.wfs p (Nat.le_refl _)).2 i y t hyV ht
                omega
              · have := (I.von i y hyV (by rw [ht]; simp) h1).1
                rw [this] at ht; cases ht
      · obtain ⟨a1, a2, a3⟩ := I.ag i hi
        obtain ⟨b1, b2, b3⟩ := agS i (h0 i hi)
        exact ⟨b1.trans a1, b2.trans a2, b3.trans a3⟩
      · rcases he with he | he
        · obtain ⟨q1, q2⟩ := I.val j hj he
          exact ⟨q1, AV.on_mono made' _ q2⟩
        · subst he; exact ⟨hl', AV.lt_on (fun i hi => Or.inl hi) _ hl'⟩

theorem Inv.mono {ex ex' : Nat → Prop} {p : Nat} {V : AHeap} {ρ : Env} {A : Act} {w : World} (I : Inv X B ρg gl nt n mo bs as hs vs ρ₀ w₀ ex p V ρ A w) (hbs : ∀ k, k < n → ∀ j ∈ bs k, j < n) (h : ∀ k, k < n → (ex k ↔ ex' k)) : Inv X B ρg gl nt n mo bs as hs vs ρ₀ w₀ ex' p V ρ A w where
  closed k j hk he hj := (h j (hbs k hk j hj)).1 (I.closed k j hk ((h k hk).2 he) hj)
  lo k hk hh hp := (h k hk).1 (I.lo k hk hh hp)
  hi k hk hh hp he := I.hi k hk hh hp ((h k hk).2 he)
  pn := I.pn
  g0 := I.g0
  vlen := I.vlen
  vlow := I.vlow
  vpen k hf he hp := I.vpen k hf ((h k hf.1).2 he) hp
  vdead i x h1 h2 h3 := by
    obtain ⟨k, q1, q2, q3⟩ := I.vdead i x h1 h2 h3
    exact ⟨k, q1, (h k q1.1).1 q2, q3⟩
  von := I.von
  wfs := I.wfs
  st := I.st
  ag := I.ag
  fr := I.fr
  dfs := I.dfs
  size := I.size
  val k hk he := I.val k hk ((h k hk).2 he)
  new k t hk he hd hl := I.new k t hk ((h k hk).2 he) hd (fun k' g1 g2 g3 => hl k' g1 g2 ((h k' g2).1 g3))
  old t v hno hv := I.old t v (fun k hk he => hno k hk ((h k hk).1 he)) hv

/-- All have come up. -/
theorem Inv.done (r : RunD call n mo as hs vs wss un) (D : Drawn X nt ops n ix mo ob bs un) (hsc : SteadyCall call) {ex : Nat → Prop} {p : Nat} {V : AHeap} {ρ : Env} {A : Act} {w : World} (I : Inv X B ρg gl nt n mo bs as hs vs ρ₀ w₀ ex p V ρ A w) (hall : ∀ k, k < n → ex k) : Reach X B ρg gl nt ρ₀ (hs 0) w₀ (as n) (hs n) A w := by
  have hpn := I.pn
  have len : ∀ {i j}, i ≤ j → j ≤ n → (hs i).length ≤ (hs j).length := fun {i j} h1 h2 => by
    have := r.length hsc (j := i) (j - i) (by omega)
    rwa [show i + (j - i) = j by omega] at this
  obtain ⟨E, hE, hE2⟩ := r.span D (p := p) (n - p) (by omega) (fun q g1 g2 => by
    cases hq : (mo q).op.actor with
    | false => rfl
    | true => exact absurd (hall q (by omega)) (I.hi q (by omega) hq g1))
  rw [show p + (n - p) = n by omega] at hE hE2
  have hV : V = hs n := by
    refine List.ext_getElem? fun i => ?_
    rcases Nat.lt_or_ge i (hs p).length with h1 | h1
    · rw [I.vlow i h1, hE, List.getElem?_append_left h1]
    · rcases Nat.lt_or_ge i (hs n).length with h2 | h2
      · rw [hE, List.length_append] at h2
        obtain ⟨j, q1, q2, q3, q4, q5⟩ := hE2 (i - (hs p).length) (by omega)
        have h6 := I.vpen j q3 (hall j q2) q1
        rw [q5, q4, show (hs p).length + (i - (hs p).length) = i by omega] at h6
        rw [h6, hE, List.getElem?_append_right h1]
      · rw [List.getElem?_eq_none (by rw [I.vlen]; exact h2), List.getElem?_eq_none h2]
  have hst := I.st
  have hfr := I.fr
  rw [hV] at hst hfr
  refine ⟨ρ, I.ag, ⟨I.size, I.dfs, fun t v hv => ?_⟩, hst, hfr, len (Nat.zero_le _) (Nat.le_refl _)⟩
  rcases r.look t n (Nat.le_refl _) with ⟨j, h1, h2, h3, h4⟩ | ⟨h1, h2⟩
  · rw [h4] at hv; cases hv
    exact ⟨AV.lt_mono (len (by omega) (Nat.le_refl _)) _ (I.val j h1 (hall j h1)).1, I.new j t h1 (hall j h1) h2 (fun k' g1 g2 _ => h3 k' g1 g2)⟩
  · rw [h2] at hv
    obtain ⟨g1, g2⟩ := I.old t v (fun k hk _ => h1 k hk) hv
    exact ⟨AV.lt_mono (len (Nat.zero_le _) (Nat.le_refl _)) _ g1, g2⟩

def exOf (n : Nat) (ix : Nat → Nat) (listed : Array Bool) (k : Nat) : Prop := k < n ∧ listed.getD (ix k) false = true

theorem drawn_any (hG : gl.length = X.G) (hcall : CallOk X B ρg gl call) (hsc : SteadyCall call) (r : RunD call n mo as hs vs wss un) (D : Drawn X nt ops n ix mo ob bs un) (hbs : ∀ k, k < n → ∀ j ∈ bs k, j < n) {Q : Exit → Act → World → Prop}
    (hQ : ∀ A w, Reach X B ρg gl nt ρ₀ (hs 0) w₀ (as n) (hs n) A w → Q .normal A w) : ∀ (fuel : Nat) (listed : Array Bool) (p : Nat) (V : AHeap) (ρ : Env) (A : Act) (w : World), listed.size = ops.size → ((List.range n).filter fun k => !listed.getD (ix k) false).length ≤ fuel →
      Inv X B ρg gl nt n mo bs as hs vs ρ₀ w₀ (exOf n ix listed) p V ρ A w → wpAny X.P .any ops Q fuel listed A w := by
  have hixlt : ∀ k, k < n → ix k < ops.size := fun k hk => (Array.getElem?_eq_some_iff.1 (D.op k hk)).1
  -- none is ready: all have come up
  have hdone : ∀ (listed : Array Bool), listed.size = ops.size → Region.ready .any ops listed = [] → ∀ k, k < n → exOf n ix listed k := by
    intro listed hsz hrd k
    induction k using Nat.strongRecOn with
    | _ k ih =>
      intro hk
      refine ⟨hk, ?_⟩
      cases hl : listed.getD (ix k) false with
      | true => rfl
      | false =>
        exfalso
        have hmem : ix k ∈ Region.ready .any ops listed := by
          refine mem_ready.2 ⟨?_, ob k, D.op k hk, fun e he hb => ?_⟩
          · have := hixlt k hk
            simp only [Array.getD_eq_getD_getElem?] at hl ⊢
            rw [Array.getElem?_eq_getElem (by omega)] at hl ⊢
            simpa using hl
          · obtain ⟨j, h1, h2⟩ := D.aft k hk e he hb
            rw [← h2]
            exact (ih j h1 (by omega)).2
        rw [hrd] at hmem; cases hmem
  intro fuel
  induction fuel with
  | zero =>
    intro listed p V ρ A w hsz hcount I
    have hall : ∀ k, k < n → exOf n ix listed k := by
      intro k hk
      refine ⟨hk, ?_⟩
      have h0 : ((List.range n).filter fun k => !listed.getD (ix k) false) = [] := List.eq_nil_of_length_eq_zero (by omega)
      have := List.filter_eq_nil_iff.1 h0 k (List.mem_range.2 hk)
      simpa using this
    refine ⟨?_, hQ A w (I.done r D hsc hall)⟩
    cases hrd : Region.ready .any ops listed with
    | nil => rfl
    | cons i rs =>
      exfalso
      have hi : i ∈ Region.ready .any ops listed := by rw [hrd]; exact List.mem_cons_self
      obtain ⟨h1, o, h2, _⟩ := mem_ready.1 hi
      obtain ⟨k, hk, hik⟩ := D.sur i (Array.getElem?_eq_some_iff.1 h2).1
      have h3 := (hall k hk).2
      rw [hik] at h3
      have hlt : i < listed.size := by rw [hsz]; exact (Array.getElem?_eq_some_iff.1 h2).1
      simp only [Array.getD_eq_getD_getElem?] at h1 h3
      rw [Array.getElem?_eq_getElem hlt] at h1 h3
      simp only [Option.getD_some] at h1 h3
      rw [h1] at h3; cases h3
  | succ fuel ih =>
    intro listed p V ρ A w hsz hcount I
    refine ⟨fun hrd => hQ A w (I.done r D hsc (hdone listed hsz hrd)), fun i hi => ?_⟩
    obtain ⟨h1, o, h2, h3⟩ := mem_ready.1 hi
    have hilt : i < ops.size := (Array.getElem?_eq_some_iff.1 h2).1
    obtain ⟨k, hk, hik⟩ := D.sur i hilt
    subst hik
    have hob : o = ob k := by rw [D.op k hk] at h2; cases h2; rfl
    subst hob
    have hfalse : listed.getD (ix k) false = false := by
      simp only [Array.getD_eq_getD_getElem?] at h1 ⊢
      rw [Array.getElem?_eq_getElem (by omega)] at h1 ⊢
      simpa using h1
    have hex : ¬ exOf n ix listed k := fun h => by rw [h.2] at hfalse; cases hfalse
    have hrdy : ∀ j ∈ bs k, exOf n ix listed j := by
      intro j hj
      obtain ⟨e, he, hb, j', hj', hon, hor⟩ := D.just k hk j hj
      have hej' : exOf n ix listed j' := ⟨hj', by rw [hon]; exact h3 e he hb⟩
      rcases hor with rfl | hor
      · exact hej'
      · exact I.closed j' j hj' hej' hor
    refine I.step hG hcall hsc r D hk hex hrdy fun A' w' p' V' ρ' I' => ?_
    have hset : ∀ j, j < n → ((exOf n ix listed j ∨ j = k) ↔ exOf n ix (listed.setIfInBounds (ix k) true) j) := by
      intro j hj
      constructor
      · rintro (⟨_, h⟩ | rfl)
        · exact ⟨hj, getD_set_true h⟩
        · refine ⟨hj, ?_⟩
          have : ix j < listed.size := by omega
          simp [this]
      · rintro ⟨_, h⟩
        by_cases hjk : j = k
        · exact Or.inr hjk
        · refine Or.inl ⟨hj, ?_⟩
          rw [getD_set_ne false (fun e => hjk (D.inj j k hj hk e.symm))] at h
          exact h
    refine ih (listed.setIfInBounds (ix k) true) p' V' ρ' A' w' (by simpa using hsz) ?_ (I'.mono hbs hset)
    -- one less
    have hsub : ((List.range n).filter fun j => !(listed.setIfInBounds (ix k) true).getD (ix j) false).length < ((List.range n).filter fun j => !listed.getD (ix j) false).length := by
      have h4 : ((List.range n).filter fun j => !(listed.setIfInBounds (ix k) true).getD (ix j) false) = ((List.range n).filter fun j => !listed.getD (ix j) false).filter (fun j => decide (j ≠ k)) := by
        rw [List.filter_filter]
        refine List.filter_congr fun j hj => ?_
        have hj' := List.mem_range.1 hj
        by_cases hjk : j = k
        · subst hjk
          have := ((hset j hj').1 (Or.inr rfl)).2
          simp [this]
        · rw [getD_set_ne false (fun e => hjk (D.inj j k hj' hk e.symm))]
          simp [hjk]
      rw [h4]
      refine Nat.lt_of_le_of_ne (List.length_filter_le _ _) fun heq => ?_
      have := List.length_filter_eq_length_iff.1 heq k (List.mem_filter.2 ⟨List.mem_range.2 hk, by simp [hfalse]⟩)
      simp at this
    omega

end
end Go.Proofs.YtdpbbagllhfjbaaDoorW.AI

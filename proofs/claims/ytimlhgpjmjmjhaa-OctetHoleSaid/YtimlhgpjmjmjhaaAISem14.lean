import Derived.Test.YtimlhgpjmjmjhaaAISem13
import Derived.Orders
/-! A region that draws its order. -/
namespace Go.Proofs.YtimlhgpjmjmjhaaW.AI
open Go
set_option linter.unusedVariables false
set_option linter.unusedSimpArgs false

section
variable {X : Ctx} {B : Nat} {ρg : Env} {gl : AHeap} {nt : Nat} {call : CallT} {ops : Array Oper}

structure Drawn (X : Ctx) (nt : Nat) (ops : Array Oper) (n : Nat) (ix : Nat → Nat) (mo : Nat → MOper) (ob : Nat → Oper) (bs : Nat → List Nat) (un : Nat → Nat → Prop) : Prop where
  op : ∀ k, k < n → ops[ix k]? = some (ob k)
  inj : ∀ j k, j < n → k < n → ix j = ix k → j = k
  sur : ∀ i, i < ops.size → ∃ k, k < n ∧ ix k = i
  chk : ∀ k, k < n → chkOper X nt ops (ob k) (mo k) = true
  rds : ∀ k, k < n → ∀ t ∈ (mo k).rds, t ∈ (ob k).looksAt ops
  just : ∀ k, k < n → ∀ j ∈ bs k, ∃ e ∈ (ob k).after, Region.binds .any e = true ∧ ∃ j', j' < n ∧ ix j' = e.on ∧ (j' = j ∨ j ∈ bs j')
  aft : ∀ k, k < n → ∀ e ∈ (ob k).after, Region.binds .any e = true → ∃ j, j < k ∧ ix j = e.on
  pair : ∀ j k, j < k → k < n → j ∈ bs k ∨ ((ob j).apart ops (ob k) = true ∧ ¬ ((mo j).op.heap = true ∧ (mo k).op.heap = true) ∧
    ((mo j).op.reads = true → (mo k).op.heap = true → un j k) ∧ ((mo j).op.heap = true → (mo k).op.reads = true → un k j))

structure RunD (call : CallT) (n : Nat) (mo : Nat → MOper) (as : Nat → Acts) (hs : Nat → AHeap) (vs : Nat → AV) (wss : Nat → List Nat) (un : Nat → Nat → Prop) : Prop where
  step : ∀ k, k < n → aoper call (mo k) (as k) (hs k) = some (vs k, hs (k + 1), wss k) ∧ as (k + 1) = putA (as k) (mo k).dst (vs k)
  un : ∀ j q, un j q → j < n → q < n → ∀ b, (recOf (mo j) (as j) (hs j) (wss j) (hs (j + 1)).length).rb = some b → faceOk (hs j) b = true ∧ b ∉ wss q ∧ ¬ ((hs q).length ≤ b ∧ b < (hs (q + 1)).length)

structure Inv (X : Ctx) (B : Nat) (ρg : Env) (gl : AHeap) (nt n : Nat) (mo : Nat → MOper) (bs : Nat → List Nat) (as : Nat → Acts) (hs : Nat → AHeap) (vs : Nat → AV) (ρ₀ : Env) (w₀ : World) (ex : Nat → Prop) (p : Nat) (ρ : Env) (A : Act) (w : World) : Prop where
  closed : ∀ k j, k < n → ex k → j ∈ bs k → ex j
  lo : ∀ k, k < n → (mo k).op.heap = true → k < p → ex k
  hi : ∀ k, k < n → (mo k).op.heap = true → p ≤ k → ¬ ex k
  pn : p ≤ n
  st : St B ρg gl X.gid ρ (hs p) w
  ag : Agree (hs 0).length ρ₀ ρ
  fr : Fr ρ₀ (hs 0) w₀ ρ (hs p) w
  le : (hs 0).length ≤ (hs p).length
  dfs : A.defers = []
  size : nt ≤ A.tmps.size
  new : ∀ k t, k < n → ex k → (mo k).dst = some t → (∀ k', k < k' → k' < n → ex k' → (mo k').dst ≠ some t) → (vs k).lt (hs p).length = true ∧ R ρ (vs k) (A.tmps.getD t undef)
  old : ∀ t v, (∀ k, k < n → ex k → (mo k).dst ≠ some t) → look (as 0) t = some v → v.lt (hs p).length = true ∧ R ρ v (A.tmps.getD t undef)

variable {n : Nat} {ix : Nat → Nat} {mo : Nat → MOper} {ob : Nat → Oper} {bs : Nat → List Nat} {un : Nat → Nat → Prop} {as : Nat → Acts} {hs : Nat → AHeap} {vs : Nat → AV} {wss : Nat → List Nat} {ρ₀ : Env} {w₀ : World}

/-- Where a slot's value comes from. -/
theorem RunD.look (r : RunD call n mo as hs vs wss un) (t : Nat) : ∀ k, k ≤ n → (∃ j, j < k ∧ (mo j).dst = some t ∧ (∀ j', j < j' → j' < k → (mo j').dst ≠ some t) ∧ look (as k) t = some (vs j)) ∨ ((∀ j, j < k → (mo j).dst ≠ some t) ∧ look (as k) t = look (as 0) t)
  | 0, _ => Or.inr ⟨fun j hj => by omega, rfl⟩
  | k + 1, hk => by
    obtain ⟨_, e⟩ := r.step k (by omega)
    rw [e]
    by_cases hd : (mo k).dst = some t
    · refine Or.inl ⟨k, by omega, hd, fun j' h1 h2 => by omega, ?_⟩
      rw [hd]; simp [putA, AI.look]
    · have hl : AI.look (putA (as k) (mo k).dst (vs k)) t = AI.look (as k) t := by
        cases hdd : (mo k).dst with
        | none => rfl
        | some d => simp only [putA, AI.look]; rw [if_neg (fun e => hd (by rw [hdd, e]))]
      rw [hl]
      rcases r.look t k (by omega) with ⟨j, h1, h2, h3, h4⟩ | ⟨h1, h2⟩
      · refine Or.inl ⟨j, by omega, h2, fun j' g1 g2 => ?_, h4⟩
        by_cases hj : j' = k
        · subst hj; exact hd
        · exact h3 j' g1 (by omega)
      · refine Or.inr ⟨fun j hj => ?_, h2⟩
        by_cases hjk : j = k
        · subst hjk; exact hd
        · exact h1 j (by omega)

theorem RunD.steady (r : RunD call n mo as hs vs wss un) (hcall : SteadyCall call) {b j : Nat} {x : ABlk} (hx : (hs j)[b]? = some x) : ∀ d, j + d ≤ n → (∀ q, j ≤ q → q < j + d → (mo q).op.heap = true → b ∉ wss q) →
    ∃ x' : ABlk, (hs (j + d))[b]? = some x' ∧ x'.c = x.c ∧ (x'.st = x.st ∨ ∃ t, x.st = .old t)
  | 0, _, _ => ⟨x, hx, rfl, Or.inl rfl⟩
  | d + 1, hd, hw => by
    obtain ⟨x', h1, h2, h3⟩ := r.steady hcall hx d (by omega) (fun q g1 g2 => hw q g1 (by omega))
    obtain ⟨e, _⟩ := r.step (j + d) (by omega)
    by_cases hh : (mo (j + d)).op.heap = true
    · obtain ⟨x'', k1, k2, k3⟩ := (aoper_steady hcall e).2 b x' h1 (hw _ (by omega) (by omega) hh)
      refine ⟨x'', k1, k2.trans h2, ?_⟩
      rcases h3 with h3 | h3
      · rcases k3 with k3 | ⟨t, k3⟩
        · exact Or.inl (k3.trans h3)
        · exact Or.inr ⟨t, h3 ▸ k3⟩
      · exact Or.inr h3
    · have := (aoper_pure (hi := 0) (by simpa using hh) e).1
      refine ⟨x', ?_, h2, h3⟩
      show (hs (j + d + 1))[b]? = _
      rw [this]; exact h1

theorem RunD.length (r : RunD call n mo as hs vs wss un) (hcall : SteadyCall call) {j : Nat} : ∀ d, j + d ≤ n → (hs j).length ≤ (hs (j + d)).length
  | 0, _ => Nat.le_refl _
  | d + 1, hd => Nat.le_trans (r.length hcall d (by omega)) (aoper_steady hcall (r.step (j + d) (by omega)).1).1

/-- No heap operation between: the same heap. -/
theorem RunD.same (r : RunD call n mo as hs vs wss un) {j : Nat} : ∀ d, j + d ≤ n → (∀ q, j ≤ q → q < j + d → (mo q).op.heap = false) → hs (j + d) = hs j
  | 0, _, _ => rfl
  | d + 1, hd, hq => by
    have := (aoper_pure (hi := 0) (hq (j + d) (by omega) (by omega)) (r.step (j + d) (by omega)).1).1
    show hs (j + d + 1) = _
    rw [this, r.same d (by omega) (fun q g1 g2 => hq q g1 (by omega))]

theorem faceOk_elim {h : AHeap} {b : Nat} (hf : faceOk h b = true) : ∃ x : ABlk, h[b]? = some x ∧ (x.st = .ext ∨ ∃ o, x.st = .tip o) := by
  unfold faceOk at hf
  split at hf
  · exact ⟨_, by assumption, Or.inl rfl⟩
  · exact ⟨_, by assumption, Or.inr ⟨_, rfl⟩⟩
  · cases hf

theorem cellsAt_of {h : AHeap} {b : Nat} {x : ABlk} (hx : h[b]? = some x) (hd : x.st ≠ .dead) : cellsAt h b = some x.c := by
  obtain ⟨st, c⟩ := x
  unfold cellsAt
  rw [hx]
  split
  · rename_i he; cases he; exact absurd rfl hd
  · rename_i he; cases he; rfl
  · rename_i he; cases he

/-- What a load reads where it comes up reads as it does in the run. -/
theorem RunD.cells (r : RunD call n mo as hs vs wss un) (D : Drawn X nt ops n ix mo ob bs un) (hcall : SteadyCall call) {ex : Nat → Prop} {p : Nat} (lo : ∀ k, k < n → (mo k).op.heap = true → k < p → ex k) (hi : ∀ k, k < n → (mo k).op.heap = true → p ≤ k → ¬ ex k)
    (closed : ∀ k j, k < n → ex k → j ∈ bs k → ex j) (hp : p ≤ n) {k : Nat} (hk : k < n) (hex : ¬ ex k) (hrdy : ∀ j ∈ bs k, ex j) (hread : (mo k).op.reads = true) {b : Nat} (hb : (recOf (mo k) (as k) (hs k) (wss k) (hs (k + 1)).length).rb = some b)
    (hc : ∃ c, cellsAt (hs k) b = some c) : cellsAt (hs p) b = cellsAt (hs k) b := by
  obtain ⟨c, hc⟩ := hc
  obtain ⟨x, hx, hd, rfl⟩ := cellsAt_some hc
  rw [hc]
  by_cases hkp : p ≤ k
  · -- the heap of the run has gone further
    have hu : ∀ q, p ≤ q → q < k → (mo q).op.heap = true → b ∉ wss q ∧ ¬ ((hs q).length ≤ b ∧ b < (hs (q + 1)).length) := by
      intro q g1 g2 g3
      have hnq := hi q (by omega) g3 g1
      rcases D.pair q k g2 hk with h1 | ⟨_, _, _, h1⟩
      · exact absurd (hrdy q h1) hnq
      · exact (r.un k q (h1 g3 hread) hk (by omega) b hb).2
    -- b is elder than the front
    have hbp : ∀ d, p + d ≤ k → b < (hs (p + d)).length → b < (hs p).length := by
      intro d
      induction d with
      | zero => exact fun _ h => h
      | succ d ih =>
        intro hd1 hlt
        refine ih (by omega) ?_
        by_cases hh : (mo (p + d)).op.heap = true
        · have := (hu (p + d) (by omega) (by omega) hh).2
          have e : p + d + 1 = p + (d + 1) := by omega
          rw [e] at this
          omega
        · have := (aoper_pure (hi := 0) (by simpa using hh) (r.step (p + d) (by omega)).1).1
          have e : p + d + 1 = p + (d + 1) := by omega
          rw [e] at this
          rw [this] at hlt; exact hlt
    have hlt : b < (hs p).length := hbp (k - p) (by omega) (by rw [show p + (k - p) = k by omega]; exact (List.getElem?_eq_some_iff.1 hx).1)
    obtain ⟨y, hy⟩ : ∃ y, (hs p)[b]? = some y := ⟨_, List.getElem?_eq_getElem hlt⟩
    obtain ⟨x', k1, k2, k3⟩ := r.steady hcall hy (k - p) (by omega) (fun q g1 g2 g3 => (hu q g1 (by omega) g3).1)
    rw [show p + (k - p) = k by omega, hx] at k1
    cases k1
    rw [cellsAt_of hy ?_, k2]
    intro hyd
    rcases k3 with k3 | ⟨t, k3⟩
    · exact hd (k3.trans hyd)
    · rw [hyd] at k3; cases k3
  · -- the world has gone further
    have hu : ∀ q, k < q → q < p → (mo q).op.heap = true → faceOk (hs k) b = true ∧ b ∉ wss q := by
      intro q g1 g2 g3
      have hq := lo q (by omega) g3 g2
      rcases D.pair k q g1 (by omega) with h1 | ⟨_, _, h1, _⟩
      · exact absurd (closed q k (by omega) hq h1) hex
      · have := r.un k q (h1 hread g3) hk (by omega) b hb
        exact ⟨this.1, this.2.1⟩
    have hkh : (mo k).op.heap = false := by
      generalize (mo k).op = m at hread
      cases m <;> simp [MOp.reads] at hread <;> rfl
    by_cases hany : ∃ q, k < q ∧ q < p ∧ (mo q).op.heap = true
    · obtain ⟨q, g1, g2, g3⟩ := hany
      obtain ⟨x₁, hx₁, hst⟩ := faceOk_elim (hu q g1 g2 g3).1
      rw [hx] at hx₁; cases hx₁
      obtain ⟨x', k1, k2, k3⟩ := r.steady hcall hx (p - k) (by omega) (fun q' g1' g2' g3' => by
        by_cases hqk : q' = k
        · subst hqk; rw [hkh] at g3'; cases g3'
        · exact (hu q' (by omega) (by omega) g3').2)
      rw [show k + (p - k) = p by omega] at k1
      rw [cellsAt_of k1 ?_, k2]
      rcases k3 with k3 | ⟨t, k3⟩
      · rw [k3]; exact hd
      · rcases hst with hst | ⟨o, hst⟩ <;> rw [hst] at k3 <;> cases k3
    · have := r.same (j := k) (p - k) (by omega) (fun q g1 g2 => by
        by_cases hqk : q = k
        · subst hqk; exact hkh
        · have : ¬ ((mo q).op.heap = true) := fun hh => hany ⟨q, by omega, by omega, hh⟩
          simpa using this)
      rw [show k + (p - k) = p by omega] at this
      rw [this, hc]

theorem recOf_reads {o : MOper} {a : Acts} {h : AHeap} {ws : List Nat} {hi b : Nat} (hb : (recOf o a h ws hi).rb = some b) : o.op.reads = true := by
  unfold recOf at hb
  split at hb
  · split at hb
    · rename_i b' hrb
      unfold readB at hrb
      split at hrb <;> first | (cases hrb; done) | skip
      all_goals (rename_i he; rw [he]; rfl)
    · cases hb
  · cases hb

theorem recOf_cells {o : MOper} {a : Acts} {h : AHeap} {ws : List Nat} {hi b : Nat} (hb : (recOf o a h ws hi).rb = some b) {v : AV} {h' : AHeap} (hr : aoper call o a h = some (v, h', ws)) : ∃ c, cellsAt h b = some c := by
  unfold recOf at hb
  split at hb
  case isFalse => cases hb
  rename_i hg
  simp only [aoper, hg, Option.bind_some] at hr
  split at hb
  case h_2 => cases hb
  rename_i b' hrb
  cases hb
  unfold readB at hrb
  split at hrb <;> first | (cases hrb; done) | skip
  · rename_i he
    rw [he] at hr
    simp only [aop] at hr
    split at hrb
    · rename_i hx
      cases hrb
      rw [hx] at hr
      simp only [Option.bind_some, Option.bind_eq_some_iff] at hr
      obtain ⟨c, hc, _⟩ := hr
      exact ⟨c, hc⟩
    · cases hrb
  · rename_i he
    rw [he] at hr
    simp only [aop] at hr
    split at hrb
    · rename_i hx
      cases hrb
      rw [hx] at hr
      simp only [Option.bind_some, Option.bind_eq_some_iff, sliceCells] at hr
      obtain ⟨c, ⟨c', hc, _⟩, _⟩ := hr
      exact ⟨c', hc⟩
    · rename_i hx
      cases hrb
      rw [hx] at hr
      simp only [Option.bind_some, Option.bind_eq_some_iff, sliceCells] at hr
      obtain ⟨c, hc, _⟩ := hr
      split at hc
      · simp only [Option.bind_eq_some_iff] at hc
        obtain ⟨c', hc, _⟩ := hc
        exact ⟨c', hc⟩
      · cases hc
    · cases hrb

/-- One operation that comes up. -/
theorem Inv.step (hG : gl.length = X.G) (hcall : CallOk X B ρg gl call) (hsc : SteadyCall call) (r : RunD call n mo as hs vs wss un) (D : Drawn X nt ops n ix mo ob bs un) {ex : Nat → Prop} {p : Nat} {ρ : Env} {A : Act} {w : World} (I : Inv X B ρg gl nt n mo bs as hs vs ρ₀ w₀ ex p ρ A w)
    {k : Nat} (hk : k < n) (hex : ¬ ex k) (hrdy : ∀ j ∈ bs k, ex j) {K : Act → World → Prop} {Q : Exit → Act → World → Prop}
    (hK : ∀ A' w' p' ρ', Inv X B ρg gl nt n mo bs as hs vs ρ₀ w₀ (fun j => ex j ∨ j = k) p' ρ' A' w' → K A' w') : wpOp X.P ops Q (ix k) K A w := by
  obtain ⟨e, eput⟩ := r.step k hk
  have hck := D.chk k hk
  obtain ⟨d1, d2⟩ := chkOper_dst hck
  -- what it looks at is there
  have conf : ∀ t ∈ (mo k).rds, ∀ j, j < n → (mo j).dst = some t → (j < k → ex j) ∧ (k < j → ¬ ex j) := by
    intro t ht j hj hdj
    have hlk := D.rds k hk t ht
    have hdo : (ob j).dst = some t := by rw [(chkOper_dst (D.chk j hj)).1]; exact hdj
    constructor
    · intro hjk
      rcases D.pair j k hjk hk with h1 | ⟨h1, _⟩
      · exact hrdy j h1
      · exact absurd hlk ((Oper.apart_spec h1).1 t hdo)
    · intro hkj hej
      rcases D.pair k j hkj hj with h1 | ⟨h1, _⟩
      · exact hex (I.closed j k hj hej h1)
      · exact (Oper.apart_spec h1).2.2 t hdo hlk
  have har : AR ρ (hs p).length nt (keepA (mo k).rds (as k)) A := by
    refine ⟨I.size, I.dfs, fun t v hv => ?_⟩
    rw [look_keepA] at hv
    split at hv
    case isFalse => cases hv
    rename_i ht
    rcases r.look t k (by omega) with ⟨j, h1, h2, h3, h4⟩ | ⟨h1, h2⟩
    · rw [h4] at hv; cases hv
      refine I.new j t (by omega) ((conf t ht j (by omega) h2).1 h1) h2 (fun k' g1 g2 g3 g4 => ?_)
      by_cases hk' : k' < k
      · exact h3 k' g1 hk' g4
      · by_cases hkk : k' = k
        · subst hkk; exact hex g3
        · exact (conf t ht k' g2 g4).2 (by omega) g3
    · rw [h2] at hv
      refine I.old t v (fun j hj hej hdj => ?_) hv
      by_cases hjk : j < k
      · exact h1 j hjk hdj
      · by_cases hkk : j = k
        · subst hkk; exact hex hej
        · exact (conf t ht j hj hdj).2 (by omega) hej
  have hcong : ∀ h', aoper call (mo k) (keepA (mo k).rds (as k)) h' = aoper call (mo k) (as k) h' := fun h' => aoper_congr h' fun t ht => by rw [look_keepA, if_pos ht]
  -- where the front moves to
  obtain ⟨p', hrun, hp'n, hlo, hhi⟩ : ∃ p', aoper call (mo k) (keepA (mo k).rds (as k)) (hs p) = some (vs k, hs p', if (mo k).op.heap = true then wss k else []) ∧ p' ≤ n ∧
      (∀ q, q < n → (mo q).op.heap = true → q < p' → ex q ∨ q = k) ∧ (∀ q, q < n → (mo q).op.heap = true → p' ≤ q → ¬ (ex q ∨ q = k)) := by
    by_cases hh : (mo k).op.heap = true
    · have hpk : p ≤ k := by
        rcases Nat.lt_or_ge k p with h1 | h1
        · exact absurd (I.lo k hk hh h1) hex
        · exact h1
      have hno : ∀ q, p ≤ q → q < k → (mo q).op.heap = false := by
        intro q g1 g2
        cases hq : (mo q).op.heap with
        | false => rfl
        | true =>
          rcases D.pair q k g2 hk with h1 | ⟨_, h1, _⟩
          · exact absurd (hrdy q h1) (I.hi q (by omega) hq g1)
          · exact absurd ⟨hq, hh⟩ h1
      have hs1 := r.same (j := p) (k - p) (by omega) (fun q g1 g2 => hno q g1 (by omega))
      rw [show p + (k - p) = k by omega] at hs1
      refine ⟨k + 1, by rw [hcong, ← hs1, e, if_pos hh], by omega, fun q g1 g2 g3 => ?_, fun q g1 g2 g3 => ?_⟩
      · by_cases hqk : q = k
        · exact Or.inr hqk
        · by_cases hqp : q < p
          · exact Or.inl (I.lo q g1 g2 hqp)
          · rw [hno q (by omega) (by omega)] at g2; cases g2
      · rintro (h1 | h1)
        · exact I.hi q g1 g2 (by omega) h1
        · omega
    · have hh' : (mo k).op.heap = false := by simpa using hh
      obtain ⟨q1, q2⟩ := aoper_pure (hi := (hs (k + 1)).length) hh' e
      refine ⟨p, ?_, I.pn, fun q g1 g2 g3 => Or.inl (I.lo q g1 g2 g3), fun q g1 g2 g3 => ?_⟩
      · rw [hcong, if_neg hh]
        exact q2 (hs p) fun b hb => r.cells D hsc I.lo I.hi I.closed I.pn hk hex hrdy (recOf_reads hb) hb (recOf_cells hb e)
      · rintro (h1 | h1)
        · exact I.hi q g1 g2 g3 h1
        · subst h1; exact hh g2
  refine oper_wp I.st hG har hcall hck hrun (D.op k hk) fun x w' hpst => ?_
  obtain ⟨ρ', ag, hr', hl', hst', fr, hle⟩ := hpst
  refine hK _ w' p' ρ' ⟨fun j i hj hej hi => ?_, hlo, hhi, hp'n, hst', I.ag.trans ag I.le, I.fr.trans fr, Nat.le_trans I.le hle, ?_, ?_, ?_, ?_⟩
  · rcases hej with h1 | h1
    · exact Or.inl (I.closed j i hj h1 hi)
    · subst h1; exact Or.inl (hrdy i hi)
  · have := I.dfs
    unfold Act.put
    split <;> exact this
  · have := I.size
    unfold Act.put
    split <;> simpa using this
  · intro j t hj hej hdj hlast
    by_cases hjk : j = k
    · subst hjk
      refine ⟨hl', ?_⟩
      have hlt : t < A.tmps.size := Nat.lt_of_lt_of_le (d2 t hdj) I.size
      have : (A.put (ob j).dst x).tmps.getD t undef = x := by
        rw [d1, hdj]; simp [Act.put, hlt]
      rw [this]; exact hr'
    · have hej' : ex j := hej.resolve_right hjk
      have hne : (mo k).dst ≠ some t := by
        intro hdk
        by_cases hlt : j < k
        · exact hlast k hlt hk (Or.inr rfl) hdk
        · rcases D.pair k j (by omega) hj with h1 | ⟨h1, _⟩
          · exact hex (I.closed j k hj hej' h1)
          · refine (Oper.apart_spec h1).2.1 t ?_ ?_
            · rw [d1]; exact hdk
            · rw [(chkOper_dst (D.chk j hj)).1]; exact hdj
      obtain ⟨g1, g2⟩ := I.new j t hj hej' hdj (fun k' q1 q2 q3 => hlast k' q1 q2 (Or.inl q3))
      refine ⟨AV.lt_mono hle _ g1, ?_⟩
      have : (A.put (ob k).dst x).tmps.getD t undef = A.tmps.getD t undef := by
        rw [d1]
        cases hdd : (mo k).dst with
        | none => rfl
        | some d =>
          have : d ≠ t := fun e => hne (by rw [hdd, e])
          simp [Act.put, Array.getElem?_setIfInBounds_ne this]
      rw [this]; exact R_agree ag _ _ g1 g2
  · intro t v hno hv
    have hne : (mo k).dst ≠ some t := hno k hk (Or.inr rfl)
    obtain ⟨g1, g2⟩ := I.old t v (fun j hj hej => hno j hj (Or.inl hej)) hv
    refine ⟨AV.lt_mono hle _ g1, ?_⟩
    have : (A.put (ob k).dst x).tmps.getD t undef = A.tmps.getD t undef := by
      rw [d1]
      cases hdd : (mo k).dst with
      | none => rfl
      | some d =>
        have : d ≠ t := fun e => hne (by rw [hdd, e])
        simp [Act.put, Array.getElem?_setIfInBounds_ne this]
    rw [this]; exact R_agree ag _ _ g1 g2

theorem Inv.mono {ex ex' : Nat → Prop} {p : Nat} {ρ : Env} {A : Act} {w : World} (I : Inv X B ρg gl nt n mo bs as hs vs ρ₀ w₀ ex p ρ A w) (hbs : ∀ k, k < n → ∀ j ∈ bs k, j < n) (h : ∀ k, k < n → (ex k ↔ ex' k)) : Inv X B ρg gl nt n mo bs as hs vs ρ₀ w₀ ex' p ρ A w where
  closed k j hk he hj := (h j (hbs k hk j hj)).1 (I.closed k j hk ((h k hk).2 he) hj)
  lo k hk hh hp := (h k hk).1 (I.lo k hk hh hp)
  hi k hk hh hp he := I.hi k hk hh hp ((h k hk).2 he)
  pn := I.pn
  st := I.st
  ag := I.ag
  fr := I.fr
  le := I.le
  dfs := I.dfs
  size := I.size
  new k t hk he hd hl := I.new k t hk ((h k hk).2 he) hd (fun k' g1 g2 g3 => hl k' g1 g2 ((h k' g2).1 g3))
  old t v hno hv := I.old t v (fun k hk he => hno k hk ((h k hk).1 he)) hv

/-- All have come up. -/
theorem Inv.done (r : RunD call n mo as hs vs wss un) {ex : Nat → Prop} {p : Nat} {ρ : Env} {A : Act} {w : World} (I : Inv X B ρg gl nt n mo bs as hs vs ρ₀ w₀ ex p ρ A w) (hall : ∀ k, k < n → ex k) : Reach X B ρg gl nt ρ₀ (hs 0) w₀ (as n) (hs n) A w := by
  have hsame : hs n = hs p := by
    have := r.same (j := p) (n - p) (by have := I.pn; omega) (fun q g1 g2 => by
      cases hq : (mo q).op.heap with
      | false => rfl
      | true => exact absurd (hall q (by have := I.pn; omega)) (I.hi q (by have := I.pn; omega) hq g1))
    rw [show p + (n - p) = n by have := I.pn; omega] at this
    exact this
  rw [hsame]
  refine ⟨ρ, I.ag, ⟨I.size, I.dfs, fun t v hv => ?_⟩, I.st, I.fr, I.le⟩
  rcases r.look t n (Nat.le_refl _) with ⟨j, h1, h2, h3, h4⟩ | ⟨h1, h2⟩
  · rw [h4] at hv; cases hv
    exact I.new j t h1 (hall j h1) h2 (fun k' g1 g2 _ => h3 k' g1 g2)
  · rw [h2] at hv
    exact I.old t v (fun k hk _ => h1 k hk) hv

def exOf (n : Nat) (ix : Nat → Nat) (listed : Array Bool) (k : Nat) : Prop := k < n ∧ listed.getD (ix k) false = true

theorem drawn_any (hG : gl.length = X.G) (hcall : CallOk X B ρg gl call) (hsc : SteadyCall call) (r : RunD call n mo as hs vs wss un) (D : Drawn X nt ops n ix mo ob bs un) (hbs : ∀ k, k < n → ∀ j ∈ bs k, j < n) {Q : Exit → Act → World → Prop}
    (hQ : ∀ A w, Reach X B ρg gl nt ρ₀ (hs 0) w₀ (as n) (hs n) A w → Q .normal A w) : ∀ (fuel : Nat) (listed : Array Bool) (p : Nat) (ρ : Env) (A : Act) (w : World), listed.size = ops.size → ((List.range n).filter fun k => !listed.getD (ix k) false).length ≤ fuel →
      Inv X B ρg gl nt n mo bs as hs vs ρ₀ w₀ (exOf n ix listed) p ρ A w → wpAny X.P .any ops Q fuel listed A w := by
  have hixlt : ∀ k, k < n → ix k < ops.size := fun k hk => (Array.getElem?_eq_some_iff.1 (D.op k hk)).1
  -- none is ready: all have come up
  have hdone : ∀ (listed : Array Bool), listed.size = ops.size → Region.ready .any ops listed = [] → ∀ k, k < n → exOf n ix listed k := by
    intro listed hsz hrd k
    induction k using Nat.strongRecOn with
    | _ k ih =>
      intro hk
      refine ⟨hk, ?_⟩
      cases hl : listed.getD (ix k) false with
      | true => rfl
      | false =>
        exfalso
        have hmem : ix k ∈ Region.ready .any ops listed := by
          refine mem_ready.2 ⟨?_, ob k, D.op k hk, fun e he hb => ?_⟩
          · have := hixlt k hk
            simp only [Array.getD_eq_getD_getElem?] at hl ⊢
            rw [Array.getElem?_eq_getElem (by omega)] at hl ⊢
            simpa using hl
          · obtain ⟨j, h1, h2⟩ := D.aft k hk e he hb
            rw [← h2]
            exact (ih j h1 (by omega)).2
        rw [hrd] at hmem; cases hmem
  intro fuel
  induction fuel with
  | zero =>
    intro listed p ρ A w hsz hcount I
    have hall : ∀ k, k < n → exOf n ix listed k := by
      intro k hk
      refine ⟨hk, ?_⟩
      have h0 : ((List.range n).filter fun k => !listed.getD (ix k) false) = [] := List.eq_nil_of_length_eq_zero (by omega)
      have := List.filter_eq_nil_iff.1 h0 k (List.mem_range.2 hk)
      simpa using this
    refine ⟨?_, hQ A w (I.done r hall)⟩
    cases hrd : Region.ready .any ops listed with
    | nil => rfl
    | cons i rs =>
      exfalso
      have hi : i ∈ Region.ready .any ops listed := by rw [hrd]; exact List.mem_cons_self
      obtain ⟨h1, o, h2, _⟩ := mem_ready.1 hi
      obtain ⟨k, hk, hik⟩ := D.sur i (Array.getElem?_eq_some_iff.1 h2).1
      have h3 := (hall k hk).2
      rw [hik] at h3
      have hlt : i < listed.size := by rw [hsz]; exact (Array.getElem?_eq_some_iff.1 h2).1
      simp only [Array.getD_eq_getD_getElem?] at h1 h3
      rw [Array.getElem?_eq_getElem hlt] at h1 h3
      simp only [Option.getD_some] at h1 h3
      rw [h1] at h3; cases h3
  | succ fuel ih =>
    intro listed p ρ A w hsz hcount I
    refine ⟨fun hrd => hQ A w (I.done r (hdone listed hsz hrd)), fun i hi => ?_⟩
    obtain ⟨h1, o, h2, h3⟩ := mem_ready.1 hi
    have hilt : i < ops.size := (Array.getElem?_eq_some_iff.1 h2).1
    obtain ⟨k, hk, hik⟩ := D.sur i hilt
    subst hik
    have hob : o = ob k := by rw [D.op k hk] at h2; cases h2; rfl
    subst hob
    have hfalse : listed.getD (ix k) false = false := by
      simp only [Array.getD_eq_getD_getElem?] at h1 ⊢
      rw [Array.getElem?_eq_getElem (by omega)] at h1 ⊢
      simpa using h1
    have hex : ¬ exOf n ix listed k := fun h => by rw [h.2] at hfalse; cases hfalse
    have hrdy : ∀ j ∈ bs k, exOf n ix listed j := by
      intro j hj
      obtain ⟨e, he, hb, j', hj', hon, hor⟩ := D.just k hk j hj
      have hej' : exOf n ix listed j' := ⟨hj', by rw [hon]; exact h3 e he hb⟩
      rcases hor with rfl | hor
      · exact hej'
      · exact I.closed j' j hj' hej' hor
    refine I.step hG hcall hsc r D hk hex hrdy fun A' w' p' ρ' I' => ?_
    have hset : ∀ j, j < n → ((exOf n ix listed j ∨ j = k) ↔ exOf n ix (listed.setIfInBounds (ix k) true) j) := by
      intro j hj
      constructor
      · rintro (⟨_, h⟩ | rfl)
        · exact ⟨hj, getD_set_true h⟩
        · refine ⟨hj, ?_⟩
          have : ix j < listed.size := by omega
          simp [this]
      · rintro ⟨_, h⟩
        by_cases hjk : j = k
        · exact Or.inr hjk
        · refine Or.inl ⟨hj, ?_⟩
          rw [getD_set_ne false (fun e => hjk (D.inj j k hj hk e.symm))] at h
          exact h
    refine ih (listed.setIfInBounds (ix k) true) p' ρ' A' w' (by simpa using hsz) ?_ (I'.mono hbs hset)
    -- one less
    have hsub : ((List.range n).filter fun j => !(listed.setIfInBounds (ix k) true).getD (ix j) false).length < ((List.range n).filter fun j => !listed.getD (ix j) false).length := by
      have h4 : ((List.range n).filter fun j => !(listed.setIfInBounds (ix k) true).getD (ix j) false) = ((List.range n).filter fun j => !listed.getD (ix j) false).filter (fun j => decide (j ≠ k)) := by
        rw [List.filter_filter]
        refine List.filter_congr fun j hj => ?_
        have hj' := List.mem_range.1 hj
        by_cases hjk : j = k
        · subst hjk
          have := ((hset j hj').1 (Or.inr rfl)).2
          simp [this]
        · rw [getD_set_ne false (fun e => hjk (D.inj j k hj' hk e.symm))]
          simp [hjk]
      rw [h4]
      refine Nat.lt_of_le_of_ne (List.length_filter_le _ _) fun heq => ?_
      have := List.length_filter_eq_length_iff.1 heq k (List.mem_filter.2 ⟨List.mem_range.2 hk, by simp [hfalse]⟩)
      simp at this
    omega

end
end Go.Proofs.YtimlhgpjmjmjhaaW.AI

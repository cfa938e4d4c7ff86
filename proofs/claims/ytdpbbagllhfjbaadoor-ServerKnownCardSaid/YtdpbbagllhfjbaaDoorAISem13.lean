import Derived.Test.YtdpbbagllhfjbaaDoorAISem12
/-! What an operation looks at; operations with guards; a region in the order of its text. -/
namespace Go.Proofs.YtdpbbagllhfjbaaDoorW.AI
open Go
set_option linter.unusedVariables false
set_option linter.unusedSimpArgs false

def MX.rd : MX → List Nat
  | .t i => [i]
  | _ => []

def rdL : List MX → List Nat
  | [] => []
  | x :: xs => x.rd ++ rdL xs

def rdO : Option MX → List Nat
  | none => []
  | some x => x.rd

def rdP : List (Nat × Nat × MX) → List Nat
  | [] => []
  | (_, _, x) :: xs => x.rd ++ rdP xs

def MOp.rds : MOp → List Nat
  | .mv x => x.rd
  | .pick c x y => c.rd ++ x.rd ++ y.rd
  | .bin _ _ x y => x.rd ++ y.rd
  | .un _ x => x.rd
  | .ci _ x => x.rd
  | .cid x => x.rd
  | .cstr x => x.rd
  | .ld _ x => x.rd
  | .st _ p x => p.rd ++ x.rd
  | .fa _ x => x.rd
  | .fld _ _ x => x.rd
  | .ixa _ _ _ x i => x.rd ++ i.rd
  | .ixs x i => x.rd ++ i.rd
  | .ia _ _ x i => x.rd ++ i.rd
  | .slc _ _ x lo hi mx => x.rd ++ rdO lo ++ rdO hi ++ rdO mx
  | .slstr x lo hi => x.rd ++ rdO lo ++ rdO hi
  | .al _ => []
  | .bx _ _ x => x.rd
  | .bld _ ps => rdP ps
  | .bsl _ _ _ ps => rdP ps
  | .mf _ xs => rdL xs
  | .mks _ _ x y => x.rd ++ y.rd
  | .ex _ x => x.rd
  | .nc x => x.rd
  | .call _ xs => rdL xs
  | .calld x xs => x.rd ++ rdL xs
  | .len _ x => x.rd
  | .lens x => x.rd
  | .mnx _ xs => rdL xs
  | .app _ _ x y => x.rd ++ y.rd
  | .appz _ _ x y => x.rd ++ y.rd
  | .bad => []
  | .cpy _ x y => x.rd ++ y.rd

/-- What changes the heap. -/
def MOp.heap : MOp → Bool
  | .st .. => true
  | .al .. => true
  | .bx .. => true
  | .bsl .. => true
  | .mks .. => true
  | .call .. => true
  | .calld .. => true
  | .app .. => true
  | .appz .. => true
  | .cpy .. => true
  | _ => false

def MOp.reads : MOp → Bool
  | .ld .. => true
  | .cstr .. => true
  | _ => false

def MOper.rds (o : MOper) : List Nat := o.op.rds ++ (match o.guard with | some (t, _) => [t] | none => [])

theorem aeval_congr {a a' : Acts} {x : MX} (h : ∀ t ∈ x.rd, look a' t = look a t) : aeval a' x = aeval a x := by
  cases x <;> simp only [aeval]
  rw [h _ (by simp [MX.rd])]

theorem aevals_congr {a a' : Acts} : ∀ {xs : List MX}, (∀ t ∈ rdL xs, look a' t = look a t) → aevals a' xs = aevals a xs
  | [], _ => rfl
  | x :: xs, h => by
    simp only [aevals]
    rw [aeval_congr (fun t ht => h t (List.mem_append_left _ ht)), aevals_congr (fun t ht => h t (List.mem_append_right _ ht))]

theorem optN_congr {a a' : Acts} {x : Option MX} (h : ∀ t ∈ rdO x, look a' t = look a t) : optN a' x = optN a x := by
  cases x with
  | none => rfl
  | some x => simp only [optN]; rw [aeval_congr h]

theorem partsOf_congr {a a' : Acts} : ∀ {xs : List (Nat × Nat × MX)}, (∀ t ∈ rdP xs, look a' t = look a t) → partsOf a' xs = partsOf a xs
  | [], _ => rfl
  | (o, n, x) :: xs, h => by
    simp only [partsOf]
    rw [aeval_congr (fun t ht => h t (List.mem_append_left _ ht)), partsOf_congr (fun t ht => h t (List.mem_append_right _ ht))]

theorem aop_congr {call : CallT} {m : MOp} {a a' : Acts} (h : AHeap) (H : ∀ t ∈ m.rds, look a' t = look a t) : aop call m a' h = aop call m a h := by
  cases m <;> simp only [MOp.rds, List.mem_append, List.append_assoc] at H <;> simp only [aop]
  case mv x => rw [aeval_congr H]
  case pick c x y => rw [aeval_congr (x := c) (fun t ht => H t (by simp [ht])), aeval_congr (x := x) (fun t ht => H t (by simp [ht])), aeval_congr (x := y) (fun t ht => H t (by simp [ht]))]
  case bin x y => rw [aeval_congr (x := x) (fun t ht => H t (by simp [ht])), aeval_congr (x := y) (fun t ht => H t (by simp [ht]))]
  case un => rw [aeval_congr H]
  case ci => rw [aeval_congr H]
  case cid => rw [aeval_congr H]
  case cstr => rw [aeval_congr H]
  case ld => rw [aeval_congr H]
  case st p x => rw [aeval_congr (x := p) (fun t ht => H t (by simp [ht])), aeval_congr (x := x) (fun t ht => H t (by simp [ht]))]
  case fa => rw [aeval_congr H]
  case fld => rw [aeval_congr H]
  case ixa x y => rw [aeval_congr (x := x) (fun t ht => H t (by simp [ht])), aeval_congr (x := y) (fun t ht => H t (by simp [ht]))]
  case ixs x y => rw [aeval_congr (x := x) (fun t ht => H t (by simp [ht])), aeval_congr (x := y) (fun t ht => H t (by simp [ht]))]
  case ia x y => rw [aeval_congr (x := x) (fun t ht => H t (by simp [ht])), aeval_congr (x := y) (fun t ht => H t (by simp [ht]))]
  case slc x lo hi mx => rw [aeval_congr (x := x) (fun t ht => H t (by simp [ht])), optN_congr (x := lo) (fun t ht => H t (by simp [ht])), optN_congr (x := hi) (fun t ht => H t (by simp [ht])), optN_congr (x := mx) (fun t ht => H t (by simp [ht]))]
  case slstr x lo hi => rw [aeval_congr (x := x) (fun t ht => H t (by simp [ht])), optN_congr (x := lo) (fun t ht => H t (by simp [ht])), optN_congr (x := hi) (fun t ht => H t (by simp [ht]))]
  case bx => rw [aeval_congr H]
  case bld => rw [partsOf_congr H]
  case bsl => rw [partsOf_congr H]
  case mf => rw [aevals_congr H]
  case mks x y => rw [aeval_congr (x := x) (fun t ht => H t (by simp [ht])), aeval_congr (x := y) (fun t ht => H t (by simp [ht]))]
  case ex => rw [aeval_congr H]
  case nc => rw [aeval_congr H]
  case call => rw [aevals_congr H]
  case calld x xs => rw [aeval_congr (x := x) (fun t ht => H t (by simp [ht])), aevals_congr (xs := xs) (fun t ht => H t (by simp [ht]))]
  case len => rw [aeval_congr H]
  case lens => rw [aeval_congr H]
  case mnx => rw [aevals_congr H]
  case app x y => rw [aeval_congr (x := x) (fun t ht => H t (by simp [ht])), aeval_congr (x := y) (fun t ht => H t (by simp [ht]))]
  case appz x y => rw [aeval_congr (x := x) (fun t ht => H t (by simp [ht])), aeval_congr (x := y) (fun t ht => H t (by simp [ht]))]
  case cpy x y => rw [aeval_congr (x := x) (fun t ht => H t (by simp [ht])), aeval_congr (x := y) (fun t ht => H t (by simp [ht]))]

theorem guardOf_congr {a a' : Acts} {g : Option (Nat × Bool)} (h : ∀ t b, g = some (t, b) → look a' t = look a t) : guardOf a' g = guardOf a g := by
  unfold guardOf
  cases g with
  | none => rfl
  | some p => simp only; rw [h p.1 p.2 rfl]

theorem aoper_congr {call : CallT} {o : MOper} {a a' : Acts} (h : AHeap) (H : ∀ t ∈ o.rds, look a' t = look a t) : aoper call o a' h = aoper call o a h := by
  unfold aoper
  rw [guardOf_congr (a := a) (a' := a') (fun t b hg => H t (by simp [MOper.rds, hg]))]
  rw [aop_congr h (fun t ht => H t (by simp [MOper.rds, ht]))]

theorem sliceCells_same {h h' : AHeap} {e : Nat} {x : AV} (H : ∀ b, (match x with | .sl b _ _ _ => some b | .gsl b _ _ _ _ => some b | _ => none) = some b → cellsAt h' b = cellsAt h b) : sliceCells h' e x = sliceCells h e x := by
  cases x <;> simp only [sliceCells]
  · rw [H _ rfl]
  · rw [H _ rfl]

/-- What doesn't change the heap: on any heap that agrees where it reads. -/
theorem aop_pure {call : CallT} {m : MOp} (hm : m.heap = false) {a : Acts} {h h' : AHeap} {v : AV} {ws : List Nat} (hr : aop call m a h = some (v, h', ws)) :
    h' = h ∧ ∀ k : AHeap, (∀ b, readB m a = some b → cellsAt k b = cellsAt h b) → aop call m a k = some (v, k, []) := by
  cases m <;> simp only [MOp.heap, Bool.true_eq_false] at hm <;> simp only [aop, Option.bind_eq_some_iff, Option.map_eq_some_iff] at hr <;> simp only [aop]
  case mv => obtain ⟨v, h1, h2⟩ := hr; cases h2; exact ⟨rfl, fun k _ => by rw [h1]; rfl⟩
  case pick =>
    obtain ⟨c, h0, hr⟩ := hr
    rw [h0]; simp only [Option.bind_some]
    split at hr
    · simp only [Option.map_eq_some_iff] at hr; obtain ⟨v, h1, h2⟩ := hr; cases h2; exact ⟨rfl, fun k _ => by rw [h1]; rfl⟩
    · simp only [Option.map_eq_some_iff] at hr; obtain ⟨v, h1, h2⟩ := hr; cases h2; exact ⟨rfl, fun k _ => by rw [h1]; rfl⟩
    · cases hr
  case bin => obtain ⟨x, h1, y, h2, z, h3, h4⟩ := hr; cases h4; exact ⟨rfl, fun k _ => by rw [h1, Option.bind_some, h2, Option.bind_some, h3]; rfl⟩
  case un => obtain ⟨x, h1, z, h3, h4⟩ := hr; cases h4; exact ⟨rfl, fun k _ => by rw [h1, Option.bind_some, h3]; rfl⟩
  case ci =>
    obtain ⟨x, h1, hr⟩ := hr
    rw [h1]; simp only [Option.bind_some]
    split at hr <;> cases hr
    exact ⟨rfl, fun k _ => rfl⟩
  case cid =>
    obtain ⟨x, h1, hr⟩ := hr
    rw [h1]; simp only [Option.bind_some]
    split at hr <;> cases hr
    exact ⟨rfl, fun k _ => rfl⟩
  case cstr =>
    obtain ⟨x, h1, hr⟩ := hr
    rw [h1]; simp only [Option.bind_some]
    cases x
    case nils => cases hr; exact ⟨rfl, fun k _ => rfl⟩
    all_goals first
      | (simp [sliceCells] at hr; done)
      | skip
    all_goals
      simp only [Option.bind_eq_some_iff, Option.map_eq_some_iff] at hr
      obtain ⟨c, h2, s, h3, h4⟩ := hr
      cases h4
      refine ⟨rfl, fun k hk => ?_⟩
      simp only
      rw [sliceCells_same (h := h) (fun b hb => hk b (by simp only [readB, h1]; exact hb)), h2, Option.bind_some, h3]
      rfl
  case ld =>
    obtain ⟨x, h1, hr⟩ := hr
    rw [h1]; simp only [Option.bind_some]
    split at hr
    · simp only [Option.bind_eq_some_iff, Option.map_eq_some_iff] at hr
      obtain ⟨c, h2, s, h3, h4⟩ := hr
      cases h4
      refine ⟨rfl, fun k hk => ?_⟩
      rw [hk _ (by simp only [readB, h1]), h2, Option.bind_some, h3]
      rfl
    · cases hr
  case fa =>
    obtain ⟨x, h1, hr⟩ := hr
    rw [h1]; simp only [Option.bind_some]
    split at hr <;> cases hr
    exact ⟨rfl, fun k _ => rfl⟩
  case fld =>
    obtain ⟨x, h1, hr⟩ := hr
    rw [h1]; simp only [Option.bind_some]
    split at hr
    · simp only [Option.map_eq_some_iff] at hr; obtain ⟨v, h1, h2⟩ := hr; cases h2; exact ⟨rfl, fun k _ => by rw [h1]; rfl⟩
    · cases hr
  case ixa =>
    obtain ⟨x, h1, y, h2, i, h3, hr⟩ := hr
    simp only [h1, h2, h3, Option.bind_some]
    split at hr
    · split at hr
      · simp only [Option.map_eq_some_iff] at hr; obtain ⟨v, h1, h2⟩ := hr; cases h2; exact ⟨rfl, fun k _ => by rw [if_pos (by assumption), h1]; rfl⟩
      · cases hr
    · cases hr
  case ixs =>
    obtain ⟨x, h1, y, h2, i, h3, hr⟩ := hr
    simp only [h1, h2, h3, Option.bind_some]
    split at hr
    · simp only [Option.map_eq_some_iff] at hr; obtain ⟨v, h1, h2⟩ := hr; cases h2; exact ⟨rfl, fun k _ => by rw [h1]; rfl⟩
    · cases hr
  case ia =>
    obtain ⟨x, h1, y, h2, i, h3, hr⟩ := hr
    simp only [h1, h2, h3, Option.bind_some]
    split at hr <;> first | (cases hr; done) | skip
    all_goals (split at hr <;> cases hr; exact ⟨rfl, fun k _ => by rw [if_pos (by assumption)]⟩)
  case slc =>
    obtain ⟨x, h1, lo, h2, hi, h3, mx, h4, hr⟩ := hr
    simp only [h1, h2, h3, h4, Option.bind_some]
    split at hr <;> first | (cases hr; done) | skip
    · simp only [Option.map_eq_some_iff] at hr; obtain ⟨p, h5, h6⟩ := hr; cases h6; exact ⟨rfl, fun k _ => by rw [h5]; rfl⟩
    · simp only [Option.bind_eq_some_iff] at hr
      obtain ⟨p, h5, hr⟩ := hr
      rw [h5]; simp only [Option.bind_some]
      split at hr
      · cases hr; exact ⟨rfl, fun k _ => rfl⟩
      · split at hr <;> cases hr; exact ⟨rfl, fun k _ => by rw [if_pos (by assumption)]⟩
    · simp only [Option.map_eq_some_iff] at hr; obtain ⟨p, h5, h6⟩ := hr; cases h6; exact ⟨rfl, fun k _ => by rw [h5]; rfl⟩
    · split at hr
      · rename_i hc
        split at hr
        · simp only [Option.map_eq_some_iff] at hr; obtain ⟨p, h5, h6⟩ := hr; cases h6; exact ⟨rfl, fun k _ => by rw [if_pos hc, h5]; rfl⟩
        · split at hr
          · rename_i hd
            simp only [Option.map_eq_some_iff] at hr; obtain ⟨p, h5, h6⟩ := hr; cases h6; exact ⟨rfl, fun k _ => by rw [if_pos hc, if_pos hd, h5]; rfl⟩
          · cases hr
      · cases hr
  case slstr =>
    obtain ⟨x, h1, lo, h2, hi, h3, hr⟩ := hr
    simp only [h1, h2, h3, Option.bind_some]
    split at hr
    · simp only [Option.map_eq_some_iff] at hr; obtain ⟨p, h5, h6⟩ := hr; cases h6; exact ⟨rfl, fun k _ => by rw [h5]; rfl⟩
    · cases hr
  case bld => obtain ⟨x, h1, z, h3, h4⟩ := hr; cases h4; exact ⟨rfl, fun k _ => by rw [h1, Option.bind_some, h3]; rfl⟩
  case mf => obtain ⟨x, h1, h4⟩ := hr; cases h4; exact ⟨rfl, fun k _ => by rw [h1]; rfl⟩
  case ex =>
    obtain ⟨x, h1, hr⟩ := hr
    rw [h1]; simp only [Option.bind_some]
    split at hr
    · simp only [Option.map_eq_some_iff] at hr; obtain ⟨v, h1, h2⟩ := hr; cases h2; exact ⟨rfl, fun k _ => by rw [h1]; rfl⟩
    · cases hr
  case nc =>
    obtain ⟨x, h1, hr⟩ := hr
    rw [h1]; simp only [Option.bind_some]
    split at hr <;> cases hr <;> exact ⟨rfl, fun k _ => rfl⟩
  case len =>
    obtain ⟨x, h1, hr⟩ := hr
    rw [h1]; simp only [Option.bind_some]
    split at hr
    · cases hr; exact ⟨rfl, fun k _ => rfl⟩
    · simp only [Option.map_eq_some_iff] at hr; obtain ⟨v, h1, h2⟩ := hr; cases h2; exact ⟨rfl, fun k _ => by rw [h1]; rfl⟩
  case lens =>
    obtain ⟨x, h1, hr⟩ := hr
    rw [h1]; simp only [Option.bind_some]
    split at hr <;> cases hr
    exact ⟨rfl, fun k _ => rfl⟩
  case mnx =>
    obtain ⟨x, h1, hr⟩ := hr
    rw [h1]; simp only [Option.bind_some]
    split at hr
    · cases hr
    · simp only [Option.map_eq_some_iff] at hr; obtain ⟨v, h1, h2⟩ := hr; cases h2; exact ⟨rfl, fun k _ => by rw [h1]; rfl⟩
  case bad => cases hr

theorem aoper_pure {call : CallT} {o : MOper} (hm : o.op.heap = false) {a : Acts} {h h' : AHeap} {v : AV} {ws : List Nat} {hi : Nat} (hr : aoper call o a h = some (v, h', ws)) :
    h' = h ∧ ∀ k : AHeap, (∀ b, (recOf o a h ws hi).rb = some b → cellsAt k b = cellsAt h b) → aoper call o a k = some (v, k, []) := by
  simp only [aoper, Option.bind_eq_some_iff] at hr
  obtain ⟨g, hg, hr⟩ := hr
  unfold aoper recOf
  rw [hg]
  cases g
  · cases hr; exact ⟨rfl, fun k _ => rfl⟩
  · obtain ⟨h1, h2⟩ := aop_pure hm hr
    refine ⟨h1, fun k hk => h2 k fun b hb => hk b ?_⟩
    rw [if_pos rfl, hb]

-- ------------------------------------------------------------------ with guards

section
variable {X : Ctx} {B : Nat} {ρg : Env} {gl : AHeap} {ρ ρ' : Env} {h h' : AHeap} {w w' : World} {nt n n' : Nat} {a : Acts} {A : Act} {v : AV} {o : Oper}

theorem look_keepA {keep : List Nat} {t : Nat} : look (keepA keep a) t = if t ∈ keep then look a t else none := by
  induction keep with
  | nil => rfl
  | cons k keep ih =>
    simp only [keepA, List.filterMap_cons] at ih ⊢
    cases hk : look a k with
    | none =>
      simp only [Option.map_none]
      rw [ih]
      by_cases htk : t = k
      · subst htk; simp [hk]
      · simp [htk]
    | some u =>
      simp only [Option.map_some, look]
      by_cases htk : k = t
      · subst htk; simp [hk]
      · rw [if_neg htk, ih]
        have : t ≠ k := fun e => htk e.symm
        simp [this]

theorem AR.keep (ha : AR ρ n nt a A) (keep : List Nat) : AR ρ n nt (keepA keep a) A :=
  ⟨ha.size, ha.defers, fun t v hv => ha.get t v (by rw [look_keepA] at hv; split at hv; exact hv; cases hv)⟩

theorem AR.put (ha : AR ρ n nt a A) (hag : Agree n ρ ρ') (hn : n ≤ n') {d : Option Nat} (hd : ∀ t, d = some t → t < nt) {x : Value} (hl : v.lt n' = true) (hr : R ρ' v x) : AR ρ' n' nt (putA a d v) (A.put d x) := by
  have old : ∀ t u, look a t = some u → u.lt n' = true ∧ R ρ' u (A.tmps.getD t undef) := fun t u hu => by
    obtain ⟨h1, h2⟩ := ha.get t u hu
    exact ⟨AV.lt_mono hn _ h1, R_agree hag _ _ h1 h2⟩
  cases d with
  | none => exact ⟨ha.size, ha.defers, old⟩
  | some d =>
    have hds := hd d rfl
    have hsz := ha.size
    refine ⟨by simpa [Act.put] using ha.size, ha.defers, fun t u hu => ?_⟩
    simp only [putA, look] at hu
    split at hu
    · rename_i hdt; subst hdt
      cases hu
      refine ⟨hl, ?_⟩
      have : (A.put (some d) x).tmps.getD d undef = x := by
        have hlt : d < A.tmps.size := by omega
        simp [Act.put, hlt]
      rw [this]; exact hr
    · rename_i hdt
      have : (A.put (some d) x).tmps.getD t undef = A.tmps.getD t undef := by
        simp [Act.put, Array.getElem?_setIfInBounds_ne hdt]
      rw [this]; exact old t u hu

def chkGuard (ops : Array Oper) : Option (Nat × Bool) → Option (Nat × Bool) → Bool
  | none, none => true
  | some (j, b), some (t, b') => b == b' && decide ((ops[j]?).bind (·.dst) = some t)
  | _, _ => false

def chkOper (X : Ctx) (nt : Nat) (ops : Array Oper) (o : Oper) (m : MOper) : Bool :=
  decide (o.dst = m.dst) && (match m.dst with | some d => decide (d < nt) | none => true) && chkGuard ops o.guard m.guard && chkOp X o.op m.op

theorem guard_sound {ops : Array Oper} (ha : AR ρ n nt a A) {m : MOper} (hc : chkGuard ops o.guard m.guard = true) {b : Bool} (hg : guardOf a m.guard = some b) : Region.wanted o (yielded ops A.tmps) = b := by
  unfold Region.wanted
  unfold guardOf at hg
  cases hog : o.guard with
  | none =>
    rw [hog] at hc
    cases hmg : m.guard with
    | none => rw [hmg] at hg; simp only [Option.some.injEq] at hg; exact hg
    | some p => rw [hmg] at hc; simp [chkGuard] at hc
  | some p =>
    obtain ⟨j, c⟩ := p
    rw [hog] at hc
    cases hmg : m.guard with
    | none => rw [hmg] at hc; simp [chkGuard] at hc
    | some q =>
      obtain ⟨t, c'⟩ := q
      rw [hmg] at hc hg
      simp only [chkGuard, Bool.and_eq_true, beq_iff_eq, decide_eq_true_eq] at hc
      obtain ⟨rfl, hc⟩ := hc
      simp only at hg ⊢
      unfold yielded
      rw [hc, Option.bind_some]
      have hget : ∀ u, A.tmps.getD t undef = u → A.tmps[t]? = some u ∨ (A.tmps[t]? = none ∧ u = undef) := by
        intro u hu
        simp only [Array.getD_eq_getD_getElem?] at hu
        cases hx : A.tmps[t]? with
        | none => rw [hx] at hu; exact Or.inr ⟨rfl, hu.symm⟩
        | some y => rw [hx] at hu; simp only [Option.getD_some] at hu; subst hu; exact Or.inl rfl
      cases hl : look a t with
      | none => rw [hl] at hg; cases hg
      | some u =>
        rw [hl] at hg
        obtain ⟨_, hr⟩ := ha.get t u hl
        split at hg
        · rename_i x hx
          cases hx
          simp only [Option.some.injEq] at hg
          simp only [R] at hr
          rcases hget _ hr with h1 | ⟨_, h1⟩
          · rw [h1]; subst hg; cases x <;> cases c <;> rfl
          · cases h1
        · rename_i hx
          cases hx
          simp only [Option.some.injEq] at hg
          simp only [R] at hr
          obtain ⟨vs, e, _⟩ := hr
          rcases hget _ e with h1 | ⟨h1, _⟩
          · rw [h1]; subst hg; rfl
          · rw [h1]; subst hg; rfl
        · cases hg

theorem post_undef (hst : St B ρg gl X.gid ρ h w) : Post X B ρg gl ρ h w (.tup []) h undef w :=
  post_float hst rfl (by simp only [R]; exact ⟨#[], rfl, rfl⟩)

/-- One operation of a region. -/
theorem oper_wp (hst : St B ρg gl X.gid ρ h w) (hG : gl.length = X.G) (ha : AR ρ h.length nt a A) {call : CallT} (hcall : CallOk X B ρg gl call) {ops : Array Oper} {m : MOper} (hc : chkOper X nt ops o m = true) {r : AV × AHeap × List Nat}
    (hr : aoper call m a h = some r) {i : Nat} (hi : ops[i]? = some o) {K : Act → World → Prop} {Q : Exit → Act → World → Prop} (k : ∀ x w', Post X B ρg gl ρ h w r.1 r.2.1 x w' → K (A.put o.dst x) w') : wpOp X.P ops Q i K A w := by
  simp only [chkOper, Bool.and_eq_true] at hc
  simp only [aoper, Option.bind_eq_some_iff] at hr
  obtain ⟨g, hg, hr⟩ := hr
  have hw := guard_sound ha hc.1.2 hg
  unfold wpOp
  rw [hi]
  simp only
  rw [hw]
  cases g
  · cases hr
    simp only [Bool.false_eq_true, if_false]
    exact k undef w (post_undef hst)
  · simp only [if_true]
    exact Or.inl (op_wp hst hG ha hcall hc.2 hr k)

/-- Where a run may have led. -/
def Reach (X : Ctx) (B : Nat) (ρg : Env) (gl : AHeap) (nt : Nat) (ρ : Env) (h : AHeap) (w : World) (a' : Acts) (h' : AHeap) (A' : Act) (w' : World) : Prop :=
  ∃ ρ', Agree h.length ρ ρ' ∧ AR ρ' h'.length nt a' A' ∧ St B ρg gl X.gid ρ' h' w' ∧ Fr ρ h w ρ' h' w' ∧ h.length ≤ h'.length

theorem Reach.refl (hst : St B ρg gl X.gid ρ h w) (ha : AR ρ h.length nt a A) : Reach X B ρg gl nt ρ h w a h A w := ⟨ρ, Agree.refl _ _, ha, hst, Fr.refl _ _ _, Nat.le_refl _⟩

def chkOpers (X : Ctx) (nt : Nat) (ops : Array Oper) : List Oper → List MOper → Bool
  | [], [] => true
  | o :: os, m :: ms => chkOper X nt ops o m && chkOpers X nt ops os ms
  | _, _ => false

theorem chkOper_dst {ops : Array Oper} {m : MOper} (hc : chkOper X nt ops o m = true) : o.dst = m.dst ∧ ∀ t, m.dst = some t → t < nt := by
  simp only [chkOper, Bool.and_eq_true, decide_eq_true_eq] at hc
  refine ⟨hc.1.1.1, fun t ht => ?_⟩
  have := hc.1.1.2
  rw [ht] at this
  simpa using this

theorem opers_wp (hG : gl.length = X.G) {call : CallT} (hcall : CallOk X B ρg gl call) {base : Nat} {ops : Array Oper} {Q : Exit → Act → World → Prop} : ∀ {ms : List MOper} {os : List Oper} {i : Nat} {ρ : Env} {h : AHeap} {w : World} {a : Acts} {A : Act} {ws : List Nat} {r : Acts × AHeap × List Nat},
    chkOpers X nt ops os ms = true → ops.toList.drop i = os → St B ρg gl X.gid ρ h w → AR ρ h.length nt a A → aops call base ms a h ws = some r →
    (∀ A' w', Reach X B ρg gl nt ρ h w r.1 r.2.1 A' w' → Q .normal A' w') → wpOps X.P ops Q (List.range' i os.length) A w
  | [], [], i, ρ, h, w, a, A, ws, r, hc, hos, hst, ha, hr, hQ => by
    simp only [aops, Option.some.injEq] at hr; subst hr
    exact hQ A w (Reach.refl hst ha)
  | [], _ :: _, _, _, _, _, _, _, _, _, hc, _, _, _, _, _ => by simp [chkOpers] at hc
  | _ :: _, [], _, _, _, _, _, _, _, _, hc, _, _, _, _, _ => by simp [chkOpers] at hc
  | m :: ms, o :: os, i, ρ, h, w, a, A, ws, r, hc, hos, hst, ha, hr, hQ => by
    simp only [chkOpers, Bool.and_eq_true] at hc
    simp only [aops, Option.bind_eq_some_iff] at hr
    obtain ⟨⟨v, h1, ws1⟩, e1, e2⟩ := hr
    have hlen : i < ops.toList.length := by
      have := congrArg List.length hos
      simp at this; simp; omega
    have hoi : ops.toList[i]? = some o := by
      have := congrArg (·[0]?) hos
      simpa [List.getElem?_drop] using this
    have hos' : ops.toList.drop (i + 1) = os := by
      have := congrArg List.tail hos
      simpa using this
    obtain ⟨d1, d2⟩ := chkOper_dst hc.1
    simp only [List.length_cons, List.range'_succ]
    rw [wpOps_cons]
    refine oper_wp hst hG ha hcall hc.1 e1 (by simpa using hoi) fun x w' hp => ?_
    obtain ⟨ρ', ag, hr', hl', hst', fr, hle⟩ := hp
    refine opers_wp hG hcall hc.2 hos' hst' (by rw [d1]; exact ha.put ag hle d2 hl' hr') e2 fun A' w'' hR => hQ A' w'' ?_
    obtain ⟨ρ'', ag', ha'', hst'', fr', hle'⟩ := hR
    exact ⟨ρ'', ag.trans ag' hle, ha'', hst'', fr.trans fr', Nat.le_trans hle hle'⟩

end
end Go.Proofs.YtdpbbagllhfjbaaDoorW.AI

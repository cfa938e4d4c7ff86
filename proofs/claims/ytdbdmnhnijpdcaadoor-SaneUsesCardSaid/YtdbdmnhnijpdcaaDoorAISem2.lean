import Derived.Test.YtdbdmnhnijpdcaaDoorAISem1
/-! The checker; operations that only compute. -/
namespace Go.Proofs.YtdbdmnhnijpdcaaDoorW.AI
open Go
set_option linter.unusedVariables false
set_option linter.unusedSimpArgs false

-- ------------------------------------------------------------------ the checker
mutual
def chkV : AV → Value → Bool
  | .int k n, .int k' m => decide (k = k') && decide (n = m)
  | .bool b, .bool c => b == c
  | .str s, .string t => s.data == t.data
  | .nilp, .pointer none => true
  | .nils, .slice none 0 0 => true
  | .nilf, .nilFunc => true
  | .agg cs, .agg vs => chkVs cs vs.toList
  | _, _ => false
def chkVs : List AV → List Value → Bool
  | [], [] => true
  | x :: xs, v :: vs => chkV x v && chkVs xs vs
  | _, _ => false
end

theorem chkV_nilp {v : Value} (h : chkV .nilp v = true) : v = .pointer none := by
  unfold chkV at h
  split at h <;> first | (cases h; done) | rfl | (simp at *; done)

theorem chkV_nils {v : Value} (h : chkV .nils v = true) : v = .slice none 0 0 := by
  unfold chkV at h
  split at h <;> first | (cases h; done) | rfl | (simp at *; done)

mutual
theorem chkV_R (ρ : Env) : ∀ (a : AV) (v : Value), chkV a v = true → R ρ a v
  | .int k n, v, h => by cases v <;> simp only [chkV, Bool.false_eq_true, Bool.and_eq_true, decide_eq_true_eq] at h; simp only [R]; rw [h.1, h.2]
  | .bool b, v, h => by cases v <;> simp only [chkV, Bool.false_eq_true, beq_iff_eq] at h; simp only [R]; rw [h]
  | .str s, v, h => by
    cases v <;> simp only [chkV, Bool.false_eq_true, beq_iff_eq] at h
    simp only [R]
    rename_i t
    cases s; cases t; simp only at h; rw [h]
  | .nilp, v, h => by simp only [R]; exact chkV_nilp h
  | .nils, v, h => by simp only [R]; exact chkV_nils h
  | .nilf, v, h => by cases v <;> simp only [chkV, Bool.false_eq_true] at h; rfl
  | .agg cs, v, h => by
    cases v <;> simp only [chkV, Bool.false_eq_true] at h
    rename_i vs
    simp only [R]
    exact ⟨vs, rfl, chkVs_R ρ cs vs.toList h⟩
  | .ptr .., v, h => by simp [chkV] at h
  | .sl .., v, h => by simp [chkV] at h
  | .gsl .., v, h => by simp [chkV] at h
  | .fn .., v, h => by simp [chkV] at h
  | .tup .., v, h => by simp [chkV] at h
  | .any, v, h => by simp [chkV] at h
theorem chkVs_R (ρ : Env) : ∀ (as : List AV) (vs : List Value), chkVs as vs = true → Rs ρ as vs
  | [], [], _ => rfl
  | [], _ :: _, h => by simp [chkVs] at h
  | _ :: _, [], h => by simp [chkVs] at h
  | x :: xs, v :: vs, h => by
    simp only [chkVs, Bool.and_eq_true] at h
    simp only [Rs]
    exact ⟨v, vs, rfl, chkV_R ρ x v h.1, chkVs_R ρ xs vs h.2⟩
end

mutual
theorem chkV_lt : ∀ (a : AV) (v : Value), chkV a v = true → a.lt 0 = true
  | .int .., v, h => rfl
  | .bool .., v, h => rfl
  | .str .., v, h => rfl
  | .nilp, v, h => rfl
  | .nils, v, h => rfl
  | .nilf, v, h => rfl
  | .agg cs, v, h => by
    cases v <;> simp only [chkV, Bool.false_eq_true] at h
    simp only [AV.lt]
    exact chkVs_lt _ _ h
  | .ptr .., v, h => by simp [chkV] at h
  | .sl .., v, h => by simp [chkV] at h
  | .gsl .., v, h => by simp [chkV] at h
  | .fn .., v, h => by simp [chkV] at h
  | .tup .., v, h => by simp [chkV] at h
  | .any, v, h => by simp [chkV] at h
theorem chkVs_lt : ∀ (as : List AV) (vs : List Value), chkVs as vs = true → AV.lts 0 as = true
  | [], [], _ => rfl
  | [], _ :: _, h => by simp [chkVs] at h
  | _ :: _, [], h => by simp [chkVs] at h
  | x :: xs, v :: vs, h => by
    simp only [chkVs, Bool.and_eq_true] at h
    simp only [AV.lts, Bool.and_eq_true]
    exact ⟨chkV_lt x v h.1, chkVs_lt xs vs h.2⟩
end

/-- What is fixed for one program: its types, how many globals have a face of their own, which. -/
structure Ctx where
  P : Program
  G : Nat
  gid : Nat → Nat

variable (X : Ctx)

def chkX : Operand → MX → Bool
  | .tmp t, .t i => t == i
  | .const v, .c a => chkV a v
  | .func f, .f g => f == g
  | .global g, .g i => decide (i < X.G) && X.gid i == g
  | _, _ => false

def chkXs : List Operand → List MX → Bool
  | [], [] => true
  | o :: os, x :: xs => chkX X o x && chkXs os xs
  | _, _ => false

def chkXo : Option Operand → Option MX → Bool
  | none, none => true
  | some o, some x => chkX X o x
  | _, _ => false

def szIs (t n : Nat) : Bool := decide ((X.P.info? t).map (·.size) = some n)
def bytesIs (t n : Nat) : Bool := decide ((X.P.info? t).map (·.bytes) = some n)
def aggIs (t : Nat) (b : Bool) : Bool :=
  match X.P.underlying t with
  | some (.struct _) => b
  | some (.array _ _) => b
  | some _ => !b
  | none => false
def chkAgg (t : Nat) : Option Nat → Bool
  | none => aggIs X t false
  | some n => aggIs X t true && szIs X t n

structure AR (ρ : Env) (n nt : Nat) (a : Acts) (A : Act) : Prop where
  size : nt ≤ A.tmps.size
  defers : A.defers = []
  get : ∀ t v, look a t = some v → v.lt n = true ∧ R ρ v (A.tmps.getD t undef)

variable {X : Ctx}

theorem aeval_sound {ρ : Env} {n nt : Nat} {a : Acts} {A : Act} (ha : AR ρ n nt a A) (hp : ∀ i, i < X.G → i < n ∧ ρ.blk i = X.gid i ∧ ρ.base i = 0) {o : Operand} {x : MX} (hc : chkX X o x = true)
    {v : AV} (hv : aeval a x = some v) : v.lt n = true ∧ R ρ v (A.eval o) := by
  cases o <;> cases x <;> simp only [chkX, Bool.false_eq_true, beq_iff_eq] at hc
  · subst hc
    rename_i t
    simp only [aeval] at hv
    split at hv
    · cases hv
    · exact ha.get t v hv
  · simp only [aeval, Option.some.injEq] at hv
    subst hv
    exact ⟨AV.lt_mono (Nat.zero_le _) _ (chkV_lt _ _ hc), chkV_R ρ _ _ hc⟩
  · simp only [Bool.and_eq_true, decide_eq_true_eq, beq_iff_eq] at hc
    simp only [aeval, Option.some.injEq] at hv
    subst hv
    obtain ⟨h1, h2, h3⟩ := hp _ hc.1
    refine ⟨by simpa [AV.lt] using h1, ?_⟩
    simp only [R, Act.eval, Env.addr, h2, h3, hc.2]
  · subst hc
    simp only [aeval, Option.some.injEq] at hv
    subst hv
    exact ⟨rfl, by simp only [R, Act.eval]; exact ⟨#[], rfl, rfl⟩⟩

theorem aevals_sound {ρ : Env} {n nt : Nat} {a : Acts} {A : Act} (ha : AR ρ n nt a A) (hp : ∀ i, i < X.G → i < n ∧ ρ.blk i = X.gid i ∧ ρ.base i = 0) : ∀ {os : List Operand} {xs : List MX} (hc : chkXs X os xs = true)
    {vs : List AV} (hv : aevals a xs = some vs), AV.lts n vs = true ∧ Rs ρ vs (os.map A.eval)
  | [], [], _, vs, hv => by simp only [aevals, Option.some.injEq] at hv; subst hv; exact ⟨rfl, rfl⟩
  | [], _ :: _, hc, _, _ => by simp [chkXs] at hc
  | _ :: _, [], hc, _, _ => by simp [chkXs] at hc
  | o :: os, x :: xs, hc, vs, hv => by
    simp only [chkXs, Bool.and_eq_true] at hc
    simp only [aevals, Option.bind_eq_some_iff, Option.map_eq_some_iff] at hv
    obtain ⟨v, h1, ws, h2, rfl⟩ := hv
    have e1 := aeval_sound ha hp hc.1 h1
    have e2 := aevals_sound ha hp hc.2 h2
    simp only [AV.lts, Bool.and_eq_true, List.map_cons, Rs]
    exact ⟨⟨e1.1, e2.1⟩, _, _, rfl, e1.2, e2.2⟩

-- ------------------------------------------------------------------ numbers

theorem R_int {ρ : Env} {v : Value} {k : IntKind} {n : Int} : R ρ (.int k n) v ↔ v = .int k n := by simp only [R]

theorem abits_run (op : BinOp) (k : IntKind) (x y : Int) (P : Program) (w : World) (h : op = .and ∨ op = .or ∨ op = .xor ∨ op = .andNot) :
    (Op.intBits op k x y).run P w = .ok (.int k (abits op k x y)) w := by
  rcases h with rfl | rfl | rfl | rfl <;> rfl

theorem abinInt_sound {op : BinOp} {k k' : IntKind} {x y : Int} {r : AV} (h : abinInt op k x k' y = some r) (P : Program) (w : World) (t : Nat) :
    ∃ v, (binOp op t (.int k x) (.int k' y)).run P w = .ok v w ∧ ∀ ρ, R ρ r v := by
  cases op <;> simp only [abinInt] at h
  case shl =>
    split at h
    · cases h
    · rename_i hn
      simp only [Option.some.injEq] at h; subst h
      exact ⟨_, by simp only [binOp, Op.shift, if_neg hn]; rfl, fun _ => rfl⟩
  case shr =>
    split at h
    · cases h
    · rename_i hn
      simp only [Option.some.injEq] at h; subst h
      exact ⟨_, by simp only [binOp, Op.shift, if_neg hn]; rfl, fun _ => rfl⟩
  all_goals
    split at h
    · cases h
    · rename_i hk
      have hk : k = k' := by simpa using hk
      subst hk
      first
        | (simp only [Option.some.injEq] at h; subst h; exact ⟨_, by simp only [binOp, ne_eq, not_true, if_false]; rfl, fun _ => rfl⟩)
        | (split at h
           · cases h
           · rename_i hy
             simp only [Option.some.injEq] at h; subst h
             exact ⟨_, by simp only [binOp, ne_eq, not_true, if_false, Op.intDiv, if_neg hy]; rfl, fun _ => rfl⟩)

theorem abinStr_sound {op : BinOp} {x y : ByteArray} {r : AV} (h : abinStr op x y = some r) (P : Program) (w : World) (t : Nat) :
    ∃ v, (binOp op t (.string x) (.string y)).run P w = .ok v w ∧ ∀ ρ, R ρ r v := by
  cases op <;> simp only [abinStr] at h <;> first | (cases h; done) | skip
  case add =>
    split at h
    · rename_i hs
      simp only [Option.some.injEq] at h; subst h
      refine ⟨.string (x ++ y), ?_, fun _ => rfl⟩
      have : ¬ (((x.size + y.size : Nat) : Int) > IntKind.i64.max) := by
        show ¬ (((x.size + y.size : Nat) : Int) > 9223372036854775807); omega
      simp only [binOp, Op.stringOp, if_neg this]
      rfl
    · cases h
  all_goals (simp only [Option.some.injEq] at h; subst h; exact ⟨_, rfl, fun _ => rfl⟩)

theorem aun_sound {op : UnOp} {x r : AV} (h : aun op x = some r) {ρ : Env} {v : Value} (hx : R ρ x v) (P : Program) (w : World) :
    ∃ u, (Op.unary op v).run P w = .ok u w ∧ R ρ r u ∧ r.lt 0 = true := by
  cases op <;> cases x <;> simp only [aun] at h <;> first | (cases h; done) | skip
  all_goals
    simp only [Option.some.injEq] at h; subst h
    simp only [R] at hx; subst hx
    exact ⟨_, rfl, rfl, rfl⟩

theorem aminmax_sound {P : Program} {w : World} {mx : Bool} {ρ : Env} : ∀ {rest : List AV} {x r : AV} {v : Value} {vs : List Value}, aminmax mx x rest = some r → R ρ x v → Rs ρ rest vs →
    ∃ u, (vs.foldlM (if mx then Builtin.max2 else Builtin.min2) v).run P w = .ok u w ∧ R ρ r u ∧ (r = x ∨ r.lt 0 = true)
  | [], x, r, v, vs, h, hx, hr => by
    simp only [Rs] at hr; subst hr
    have h : x = r := by cases x <;> simpa [aminmax] using h
    subst h
    exact ⟨v, rfl, hx, Or.inl rfl⟩
  | y :: ys, x, r, v, vs, h, hx, hr => by
    simp only [Rs] at hr
    obtain ⟨u, us, rfl, hy, hr⟩ := hr
    cases x <;> cases y <;> simp only [aminmax] at h <;> first | (cases h; done) | skip
    rename_i k a k' b
    split at h
    · rename_i hk; subst hk
      simp only [R] at hx hy; subst hx; subst hy
      simp only [List.foldlM_cons, Sem.run_bind]
      obtain ⟨u', h1, h2, h3⟩ := aminmax_sound (P := P) (w := w) (v := .int k (if mx then (if b > a then b else a) else (if b < a then b else a))) h (by simp only [R]) hr
      refine ⟨u', ?_, h2, ?_⟩
      · cases mx
        · simp only [Bool.false_eq_true, if_false, Builtin.min2, Sem.run_pure, Result.andThen_ok] at h1 ⊢
          exact h1
        · simp only [if_true, Builtin.max2, Sem.run_pure, Result.andThen_ok] at h1 ⊢
          exact h1
      · rcases h3 with rfl | h3
        · exact Or.inr rfl
        · exact Or.inr h3
    · cases h

end Go.Proofs.YtdbdmnhnijpdcaaDoorW.AI

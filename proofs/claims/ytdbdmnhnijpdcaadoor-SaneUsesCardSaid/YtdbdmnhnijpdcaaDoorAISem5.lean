import Derived.Test.YtdbdmnhnijpdcaaDoorAISem4
import Derived.Laws.StructEq
/-! Operations: two operands; equality. -/
namespace Go.Proofs.YtdbdmnhnijpdcaaDoorW.AI
open Go
set_option linter.unusedVariables false
set_option linter.unusedSimpArgs false

def flatF (P : Program) (g : Nat → Option (List Nat)) : List Field → Nat → Option (List Nat)
  | [], _ => some []
  | f :: fs, off => if f.name ≠ "_" ∧ f.offset = off then (g f.type).bind fun sh => if (P.info? f.type).map (·.size) = some sh.length then (flatF P g fs (off + sh.length)).map (sh ++ ·) else none else none

def flatL (P : Program) : Nat → Nat → Option (List Nat)
  | 0, _ => none
  | d + 1, t => match P.underlying t with
    | some (.int _) => some [0]
    | some .bool => some [1]
    | some .string => some [2]
    | some (.struct fs) => if P.stoodInHeld t then none else flatF P (flatL P d) fs.toList 0
    | _ => none

theorem scEqs_append : ∀ {s1 s2 : List Nat} {xs ys : List AV} {r : Bool}, scEqs (s1 ++ s2) xs ys = some r →
    ∃ r1 r2, scEqs s1 (xs.take s1.length) (ys.take s1.length) = some r1 ∧ scEqs s2 (xs.drop s1.length) (ys.drop s1.length) = some r2 ∧ r = (r1 && r2)
  | [], s2, xs, ys, r, h => ⟨true, r, by simp [scEqs], by simpa using h, by simp⟩
  | c :: s1, s2, xs, ys, r, h => by
    cases xs <;> cases ys <;> simp only [List.cons_append, scEqs] at h <;> first | (cases h; done) | skip
    rename_i x xs y ys
    simp only [Option.bind_eq_some_iff, Option.map_eq_some_iff] at h
    obtain ⟨b, h1, r', h2, rfl⟩ := h
    obtain ⟨r1, r2, g1, g2, rfl⟩ := scEqs_append h2
    refine ⟨b && r1, r2, ?_, by simpa using g2, by rw [Bool.and_assoc]⟩
    simp only [List.length_cons, List.take_succ_cons, scEqs, h1, Option.bind_some, g1, Option.map_some]

theorem scEq_run {P : Program} {w : World} {ρ : Env} {c : Nat} {x y : AV} {u v : Value} {r : Bool} (h : scEq c x y = some r) (hx : R ρ x u) (hy : R ρ y v) {t D : Nat}
    (ht : (c = 0 ∧ ∃ k, P.underlying t = some (.int k)) ∨ (c = 1 ∧ P.underlying t = some .bool) ∨ (c = 2 ∧ P.underlying t = some .string)) : (Op.equalIn (D + 1) t u v).run P w = .ok r w := by
  unfold scEq at h
  split at h
  · split at h
    · rename_i hk; subst hk
      simp only [Option.some.injEq] at h; subst h
      simp only [R] at hx hy; subst hx; subst hy
      rcases ht with ⟨_, k, ht⟩ | ⟨h1, _⟩ | ⟨h1, _⟩
      · exact run_equalIn_int w D t _ k _ _ ht
      · cases h1
      · cases h1
    · cases h
  · simp only [Option.some.injEq] at h; subst h
    simp only [R] at hx hy; subst hx; subst hy
    rcases ht with ⟨h1, _⟩ | ⟨_, ht⟩ | ⟨h1, _⟩
    · cases h1
    · exact run_equalIn_bool' w D t _ _ ht
    · cases h1
  · simp only [Option.some.injEq] at h; subst h
    simp only [R] at hx hy; subst hx; subst hy
    rcases ht with ⟨h1, _⟩ | ⟨h1, _⟩ | ⟨_, ht⟩
    · cases h1
    · cases h1
    · exact run_equalIn_string w D t _ _ ht
  · cases h

theorem scEqs_length : ∀ {sh : List Nat} {xs ys : List AV} {r : Bool}, scEqs sh xs ys = some r → xs.length = sh.length ∧ ys.length = sh.length
  | [], xs, ys, r, h => by cases xs <;> cases ys <;> simp [scEqs] at h ⊢
  | c :: sh, xs, ys, r, h => by
    cases xs <;> cases ys <;> simp only [scEqs] at h <;> first | (cases h; done) | skip
    simp only [Option.bind_eq_some_iff, Option.map_eq_some_iff] at h
    obtain ⟨b, _, r', h2, _⟩ := h
    obtain ⟨e1, e2⟩ := scEqs_length h2
    simp [e1, e2]

/-- Of a type that is no struct: one cell. -/
theorem flatL_leaf {P : Program} {d t : Nat} {sh : List Nat} (h : flatL P (d + 1) t = some sh) (hn : ∀ fs, P.underlying t ≠ some (.struct fs)) :
    ∃ c, sh = [c] ∧ ((c = 0 ∧ ∃ k, P.underlying t = some (.int k)) ∨ (c = 1 ∧ P.underlying t = some .bool) ∨ (c = 2 ∧ P.underlying t = some .string)) := by
  unfold flatL at h
  split at h <;> rename_i hu
  · simp only [Option.some.injEq] at h; exact ⟨0, h.symm, Or.inl ⟨rfl, _, hu⟩⟩
  · simp only [Option.some.injEq] at h; exact ⟨1, h.symm, Or.inr (Or.inl ⟨rfl, hu⟩)⟩
  · simp only [Option.some.injEq] at h; exact ⟨2, h.symm, Or.inr (Or.inr ⟨rfl, hu⟩)⟩
  · exact absurd hu (hn _)
  · cases h

theorem flat_eq {X : Ctx} {w : World} {ρ : Env} : ∀ (d D t : Nat) (sh : List Nat), d ≤ D → flatL X.P d t = some sh → (fs : Array Field) → X.P.underlying t = some (.struct fs) → ∀ (xs ys : List AV) (us vs : Array Value) (r : Bool),
    Rs ρ xs us.toList → Rs ρ ys vs.toList → scEqs sh xs ys = some r → (Op.equalIn D t (.agg us) (.agg vs)).run X.P w = .ok r w := by
  intro d
  induction d with
  | zero => intro D t sh _ h; simp [flatL] at h
  | succ d ih =>
    intro D t sh hd h fs hu xs ys us vs r hx hy hr
    obtain ⟨D, rfl⟩ : ∃ m, D = m + 1 := ⟨D - 1, by omega⟩
    simp only [flatL, hu] at h
    split at h
    · cases h
    rename_i hp
    have hf : X.P.fieldsOf t = fs := by simp [Program.fieldsOf, hu]
    rw [run_equalIn_struct (P := X.P) w D t us vs (by rw [hf]; exact hu) (by simpa using hp), hf]
    -- field by field
    have key : ∀ (l : List Field) (off : Nat) (sh : List Nat) (r : Bool), flatF X.P (flatL X.P d) l off = some sh → scEqs sh (xs.drop off) (ys.drop off) = some r → (Op.eqFields D us vs l).run X.P w = .ok r w := by
      intro l
      induction l with
      | nil =>
        intro off sh r h hr
        simp only [flatF, Option.some.injEq] at h; subst h
        have : r = true := by
          generalize xs.drop off = p at hr
          generalize ys.drop off = q at hr
          cases p <;> cases q <;> simp [scEqs] at hr
          exact hr.symm ▸ rfl
        subst this
        rfl
      | cons f l ihl =>
        intro off sh r h hr
        simp only [flatF] at h
        split at h
        case isFalse => cases h
        rename_i hf
        obtain ⟨hname, hoff⟩ := hf
        simp only [Option.bind_eq_some_iff] at h
        obtain ⟨s1, h1, h⟩ := h
        split at h
        case isFalse => cases h
        rename_i hsz
        simp only [Option.map_eq_some_iff] at h
        obtain ⟨s2, h2, rfl⟩ := h
        obtain ⟨r1, r2, g1, g2, rfl⟩ := scEqs_append hr
        rw [List.drop_drop] at g2
        have g2' := ihl (off + s1.length) s2 r2 h2 (by rw [List.drop_drop] at g2; exact g2)
        -- this field
        have one : ∃ p q, (part f.type us f.offset).run X.P w = .ok p w ∧ (part f.type vs f.offset).run X.P w = .ok q w ∧ (Op.equalIn D f.type p q).run X.P w = .ok r1 w := by
          obtain ⟨e1, e2⟩ := scEqs_length g1
          rw [hoff]
          cases d with
          | zero => simp [flatL] at h1
          | succ d =>
            by_cases hst : ∃ gs, X.P.underlying f.type = some (.struct gs)
            · obtain ⟨gs, hst⟩ := hst
              have ha : aggIs X f.type true = true := by simp [aggIs, hst]
              refine ⟨.agg (us.extract off (off + s1.length)), .agg (vs.extract off (off + s1.length)), ?_, ?_, ?_⟩
              · simp [part, run_isAgg ha, run_sizeOf' hsz]
              · simp [part, run_isAgg ha, run_sizeOf' hsz]
              · refine ih D f.type s1 (by omega) h1 gs hst _ _ _ _ r1 ?_ ?_ g1
                · have := Rs_take s1.length (Rs_drop off hx)
                  simpa [List.take_drop, Nat.add_comm] using this
                · have := Rs_take s1.length (Rs_drop off hy)
                  simpa [List.take_drop, Nat.add_comm] using this
            · obtain ⟨c, rfl, hc⟩ := flatL_leaf h1 (fun gs hg => hst ⟨gs, hg⟩)
              have ha : aggIs X f.type false = true := by
                rcases hc with ⟨_, k, hc⟩ | ⟨_, hc⟩ | ⟨_, hc⟩ <;> simp [aggIs, hc]
              obtain ⟨D, rfl⟩ : ∃ m, D = m + 1 := ⟨D - 1, by omega⟩
              simp only [List.length_cons, List.length_nil, Nat.zero_add] at g1 e1 e2
              have hxo : ∃ x, xs[off]? = some x ∧ (xs.drop off).take 1 = [x] := by
                have : off < xs.length := by simp at e1; omega
                exact ⟨xs[off], List.getElem?_eq_getElem this, by rw [List.take_one, List.head?_drop, List.getElem?_eq_getElem this]; rfl⟩
              have hyo : ∃ x, ys[off]? = some x ∧ (ys.drop off).take 1 = [x] := by
                have : off < ys.length := by simp at e2; omega
                exact ⟨ys[off], List.getElem?_eq_getElem this, by rw [List.take_one, List.head?_drop, List.getElem?_eq_getElem this]; rfl⟩
              obtain ⟨x, hx1, hx2⟩ := hxo
              obtain ⟨y, hy1, hy2⟩ := hyo
              rw [hx2, hy2] at g1
              simp only [scEqs, Option.map_some, Option.bind_eq_some_iff, Option.some.injEq, Bool.and_true] at g1
              obtain ⟨b, g1, rfl⟩ := g1
              obtain ⟨u, hu1, hu2⟩ := Rs_get hx hx1
              obtain ⟨v, hv1, hv2⟩ := Rs_get hy hy1
              have hu1 : us[off]? = some u := by simpa using hu1
              have hv1 : vs[off]? = some v := by simpa using hv1
              exact ⟨u, v, by simp [part, run_isAgg ha, hu1], by simp [part, run_isAgg ha, hv1], scEq_run g1 hu2 hv2 hc⟩
        obtain ⟨p, q, o1, o2, o3⟩ := one
        rw [Op.eqFields, if_pos hname]
        simp only [Sem.run_bind, o1, o2, o3, Result.andThen_ok]
        cases r1
        · simp
        · simpa using g2'
    exact key fs.toList 0 sh r h (by simpa using hr)

def eqTy (X : Ctx) (t : Nat) : List Nat → Bool
  | [] => true
  | [1] => match X.P.underlying t with | some .bool => true | _ => false
  | [2] => match X.P.underlying t with | some (.pointer _) => true | _ => false
  | [3] => match X.P.underlying t with | some (.slice _) => true | _ => false
  | [4] => match X.P.underlying t with | some (.func _ _ _) => true | _ => false
  | 5 :: sh => decide (flatL X.P 8 t = some sh) && (match X.P.underlying t with | some (.struct _) => true | _ => false) && !X.P.eqGuardType X.P.depth t
  | _ => false


theorem nilOf_sound {ρ : Env} {x : AV} {b : Bool} {v : Value} (h : nilOf x = some b) (hs : isSlice x = true) (hr : R ρ x v) : ∃ a n c, v = .slice a n c ∧ a.isNone = b ∧ (b = true → n = 0 ∧ c = 0) := by
  cases x <;> simp only [isSlice, Bool.false_eq_true] at hs <;> simp only [nilOf] at h
  · simp only [Option.some.injEq] at h; subst h; simp only [R] at hr; exact ⟨_, _, _, hr, rfl, fun _ => ⟨rfl, rfl⟩⟩
  · simp only [Option.some.injEq] at h; subst h; simp only [R] at hr; obtain ⟨q, e, _⟩ := hr; exact ⟨_, _, _, e, rfl, fun h => by cases h⟩
  · rename_i b' off n e mn
    simp only [R] at hr
    split at h
    · cases h
    rename_i hc
    simp only [Option.some.injEq] at h; subst h
    rcases hr with ⟨q, c, e, _⟩ | ⟨h1, h2, e⟩
    · exact ⟨_, _, _, e, rfl, fun h => by cases h⟩
    · exact absurd (by simp [h1, h2]) hc

def plainV : Value → Bool
  | .bool _ => true
  | .pointer _ => true
  | .slice _ _ _ => true
  | .func _ _ _ => true
  | .nilFunc => true
  | .agg _ => true
  | _ => false

theorem binOp_eql {u v : Value} (h : plainV u = true) (t : TypeId) : binOp .eql t u v = (do pure (.bool (← Op.equal t u v))) := by
  cases u <;> simp only [plainV, Bool.false_eq_true] at h <;> cases v <;> rfl

theorem binOp_neq {u v : Value} (h : plainV u = true) (t : TypeId) : binOp .neq t u v = (do pure (.bool (!(← Op.equal t u v)))) := by
  cases u <;> simp only [plainV, Bool.false_eq_true] at h <;> cases v <;> rfl

section
variable {P : Program} (w : World) (D : Nat) {t : TypeId}
theorem eq_ptr_nil {a : Option Addr} {e : TypeId} (hu : P.underlying t = some (.pointer e)) : (Op.equalIn (D + 1) t (.pointer none) (.pointer a)).run P w = .ok a.isNone w := by
  simp [Op.equalIn, run_underlying hu]
theorem eq_ptr_some {a : Addr} {e : TypeId} (hu : P.underlying t = some (.pointer e)) : (Op.equalIn (D + 1) t (.pointer (some a)) (.pointer none)).run P w = .ok false w := by
  simp [Op.equalIn, run_underlying hu]
theorem eq_sl_nil {a : Option Addr} {n c : Nat} {e : TypeId} (hu : P.underlying t = some (.slice e)) : (Op.equalIn (D + 1) t (.slice none 0 0) (.slice a n c)).run P w = .ok a.isNone w := by
  simp [Op.equalIn, run_underlying hu]
theorem eq_sl_some {a : Option Addr} {n c : Nat} {e : TypeId} (hu : P.underlying t = some (.slice e)) : (Op.equalIn (D + 1) t (.slice a n c) (.slice none 0 0)).run P w = .ok a.isNone w := by
  cases a <;> simp [Op.equalIn, run_underlying hu]
theorem eq_fn_nil {ps rs : Array TypeId} {v : Bool} (hu : P.underlying t = some (.func ps rs v)) : (Op.equalIn (D + 1) t .nilFunc .nilFunc).run P w = .ok true w := by
  simp [Op.equalIn, run_underlying hu]
theorem eq_fn_l {ps rs : Array TypeId} {v : Bool} {f : Fn} {x y : Array Value} (hu : P.underlying t = some (.func ps rs v)) : (Op.equalIn (D + 1) t .nilFunc (.func f x y)).run P w = .ok false w := by
  simp [Op.equalIn, run_underlying hu]
theorem eq_fn_r {ps rs : Array TypeId} {v : Bool} {f : Fn} {x y : Array Value} (hu : P.underlying t = some (.func ps rs v)) : (Op.equalIn (D + 1) t (.func f x y) .nilFunc).run P w = .ok false w := by
  simp [Op.equalIn, run_underlying hu]
end

theorem aeq_sound {X : Ctx} {w : World} {ρ : Env} {e : List Nat} {x y : AV} {b : Bool} (h : aeq e x y = some b) {t : Nat} (ht : eqTy X t e = true) {u v : Value} (hx : R ρ x u) (hy : R ρ y v) :
    (Op.equal t u v).run X.P w = .ok b w ∧ (∀ op p q, (eqGuard op t p q u v).run X.P w = .ok () w) ∧ plainV u = true := by
  unfold Op.equal Op.maxDepth
  unfold aeq at h
  split at h
  · simp only [Option.some.injEq] at h; subst h
    simp only [R] at hx hy; subst hx; subst hy
    simp only [eqTy] at ht
    split at ht <;> rename_i hu
    · exact ⟨run_equalIn_bool' w 9999 t _ _ hu, fun op p q => by cases op <;> rfl, rfl⟩
    · cases ht
  · simp only [Option.some.injEq] at h; subst h
    simp only [R] at hx hy; subst hx; subst hy
    simp only [eqTy] at ht
    split at ht <;> rename_i hu
    · exact ⟨eq_ptr_nil w 9999 hu, fun op p q => by cases op <;> rfl, rfl⟩
    · cases ht
  · simp only [Option.some.injEq] at h; subst h
    simp only [R] at hx hy; subst hx; subst hy
    simp only [eqTy] at ht
    split at ht <;> rename_i hu
    · exact ⟨eq_ptr_nil w 9999 hu, fun op p q => by cases op <;> rfl, rfl⟩
    · cases ht
  · simp only [Option.some.injEq] at h; subst h
    simp only [R] at hx hy; subst hx; subst hy
    simp only [eqTy] at ht
    split at ht <;> rename_i hu
    · exact ⟨eq_ptr_some w 9999 hu, fun op p q => by cases op <;> rfl, rfl⟩
    · cases ht
  · split at h
    · rename_i hs
      simp only [R] at hx; subst hx
      obtain ⟨a, n, c, e1, e2, e3⟩ := nilOf_sound h hs hy
      subst e1; subst e2
      simp only [eqTy] at ht
      split at ht <;> rename_i hu
      · exact ⟨eq_sl_nil w 9999 hu, fun op p q => by cases op <;> rfl, rfl⟩
      · cases ht
    · cases h
  · split at h
    · rename_i hs
      simp only [R] at hy; subst hy
      obtain ⟨a, n, c, e1, e2, e3⟩ := nilOf_sound h hs hx
      subst e1; subst e2
      simp only [eqTy] at ht
      split at ht <;> rename_i hu
      · exact ⟨eq_sl_some w 9999 hu, fun op p q => by cases op <;> rfl, rfl⟩
      · cases ht
    · cases h
  · simp only [Option.some.injEq] at h; subst h
    simp only [R] at hx hy; subst hx; subst hy
    simp only [eqTy] at ht
    split at ht <;> rename_i hu
    · exact ⟨eq_fn_nil w 9999 hu, fun op p q => by cases op <;> rfl, rfl⟩
    · cases ht
  · simp only [Option.some.injEq] at h; subst h
    simp only [R] at hx hy; subst hx
    obtain ⟨vs, rfl, _⟩ := hy
    simp only [eqTy] at ht
    split at ht <;> rename_i hu
    · exact ⟨eq_fn_l w 9999 hu, fun op p q => by cases op <;> rfl, rfl⟩
    · cases ht
  · simp only [Option.some.injEq] at h; subst h
    simp only [R] at hx hy; subst hy
    obtain ⟨vs, rfl, _⟩ := hx
    simp only [eqTy] at ht
    split at ht <;> rename_i hu
    · exact ⟨eq_fn_r w 9999 hu, fun op p q => by cases op <;> rfl, rfl⟩
    · cases ht
  · rename_i sh xs ys
    simp only [R] at hx hy
    obtain ⟨us, rfl, hx⟩ := hx
    obtain ⟨vs, rfl, hy⟩ := hy
    have ht' : (decide (flatL X.P 8 t = some sh) && (match X.P.underlying t with | some (.struct _) => true | _ => false) && !X.P.eqGuardType X.P.depth t) = true := by
      unfold eqTy at ht
      split at ht <;> first | (rename_i e; injection e with e1 e2; subst e2; exact ht) | (rename_i e; injection e; done) | simp_all
    simp only [Bool.and_eq_true, decide_eq_true_eq, Bool.not_eq_true'] at ht'
    obtain ⟨⟨h1, h2⟩, h3⟩ := ht'
    split at h2 <;> rename_i hu
    · exact ⟨flat_eq 8 10000 t sh (by omega) h1 _ hu xs ys us vs b hx hy h, fun op p q => run_eqGuard_agg w op t p q us vs h3, rfl⟩
    · cases h2
  · cases h

section
variable {X : Ctx} {B : Nat} {ρg : Env} {gl : AHeap} {ρ : Env} {h h' : AHeap} {w : World} {nt : Nat} {a : Acts} {A : Act} {v : AV} {o : Oper}

theorem aeq_lt {e : List Nat} {x y : AV} {op : BinOp} {r : AV} : (match op with | .eql => (aeq e x y).map .bool | .neq => (aeq e x y).map fun b => .bool !b | _ => none) = some r →
    ∃ b, aeq e x y = some b ∧ ((op = .eql ∧ r = .bool b) ∨ (op = .neq ∧ r = .bool (!b))) := by
  intro h
  cases op <;> simp only at h <;> first | (cases h; done) | skip
  · simp only [Option.map_eq_some_iff] at h; obtain ⟨b, h1, rfl⟩ := h; exact ⟨b, h1, Or.inl ⟨rfl, rfl⟩⟩
  · simp only [Option.map_eq_some_iff] at h; obtain ⟨b, h1, rfl⟩ := h; exact ⟨b, h1, Or.inr ⟨rfl, rfl⟩⟩

theorem abin_lt {op : BinOp} {e : List Nat} {x y r : AV} (h : abin op e x y = some r) : r.lt 0 = true := by
  unfold abin at h
  split at h
  · rename_i k a k' b
    cases op <;> simp only [abinInt] at h <;> (repeat' split at h) <;> first | (cases h; done) | (simp only [Option.some.injEq] at h; subst h; rfl)
  · rename_i s t
    cases op <;> simp only [abinStr] at h <;> (repeat' split at h) <;> first | (cases h; done) | (simp only [Option.some.injEq] at h; subst h; rfl)
  · obtain ⟨b, _, ⟨_, rfl⟩ | ⟨_, rfl⟩⟩ := aeq_lt h <;> rfl

theorem s_bin (hst : St B ρg gl X.gid ρ h w) (hG : gl.length = X.G) (ha : AR ρ h.length nt a A) {op : BinOp} {e : List Nat} {t t' : Nat} {p q : Operand} {x y : MX} (ho : o.op = .binOp op t p q t') (hc : chkX X p x = true) (hd : chkX X q y = true)
    (ht : eqTy X t e = true) {r : AV × AHeap × List Nat} {call : CallT} (hr : aop call (.bin op e x y) a h = some r) : Out X B ρg gl ρ h w A o r.1 r.2.1 := by
  simp only [aop, Option.bind_eq_some_iff, Option.map_eq_some_iff] at hr
  obtain ⟨xv, h0, yv, h1, v, h2, rfl⟩ := hr
  obtain ⟨e1, e2⟩ := aeval_sound ha (fun i hi => hst.pre i (by omega)) hc h0
  obtain ⟨f1, f2⟩ := aeval_sound ha (fun i hi => hst.pre i (by omega)) hd h1
  have hl := AV.lt_mono (Nat.zero_le h.length) _ (abin_lt h2)
  have hex : (execOp A.eval o).run X.P w = ((eqGuard op t p q (A.eval p) (A.eval q)).run X.P w).andThen fun _ w => ((binOp op t (A.eval p) (A.eval q)).run X.P w).andThen fun v w => .ok (.value v) w := by
    simp [execOp, ho]
  unfold abin at h2
  split at h2
  · simp only [R] at e2 f2
    obtain ⟨u, g1, g2⟩ := abinInt_sound h2 X.P w t
    refine out_value hst (x := u) ?_ hl (g2 ρ)
    rw [hex, e2, f2]
    have : ∀ k n z, (eqGuard op t p q (.int k n) z).run X.P w = .ok () w := by intro k n z; cases op <;> rfl
    simp only [this, Result.andThen_ok, g1]
  · simp only [R] at e2 f2
    obtain ⟨u, g1, g2⟩ := abinStr_sound h2 X.P w t
    refine out_value hst (x := u) ?_ hl (g2 ρ)
    rw [hex, e2, f2]
    have : ∀ n z, (eqGuard op t p q (.string n) z).run X.P w = .ok () w := by intro n z; cases op <;> rfl
    simp only [this, Result.andThen_ok, g1]
  · rename_i n1 n2
    obtain ⟨b, h3, h4⟩ := aeq_lt h2
    obtain ⟨g1, g2, g3⟩ := aeq_sound (w := w) h3 ht e2 f2
    refine out_value hst (x := (if op = .neq then .bool (!b) else .bool b)) ?_ hl ?_
    · rw [hex, g2]
      simp only [Result.andThen_ok]
      rcases h4 with ⟨rfl, rfl⟩ | ⟨rfl, rfl⟩
      · rw [binOp_eql g3]; simp [g1]
      · rw [binOp_neq g3]; simp [g1]
    · rcases h4 with ⟨rfl, rfl⟩ | ⟨rfl, rfl⟩ <;> simp [R]

end
end Go.Proofs.YtdbdmnhnijpdcaaDoorW.AI

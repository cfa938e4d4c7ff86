import Derived.Test.YtdbdmnhnijpdcaaDoorAISem5
/-! Operations: addresses, cuts, new values. -/
namespace Go.Proofs.YtdbdmnhnijpdcaaDoorW.AI
open Go
set_option linter.unusedVariables false
set_option linter.unusedSimpArgs false

section
variable {X : Ctx} {B : Nat} {ρg : Env} {gl : AHeap} {ρ : Env} {h h' : AHeap} {w : World} {nt : Nat} {a : Acts} {A : Act} {v : AV} {o : Oper}

theorem s_ia (hst : St B ρg gl X.gid ρ h w) (hG : gl.length = X.G) (ha : AR ρ h.length nt a A) {t e esz : Nat} {arr : Option Nat} {p q : Operand} {x y : MX} (ho : o.op = .indexAddr t p q) (hc : chkX X p x = true) (hd : chkX X q y = true)
    (hs : (match arr with | some n => X.P.underlying t = some (.array n e) | none => X.P.underlying t = some (.slice e))) (he : szIs X e esz = true) {r : AV × AHeap × List Nat} {call : CallT}
    (hr : aop call (.ia arr esz x y) a h = some r) : Out X B ρg gl ρ h w A o r.1 r.2.1 := by
  simp only [aop, Option.bind_eq_some_iff] at hr
  obtain ⟨xv, h0, iv, h1, i, h2, hr⟩ := hr
  obtain ⟨e1, e2⟩ := aeval_sound ha (fun i hi => hst.pre i (by omega)) hc h0
  obtain ⟨f1, f2⟩ := aeval_sound ha (fun i hi => hst.pre i (by omega)) hd h1
  obtain ⟨k, m, g1, g2, g3⟩ := asN_sound h2 f2
  have hsz : (sizeOf e).run X.P w = .ok esz w := run_sizeOf' (by simpa [szIs] using he)
  split at hr
  · split at hr
    · rename_i len b off hi
      simp only [Option.some.injEq] at hr; subst hr
      simp only [R] at e2
      refine out_value hst (x := .pointer (some (ρ.addr b (off + i * esz)))) ?_ e1 rfl
      have hi' : 0 ≤ m ∧ m < (len : Int) := by omega
      simp only at hs
      simp [execOp, ho, Instr.indexAt, g1, asIntOf, run_underlying hs, e2, Instr.sureAddr, hi', hsz, g3, Env.addr_add]
    · cases hr
  · split at hr
    · rename_i b off n c hi
      simp only [Option.some.injEq] at hr; subst hr
      simp only [R] at e2
      obtain ⟨q', e3, e4, e5⟩ := e2
      have hq := e4 (by omega)
      refine out_value hst (x := .pointer (some (ρ.addr b (off + i * esz)))) ?_ e1 rfl
      have hi' : 0 ≤ m ∧ m < (n : Int) := by omega
      simp only at hs
      subst hq
      simp [execOp, ho, Instr.indexAt, g1, asIntOf, run_underlying hs, e3, hi', hsz, g3, addr_add, Env.addr, Nat.add_assoc]
    · cases hr
  · split at hr
    · rename_i b off n e' mn hi
      simp only [Option.some.injEq] at hr; subst hr
      simp only [R] at e2
      rcases e2 with ⟨q', c, e3, e4, e5⟩ | ⟨_, e3, _⟩
      · have hq := (e5 (by omega)).1
        refine out_value hst (x := .pointer (some (ρ.addr b (off + i * esz)))) ?_ e1 rfl
        have hi' : 0 ≤ m ∧ m < (n : Int) := by omega
        simp only at hs
        subst hq
        simp [execOp, ho, Instr.indexAt, g1, asIntOf, run_underlying hs, e3, hi', hsz, g3, addr_add, Env.addr, Nat.add_assoc]
      · omega
    · cases hr
  · cases hr

def chkO (X : Ctx) : Option Operand → Option MX → Bool
  | none, none => true
  | some o, some x => chkX X o x
  | _, _ => false

def IsN (A : Act) (p : Option Operand) : Option Nat → Prop
  | none => p = none
  | some n => ∃ q k m, p = some q ∧ A.eval q = .int k m ∧ 0 ≤ m ∧ m.toNat = n

theorem optN_sound (hst : St B ρg gl X.gid ρ h w) (hG : gl.length = X.G) (ha : AR ρ h.length nt a A) {p : Option Operand} {x : Option MX} (hc : chkO X p x = true) {n : Option Nat} (hn : optN a x = some n) : IsN A p n := by
  cases x with
  | none => simp only [optN, Option.some.injEq] at hn; subst hn; cases p <;> simp [chkO, IsN] at hc ⊢
  | some x =>
    cases p with
    | none => simp [chkO] at hc
    | some p =>
      simp only [chkO] at hc
      simp only [optN, Option.bind_eq_some_iff, Option.map_eq_some_iff] at hn
      obtain ⟨v, h1, m, h2, rfl⟩ := hn
      obtain ⟨e1, e2⟩ := aeval_sound ha (fun i hi => hst.pre i (by omega)) hc h1
      obtain ⟨k, z, g1, g2, g3⟩ := asN_sound h2 e2
      exact ⟨p, k, z, rfl, g1, g2, g3⟩

theorem run_sliceBound {P : Program} {w : World} {k : IntKind} {m : Int} {y n : Nat} {c : BoundsCode} (h0 : 0 ≤ m) (hn : m.toNat = n) (hy : n ≤ y) : (Instr.sliceBound (.int k m) y c).run P w = .ok n w := by
  have : 0 ≤ m ∧ m ≤ (y : Int) := by omega
  simp [Instr.sliceBound, asIntOf, this, hn]

theorem bounds_some {len cap : Nat} {lo hi : Option Nat} {l u : Nat} (h : bounds len cap lo hi = some (l, u)) : u = hi.getD len ∧ l = lo.getD 0 ∧ u ≤ cap ∧ l ≤ u := by
  simp only [bounds] at h
  split at h
  · rename_i hc
    simp only [Option.some.injEq, Prod.mk.injEq] at h
    obtain ⟨rfl, rfl⟩ := h
    exact ⟨rfl, rfl, hc.1, hc.2⟩
  · cases h

/-- The three bounds of a cut, as the machine finds them. -/
theorem run_bounds {P : Program} {w : World} {A : Act} {isS : Bool} {len cap : Nat} {plo phi pmx : Option Operand} {lo hi mx : Option Nat} {l u : Nat}
    (hlo : IsN A plo lo)
    (hhi : IsN A phi hi)
    (hmx : IsN A pmx mx)
    (hm : mx.getD cap ≤ cap) (hx : mx.isSome = true → hi.isSome = true) (hu : u = hi.getD len) (hl : l = lo.getD 0) (h1 : u ≤ mx.getD cap) (h2 : l ≤ u) :
    (Instr.sliceBounds isS len cap (plo.map A.eval) (phi.map A.eval) (pmx.map A.eval)).run P w = .ok (l, u, mx.getD cap) w := by
  cases lo <;> cases hi <;> cases mx <;> simp only [IsN] at hlo hhi hmx <;> simp only [Option.isSome_some, Option.isSome_none, Bool.false_eq_true, imp_false, not_true, true_implies] at hx <;> simp only [Option.getD_some, Option.getD_none] at * <;> subst hu <;> subst hl
  · subst hlo; subst hhi; subst hmx; simp [Instr.sliceBounds]
  · subst hlo; subst hmx
    obtain ⟨q, k, m, rfl, e1, e2, e3⟩ := hhi
    simp [Instr.sliceBounds, e1, run_sliceBound e2 e3 h1]
  · subst hlo
    obtain ⟨q, k, m, rfl, e1, e2, e3⟩ := hhi
    obtain ⟨q', k', m', rfl, f1, f2, f3⟩ := hmx
    simp [Instr.sliceBounds, e1, f1, run_sliceBound f2 f3 hm, run_sliceBound e2 e3 h1]
  · subst hhi; subst hmx
    obtain ⟨q, k, m, rfl, e1, e2, e3⟩ := hlo
    simp [Instr.sliceBounds, e1, run_sliceBound e2 e3 h2]
  · subst hmx
    obtain ⟨q, k, m, rfl, e1, e2, e3⟩ := hlo
    obtain ⟨q', k', m', rfl, f1, f2, f3⟩ := hhi
    simp [Instr.sliceBounds, e1, f1, run_sliceBound e2 e3 h2, run_sliceBound f2 f3 h1]
  · obtain ⟨q, k, m, rfl, e1, e2, e3⟩ := hlo
    obtain ⟨q', k', m', rfl, f1, f2, f3⟩ := hhi
    obtain ⟨q2, k2, m2, rfl, g1, g2, g3⟩ := hmx
    simp [Instr.sliceBounds, e1, f1, g1, run_sliceBound e2 e3 h2, run_sliceBound f2 f3 h1, run_sliceBound g2 g3 hm]

theorem addr_add' (a : Addr) (ha : a.spot = none) (n : Nat) : a.add n = ⟨a.block, a.off + n, none⟩ := by
  cases a; simp only at ha; subst ha; exact addr_add _ _ _

theorem s_slc (hst : St B ρg gl X.gid ρ h w) (hG : gl.length = X.G) (ha : AR ρ h.length nt a A) {t e esz : Nat} {arr : Option Nat} {p : Operand} {x : MX} {plo phi pmx : Option Operand} {lo hi mx : Option MX} (ho : o.op = .slice t p plo phi pmx) (hc : chkX X p x = true)
    (hlo : chkO X plo lo = true) (hhi : chkO X phi hi = true) (hmx : chkO X pmx mx = true) (hx : mx.isSome = true → hi.isSome = true)
    (hs : (match arr with | some n => X.P.underlying t = some (.array n e) | none => X.P.underlying t = some (.slice e))) (he : szIs X e esz = true) {r : AV × AHeap × List Nat} {call : CallT}
    (hr : aop call (.slc arr esz x lo hi mx) a h = some r) : Out X B ρg gl ρ h w A o r.1 r.2.1 := by
  simp only [aop, Option.bind_eq_some_iff] at hr
  obtain ⟨xv, h0, nlo, h1, nhi, h2, nmx, h3, hr⟩ := hr
  obtain ⟨e1, e2⟩ := aeval_sound ha (fun i hi => hst.pre i (by omega)) hc h0
  have slo := optN_sound hst hG ha hlo h1
  have shi := optN_sound hst hG ha hhi h2
  have smx := optN_sound hst hG ha hmx h3
  have hx' : nmx.isSome = true → nhi.isSome = true := by
    intro hm
    cases mx with
    | none => simp only [optN, Option.some.injEq] at h3; subst h3; simp at hm
    | some mx =>
      have := hx rfl
      cases hi with
      | none => simp at this
      | some hi => simp only [optN, Option.bind_eq_some_iff, Option.map_eq_some_iff] at h2; obtain ⟨_, _, _, _, rfl⟩ := h2; rfl
  have hsz : (sizeOf e).run X.P w = .ok esz w := run_sizeOf' (by simpa [szIs] using he)
  split at hr
  · -- an array
    rename_i len b off
    simp only at hs
    have : ∃ l u, (match nmx with | none => bounds len len nlo nhi | some m => if m ≤ len then bounds len m nlo nhi else none) = some (l, u) ∧ r = (.sl b (off + l * esz) (u - l) (nmx.getD len - l), h, []) := by
      simp only [Option.map_eq_some_iff] at hr
      obtain ⟨⟨l, u⟩, q1, q2⟩ := hr
      exact ⟨l, u, q1, q2.symm⟩
    obtain ⟨l, u, hb, rfl⟩ := this
    have hbb : nmx.getD len ≤ len ∧ u = nhi.getD len ∧ l = nlo.getD 0 ∧ u ≤ nmx.getD len ∧ l ≤ u := by
      cases nmx with
      | none => simp only at hb; have := bounds_some hb; simp only [Option.getD_none]; omega
      | some m => simp only at hb; split at hb
                  · have := bounds_some hb; simp only [Option.getD_some]; omega
                  · cases hb
    obtain ⟨q1, q2, q3, q4, q5⟩ := hbb
    have hrun := run_bounds (P := X.P) (w := w) (isS := false) (len := len) (cap := len) slo shi smx q1 hx' q2 q3 q4 q5
    simp only [R] at e2
    refine out_value hst (x := .slice (some (if nmx.getD len = l then ρ.addr b off else ρ.addr b (off + l * esz))) (u - l) (nmx.getD len - l)) ?_ e1 ?_
    · simp [execOp, ho, Instr.sliceAt, run_underlying hs, e2, Instr.sureAddr, hrun, hsz, Env.addr_add]
    · simp only [R]
      by_cases hml : nmx.getD len = l
      · rw [if_pos hml]
        exact ⟨_, rfl, fun hne => by omega, by omega⟩
      · rw [if_neg hml]
        exact ⟨_, rfl, fun _ => rfl, by omega⟩
  · -- nil
    simp only at hs
    simp only [Option.bind_eq_some_iff] at hr
    obtain ⟨⟨l, u⟩, hb, hr⟩ := hr
    obtain ⟨q1, q2, q3, q4⟩ := bounds_some hb
    have hm0 : nmx.getD 0 = 0 ∧ r = (.nils, h, []) := by
      cases nmx with
      | none => simp only [Option.some.injEq] at hr; exact ⟨rfl, hr.symm⟩
      | some m =>
        simp only at hr
        split at hr
        · rename_i hm; simp only [Option.some.injEq] at hr; exact ⟨by simpa using hm, hr.symm⟩
        · cases hr
    obtain ⟨hm0, rfl⟩ := hm0
    have hrun := run_bounds (P := X.P) (w := w) (isS := true) (len := 0) (cap := 0) slo shi smx (by omega) hx' q1 q2 (by omega) q4
    simp only [R] at e2
    have hl0 : l = 0 := by omega
    have hu0 : u = 0 := by omega
    subst hl0; subst hu0
    refine out_value hst (x := .slice none 0 0) ?_ rfl rfl
    simp [execOp, ho, Instr.sliceAt, Instr.slice, run_underlying hs, e2, hrun, hsz, hm0]
  · -- a slice whose capacity is known
    rename_i b off n c
    simp only at hs
    have : ∃ l u, (match nmx with | none => bounds n c nlo nhi | some m => if m ≤ c then bounds n m nlo nhi else none) = some (l, u) ∧ r = (.sl b (off + l * esz) (u - l) (nmx.getD c - l), h, []) := by
      simp only [Option.map_eq_some_iff] at hr
      obtain ⟨⟨l, u⟩, q1, q2⟩ := hr
      exact ⟨l, u, q1, q2.symm⟩
    obtain ⟨l, u, hb, rfl⟩ := this
    simp only [R] at e2
    obtain ⟨q', e3, e4, e5⟩ := e2
    have hbb : nmx.getD c ≤ c ∧ u = nhi.getD n ∧ l = nlo.getD 0 ∧ u ≤ nmx.getD c ∧ l ≤ u := by
      cases nmx with
      | none => simp only at hb; have := bounds_some hb; simp only [Option.getD_none]; omega
      | some m => simp only at hb; split at hb
                  · have := bounds_some hb; simp only [Option.getD_some]; omega
                  · cases hb
    obtain ⟨q1, q2, q3, q4, q5⟩ := hbb
    have hrun := run_bounds (P := X.P) (w := w) (isS := true) (len := n) (cap := c) slo shi smx q1 hx' q2 q3 q4 q5
    refine out_value hst (x := .slice (some (if nmx.getD c = l then q' else q'.add (l * esz))) (u - l) (nmx.getD c - l)) ?_ e1 ?_
    · simp only [execOp, ho, Instr.sliceAt, Instr.slice, Sem.run_bind, run_underlying hs, Result.andThen_ok, e3, hrun, hsz, Sem.run_pure, Option.map_some]
      split <;> rfl
    · simp only [R]
      by_cases hml : nmx.getD c = l
      · rw [if_pos hml]
        exact ⟨_, rfl, fun hne => by omega, by omega⟩
      · rw [if_neg hml]
        exact ⟨_, rfl, fun _ => by rw [e4 (by omega), addr_add, Nat.add_assoc], by omega⟩
  · -- a slice that grew
    rename_i b off n e' mn
    simp only at hs
    split at hr
    case isFalse => cases hr
    rename_i he'; subst he'
    simp only [R] at e2
    split at hr
    · simp only [Option.map_eq_some_iff] at hr
      obtain ⟨⟨l, u⟩, hb, rfl⟩ := hr
      obtain ⟨q2, q3, q4, q5⟩ := bounds_some hb
      rcases e2 with ⟨q', c, e3, e4, e5⟩ | ⟨e3, e4, e5⟩
      · have hrun := run_bounds (P := X.P) (w := w) (isS := true) (len := n) (cap := c) (mx := none) slo shi smx (Nat.le_refl _) hx' q2 q3 (by simp only [Option.getD_none]; omega) q5
        simp only [Option.getD_none] at hrun
        refine out_value hst (x := .slice (some (if c = l then ⟨ρ.blk b, q', none⟩ else ⟨ρ.blk b, q' + l * e', none⟩)) (u - l) (c - l)) ?_ e1 ?_
        · simp only [execOp, ho, Instr.sliceAt, Instr.slice, Sem.run_bind, run_underlying hs, Result.andThen_ok, e3, hrun, hsz, Sem.run_pure, Option.map_some, addr_add]
          split <;> rfl
        · simp only [R]
          refine Or.inl ?_
          by_cases hml : c = l
          · rw [if_pos hml]
            exact ⟨_, _, rfl, by omega, fun hne => by omega⟩
          · rw [if_neg hml]
            refine ⟨_, _, rfl, by omega, fun hne => ?_⟩
            obtain ⟨g1, g2⟩ := e5 (by omega)
            refine ⟨by rw [g1, Nat.add_assoc], ?_⟩
            have : (c - l) * e' + l * e' = c * e' := by rw [← Nat.add_mul]; congr 1; omega
            omega
      · have hrun := run_bounds (P := X.P) (w := w) (isS := true) (len := n) (cap := 0) (mx := none) slo shi smx (Nat.le_refl _) hx' q2 q3 (by simp only [Option.getD_none]; omega) q5
        simp only [Option.getD_none] at hrun
        have hl0 : l = 0 := by omega
        have hu0 : u = 0 := by omega
        subst e4; subst hl0; subst hu0
        refine out_value hst (x := .slice none 0 0) ?_ e1 ?_
        · simp only [execOp, ho, Instr.sliceAt, Instr.slice, Sem.run_bind, run_underlying hs, Result.andThen_ok, e5, hrun, hsz, Sem.run_pure, Option.map_none, if_true]
        · simp [R, e3]
    · split at hr
      case isFalse => cases hr
      rename_i m hm
      simp only [Option.map_eq_some_iff] at hr
      obtain ⟨⟨l, u⟩, hb, rfl⟩ := hr
      obtain ⟨q2, q3, q4, q5⟩ := bounds_some hb
      rcases e2 with ⟨q', c, e3, e4, e5⟩ | ⟨e3, e4, e5⟩
      · have hrun := run_bounds (P := X.P) (w := w) (isS := true) (len := n) (cap := c) (mx := some m) slo shi smx (by simp only [Option.getD_some]; omega) hx' q2 q3 (by simp only [Option.getD_some]; omega) q5
        simp only [Option.getD_some] at hrun
        refine out_value hst (x := .slice (some (if m = l then ⟨ρ.blk b, q', none⟩ else ⟨ρ.blk b, q' + l * e', none⟩)) (u - l) (m - l)) ?_ e1 ?_
        · simp only [execOp, ho, Instr.sliceAt, Instr.slice, Sem.run_bind, run_underlying hs, Result.andThen_ok, e3, hrun, hsz, Sem.run_pure, Option.map_some, addr_add]
          split <;> rfl
        · simp only [R]
          by_cases hml : m = l
          · rw [if_pos hml]
            exact ⟨_, rfl, fun hne => by omega, by omega⟩
          · rw [if_neg hml]
            exact ⟨_, rfl, fun _ => by rw [(e5 (by omega)).1, Nat.add_assoc], by omega⟩
      · rw [e3] at hm; simp at hm
  · cases hr

theorem s_slstr (hst : St B ρg gl X.gid ρ h w) (hG : gl.length = X.G) (ha : AR ρ h.length nt a A) {t : Nat} {p : Operand} {x : MX} {plo phi : Option Operand} {lo hi : Option MX} (ho : o.op = .slice t p plo phi none) (hc : chkX X p x = true)
    (hlo : chkO X plo lo = true) (hhi : chkO X phi hi = true) (hs : X.P.underlying t = some .string) {r : AV × AHeap × List Nat} {call : CallT}
    (hr : aop call (.slstr x lo hi) a h = some r) : Out X B ρg gl ρ h w A o r.1 r.2.1 := by
  simp only [aop, Option.bind_eq_some_iff] at hr
  obtain ⟨xv, h0, nlo, h1, nhi, h2, hr⟩ := hr
  obtain ⟨e1, e2⟩ := aeval_sound ha (fun i hi => hst.pre i (by omega)) hc h0
  have slo := optN_sound hst hG ha hlo h1
  have shi := optN_sound hst hG ha hhi h2
  split at hr
  · rename_i s
    simp only [Option.map_eq_some_iff] at hr
    obtain ⟨⟨l, u⟩, hb, rfl⟩ := hr
    obtain ⟨q2, q3, q4, q5⟩ := bounds_some hb
    have hrun := run_bounds (P := X.P) (w := w) (isS := false) (len := s.size) (cap := s.size) (mx := none) (pmx := none) slo shi rfl (Nat.le_refl _) (by simp) q2 q3 q4 q5
    simp only [R] at e2
    refine out_value hst (x := .string (s.extract l u)) ?_ rfl rfl
    simp only [Option.map_none] at hrun
    simp [execOp, ho, Instr.sliceAt, Instr.slice, run_underlying hs, e2, hrun]
  · cases hr

-- ------------------------------------------------------------------ new blocks

/-- Whether cells are those of a value. -/
def chkC (c : ACells) (v : Value) : Bool := chkVs c.list v.cells.toList && c.list.all AV.isCell

theorem chkC_lt {c : ACells} {v : Value} (h : chkC c v = true) {n : Nat} : c.lt n = true := by
  simp only [chkC, Bool.and_eq_true, List.all_eq_true] at h
  exact ACells.lt_mono (Nat.zero_le _) (ACells.lt_list.2 fun x hx => ⟨AV.lts_iff.1 (chkVs_lt _ _ h.1) x hx, h.2 x hx⟩)

theorem s_new (hst : St B ρg gl X.gid ρ h w) {c : ACells} {arr : Array Value} {T : TypeId} (hlt : c.lt h.length = true) (hr : Rs ρ c.list arr.toList) {w' : World} (hw : w' = World.alloc w (.cells arr T)) {v : AV} {x : Value}
    (hv : R (ρ.upd h.length w.heap.size 0 arr.size) v x) (hvl : v.lt (h.length + 1) = true) : Post X B ρg gl ρ h w v (h ++ [.new c]) x w' := by
  subst hw
  have hlen := Rs_length hr
  obtain ⟨r1, r2⟩ := hst.rep.alloc hst.le (T := T) (fz := (0, 0)) (arr := arr) hlt (fun q _ hq => by simp at hq) (by rw [ACells.len_list, hlen]; simp) (fun j v hj => by
    rw [ACells.get_list] at hj
    obtain ⟨y, h1, h2⟩ := Rs_get hr hj
    exact ⟨y, by simpa using h1, h2⟩)
  exact post_mem hst (Env.upd_agree _ _ _ _ _) hv (by simpa using hvl) r1 r2 (by simp)

theorem upd_ptr (ρ : Env) (n b s : Nat) : R (ρ.upd n b 0 s) (.ptr n 0) (.pointer (some ⟨b, 0, none⟩)) := by
  simp [R, Env.addr, Env.upd]

theorem s_al (hst : St B ρg gl X.gid ρ h w) {t : Nat} {z : ACells} {zv : Value} (ho : o.op = .alloc t) (hz : (X.P.info? t).bind (·.zero) = some zv) (hc : chkC z zv = true) {r : AV × AHeap × List Nat} {call : CallT}
    (hr : aop call (.al z) a h = some r) : Out X B ρg gl ρ h w A o r.1 r.2.1 := by
  simp only [aop, Option.some.injEq] at hr; subst hr
  simp only [chkC, Bool.and_eq_true] at hc
  rw [Option.bind_eq_some_iff] at hz
  obtain ⟨i, hi, hz⟩ := hz
  refine ⟨_, .pointer (some ⟨w.heap.size, 0, none⟩), World.alloc w (.cells zv.cells t), ?_, Or.inl rfl, s_new hst (chkC_lt (by simpa [chkC] using hc)) (chkVs_R ρ _ _ hc.1) rfl (upd_ptr _ _ _ _) (by simp [AV.lt])⟩
  simp [execOp, ho, Instr.alloc, zeroValue, run_typeInfo' hi, hz, newVar, newRow]

theorem toInts_list {k : IntKind} : ∀ {l : List AV} {m : List Int}, toInts k l = some m → l = m.map (AV.int k)
  | [], m, h => by simp only [toInts, Option.some.injEq] at h; subst h; rfl
  | x :: l, m, h => by
    cases x <;> simp only [toInts] at h <;> first | (cases h; done) | skip
    split at h
    · rename_i hk; subst hk
      simp only [Option.map_eq_some_iff] at h
      obtain ⟨m', h1, rfl⟩ := h
      rw [toInts_list h1]; rfl
    · cases h

theorem mkCells_list {ik : Option IntKind} {l : List AV} {c : ACells} (h : mkCells ik l = some c) : c.list = l ∧ ∀ v ∈ l, v.isCell = true := by
  cases ik with
  | some k =>
    simp only [mkCells, Option.map_eq_some_iff] at h
    obtain ⟨m, h1, rfl⟩ := h
    have := toInts_list h1
    subst this
    exact ⟨rfl, fun v hv => by obtain ⟨n, _, rfl⟩ := List.mem_map.1 hv; rfl⟩
  | none =>
    simp only [mkCells] at h
    split at h
    · rename_i hc
      simp only [Option.some.injEq] at h; subst h
      exact ⟨rfl, by simpa using hc⟩
    · cases h

theorem cells_lt {n : Nat} {x : AV} (h : x.lt n = true) : ∀ u ∈ x.cells, u.lt n = true := by
  intro u hu
  cases x with
  | agg cs => exact AV.lts_iff.1 (show AV.lts n cs = true from by simpa [AV.lt] using h) u hu
  | _ => simp only [AV.cells, List.mem_singleton] at hu; subst hu; exact h

theorem s_bx (hst : St B ρg gl X.gid ρ h w) (hG : gl.length = X.G) (ha : AR ρ h.length nt a A) {t n : Nat} {ik : Option IntKind} {p : Operand} {x : MX} (ho : o.op = .box t p) (hc : chkX X p x = true) {r : AV × AHeap × List Nat} {call : CallT}
    (hr : aop call (.bx ik n x) a h = some r) : Out X B ρg gl ρ h w A o r.1 r.2.1 := by
  simp only [aop, Option.bind_eq_some_iff] at hr
  obtain ⟨xv, h0, c, h1, hr⟩ := hr
  obtain ⟨e1, e2⟩ := aeval_sound ha (fun i hi => hst.pre i (by omega)) hc h0
  split at hr
  case isFalse => cases hr
  simp only [Option.some.injEq] at hr; subst hr
  obtain ⟨f1, f2⟩ := mkCells_list h1
  have hcs := R_cells e2 f2
  rw [← f1] at hcs
  refine ⟨_, .pointer (some ⟨w.heap.size, 0, none⟩), World.alloc w (.cells (A.eval p).cells t), ?_, Or.inl rfl, s_new hst (ACells.lt_list.2 (by rw [f1]; exact fun x hx => ⟨cells_lt e1 x hx, f2 x hx⟩)) hcs rfl (upd_ptr _ _ _ _) (by simp [AV.lt])⟩
  simp [execOp, ho, Instr.box, newVar, newRow]

end
end Go.Proofs.YtdbdmnhnijpdcaaDoorW.AI

import Derived.Test.YtdpbbagllhfjbaaDoorAISem15
import Derived.LoopN
import Derived.Scope
/-! Code; functions; calls. -/
namespace Go.Proofs.YtdpbbagllhfjbaaDoorW.AI
open Go
set_option linter.unusedVariables false
set_option linter.unusedSimpArgs false

section
variable (X : Ctx) (nt : Nat)

def chkCode : Code → MCode → Bool
  | .skip, .skip => true
  | .region _ ops false, .reg ms => chkOpers X nt ops ops.toList ms
  | .region _ ops true, .regd E un => chkDrawn X nt ops E un
  | .seq x y, .seq x' y' => chkCode x x' && chkCode y y'
  | .cond c x y, .cond c' x' y' => chkX X c c' && chkCode x x' && chkCode y y'
  | .block id b, .block id' _ b' => id == id' && chkCode b b'
  | .loop b, .loop _ b' => chkCode b b'
  | .exit i, .exit j => i == j
  | .ret, .ret => true
  | .label _, .skip => true
  | .goto l, .goto l' => l == l'
  | .scope b, .scope _ l1 r1 l2 r2 b' => chkCode b b' && (match findLabel b l1 with | some c => chkCode c r1 | none => false) && (match findLabel b l2 with | some c => chkCode c r2 | none => false)
  | _, _ => false

def chkRes : List ResultVar → List MRes → Bool
  | [], [] => true
  | .tmp t :: rs, .tmp t' :: ms => t == t' && chkRes rs ms
  | .cell a t :: rs, .cell a' agg :: ms => a == a' && chkAgg X t agg && chkRes rs ms
  | _, _ => false

def chkFunc (f : Nat) (m : MFunc) : Bool :=
  match X.P.funcs[f]? with
  | some fn => (match fn.body with | some c => chkCode X fn.ntmps c m.body | none => false) && !(fn.name == "runtime.NumGoroutine") && chkRes X fn.results.toList m.res
  | none => false
end

def toExit : AExit → Exit
  | .normal => .normal
  | .exit id => .exit id
  | .ret => .ret
  | .goto l => .goto l

section
variable {X : Ctx} {B : Nat} {ρg : Env} {gl : AHeap} {nt : Nat} {call : CallT}

theorem Reach.from {ρ ρ' : Env} {h h' h'' : AHeap} {w w' w'' : World} {a : Acts} {A : Act} (ag : Agree h.length ρ ρ') (fr : Fr ρ h w ρ' h' w') (hle : h.length ≤ h'.length) (r : Reach X B ρg gl nt ρ' h' w' a h'' A w'') : Reach X B ρg gl nt ρ h w a h'' A w'' := by
  obtain ⟨ρ'', ag', ha, hst, fr', hle'⟩ := r
  exact ⟨ρ'', ag.trans ag' hle, ha, hst, fr.trans fr', Nat.le_trans hle hle'⟩

theorem Reach.keep {ρ : Env} {h h' : AHeap} {w w' : World} {a : Acts} {A : Act} (keep : List Nat) (r : Reach X B ρg gl nt ρ h w a h' A w') : Reach X B ρg gl nt ρ h w (keepA keep a) h' A w' := by
  obtain ⟨ρ'', ag', ha, hst, fr', hle'⟩ := r
  exact ⟨ρ'', ag', ha.keep keep, hst, fr', hle'⟩

/-- Where jumps within a scope may lead. -/
def JQ (P : Program) (c : Code) (Q : Exit → Act → World → Prop) : Nat → Exit → Act → World → Prop
  | 0, .goto _, _, _ => False
  | n + 1, .goto l, a, w => ∃ rest, findLabel c l = some rest ∧ rest.wp P (JQ P c Q n) a w
  | _, e, a, w => Q e a w

theorem wp_scope_jq {P : Program} {c : Code} {Q : Exit → Act → World → Prop} {a : Act} {w : World} (n : Nat) (h : c.wp P (JQ P c Q n) a w) : (Code.scope c).wp P Q a w := by
  intro b k cs
  have key : ∀ n (x : Code) a w, x.wp P (JQ P c Q n) a w → ∃ e a' w', Q e a' w' ∧ Arrives P (lone (b.at a (.code x :: .inScope c :: k)) cs w) b k cs e a' w' := by
    intro n
    induction n with
    | zero =>
      intro x a w h
      obtain ⟨e, a₁, w₁, hq, harr⟩ := h b (.inScope c :: k) cs
      cases e with
      | normal => exact ⟨.normal, a₁, w₁, hq, Steps.trans harr (.one step_inScope)⟩
      | exit id => exact ⟨.exit id, a₁, w₁, hq, fun k' hk => harr k' (by simp [exitTo, hk])⟩
      | goto l => exact hq.elim
      | ret => exact ⟨_, a₁, w₁, hq, harr⟩
      | panic ch => exact ⟨_, a₁, w₁, hq, harr⟩
      | outgrown => exact ⟨_, a₁, w₁, hq, harr⟩
    | succ n ih =>
      intro x a w h
      obtain ⟨e, a₁, w₁, hq, harr⟩ := h b (.inScope c :: k) cs
      cases e with
      | normal => exact ⟨.normal, a₁, w₁, hq, Steps.trans harr (.one step_inScope)⟩
      | exit id => exact ⟨.exit id, a₁, w₁, hq, fun k' hk => harr k' (by simp [exitTo, hk])⟩
      | goto l =>
        obtain ⟨rest, hf, hr⟩ := hq
        have hg : gotoIn l (.inScope c :: k) = some (.code rest :: .inScope c :: k) := by simp [gotoIn, hf]
        obtain ⟨e₂, a₂, w₂, hq₂, harr₂⟩ := ih rest a₁ w₁ hr
        exact ⟨e₂, a₂, w₂, hq₂, .of_steps (harr _ hg) harr₂⟩
      | ret => exact ⟨_, a₁, w₁, hq, harr⟩
      | panic ch => exact ⟨_, a₁, w₁, hq, harr⟩
      | outgrown => exact ⟨_, a₁, w₁, hq, harr⟩
  obtain ⟨e, a₁, w₁, hq, harr⟩ := key n c a w h
  exact ⟨e, a₁, w₁, hq, .of_steps (.one step_scope) harr⟩

/-- Code. -/
theorem code_wp (hm : X.P.follows .mixedOrders = true) (hG : gl.length = X.G) (hcall : CallOk X B ρg gl call) (hsc : SteadyCall call) {base n : Nat} : ∀ {m : MCode} {c : Code}, chkCode X nt c m = true → ∀ {a : Acts} {h : AHeap} {ws : List Nat} {r : AOut}, aexec call base n m a h ws = some r →
    ∀ {ρ : Env} {w : World} {A : Act}, St B ρg gl X.gid ρ h w → AR ρ h.length nt a A → ∀ {Q : Exit → Act → World → Prop}, (∀ A' w', Reach X B ρg gl nt ρ h w r.2.1 r.2.2.1 A' w' → Q (toExit r.1) A' w') → c.wp X.P Q A w
  | .skip, c, hc, a, h, ws, r, hr, ρ, w, A, hst, ha, Q, hQ => by
    unfold chkCode at hc
    split at hc <;> first | (cases hc; done) | skip
    all_goals (rename_i he; first | (cases he; done) | skip)
    all_goals simp only [aexec, Option.some.injEq] at hr; subst hr
    · exact wp_skip (hQ A w (Reach.refl hst ha))
    · exact wp_label (hQ A w (Reach.refl hst ha))
  | .reg ms, c, hc, a, h, ws, r, hr, ρ, w, A, hst, ha, Q, hQ => by
    unfold chkCode at hc
    split at hc <;> first | (cases hc; done) | skip
    all_goals (rename_i he; first | (cases he; done) | skip)
    cases he
    simp only [aexec, Option.map_eq_some_iff] at hr
    obtain ⟨r1, h1, rfl⟩ := hr
    refine wp_region ?_
    have := opers_wp hG hcall (i := 0) hc (by simp) hst ha h1 hQ
    simpa [List.range_eq_range'] using this
  | .regd E un, c, hc, a, h, ws, r, hr, ρ, w, A, hst, ha, Q, hQ => by
    unfold chkCode at hc
    split at hc <;> first | (cases hc; done) | skip
    all_goals (rename_i he; first | (cases he; done) | skip)
    cases he
    simp only [aexec, Option.bind_eq_some_iff] at hr
    obtain ⟨r1, h1, hr⟩ := hr
    split at hr
    case isFalse => cases hr
    rename_i hu
    cases hr
    exact drawn_wp hm hG hcall hsc hc h1 hu hst ha hQ
  | .seq x' y', c, hc, a, h, ws, r, hr, ρ, w, A, hst, ha, Q, hQ => by
    unfold chkCode at hc
    split at hc <;> first | (cases hc; done) | skip
    all_goals (rename_i he; first | (cases he; done) | skip)
    cases he
    simp only [Bool.and_eq_true] at hc
    simp only [aexec, Option.bind_eq_some_iff] at hr
    obtain ⟨⟨e, a1, hh1, ws1⟩, h1, hr⟩ := hr
    refine wp_seq (code_wp hm hG hcall hsc hc.1 h1 hst ha ?_)
    intro A' w' hR
    cases e
    · obtain ⟨ρ', ag, ha', hst', fr, hle⟩ := hR
      exact code_wp hm hG hcall hsc hc.2 hr hst' ha' (fun A'' w'' hR' => hQ A'' w'' (hR'.from ag fr hle))
    · cases hr; exact hQ A' w' hR
    · cases hr; exact hQ A' w' hR
    · cases hr; exact hQ A' w' hR
  | .cond c' x' y', c, hc, a, h, ws, r, hr, ρ, w, A, hst, ha, Q, hQ => by
    unfold chkCode at hc
    split at hc <;> first | (cases hc; done) | skip
    all_goals (rename_i he; first | (cases he; done) | skip)
    cases he
    simp only [Bool.and_eq_true] at hc
    simp only [aexec, Option.bind_eq_some_iff] at hr
    obtain ⟨v, h1, hr⟩ := hr
    obtain ⟨_, e2⟩ := aeval_sound ha (fun i hi => hst.pre i (by omega)) hc.1.1 h1
    split at hr
    · simp only [R] at e2
      exact wp_cond_true e2 (code_wp hm hG hcall hsc hc.1.2 hr hst ha hQ)
    · simp only [R] at e2
      exact wp_cond_false e2 (code_wp hm hG hcall hsc hc.2 hr hst ha hQ)
    · cases hr
  | .block id keep b', c, hc, a, h, ws, r, hr, ρ, w, A, hst, ha, Q, hQ => by
    unfold chkCode at hc
    split at hc <;> first | (cases hc; done) | skip
    all_goals (rename_i he; first | (cases he; done) | skip)
    cases he
    simp only [Bool.and_eq_true, beq_iff_eq] at hc
    obtain ⟨rfl, hc⟩ := hc
    simp only [aexec, Option.bind_eq_some_iff] at hr
    obtain ⟨⟨e, a1, hh1, ws1⟩, h1, hr⟩ := hr
    refine wp_block (code_wp hm hG hcall hsc hc h1 hst ha ?_)
    intro A' w' hR
    cases e
    · cases hr
      exact hQ A' w' (hR.keep keep)
    · simp only at hr
      split at hr
      · rename_i hid
        cases hr
        simp only [toExit, Exit.inBlock, if_pos hid]
        exact hQ A' w' (hR.keep keep)
      · rename_i hid
        cases hr
        simp only [toExit, Exit.inBlock, if_neg hid]
        exact hQ A' w' hR
    · cases hr; exact hQ A' w' hR
    · cases hr; exact hQ A' w' hR
  | .loop keep b', c, hc, a, h, ws, r, hr, ρ, w, A, hst, ha, Q, hQ => by
    unfold chkCode at hc
    split at hc <;> first | (cases hc; done) | skip
    all_goals (rename_i he; first | (cases he; done) | skip)
    cases he
    rename_i b
    simp only [aexec] at hr
    have key : ∀ k a h ws ρ w A, St B ρg gl X.gid ρ h w → AR ρ h.length nt a A → iter (aexec call base n b') keep k a h ws = some r → (∀ A' w', Reach X B ρg gl nt ρ h w r.2.1 r.2.2.1 A' w' → Q (toExit r.1) A' w') → Code.rounds X.P b Q k A w := by
      intro k
      induction k with
      | zero => intro a h ws ρ w A _ _ hr _; cases hr
      | succ k ih =>
        intro a h ws ρ w A hst ha hr hQ
        simp only [iter, Option.bind_eq_some_iff] at hr
        obtain ⟨⟨e, a1, hh1, ws1⟩, h1, hr⟩ := hr
        rw [rounds_succ]
        refine code_wp hm hG hcall hsc hc h1 hst (ha.keep keep) ?_
        intro A' w' hR
        cases e
        · obtain ⟨ρ', ag, ha', hst', fr, hle⟩ := hR
          exact ih _ _ _ ρ' w' A' hst' ha' hr (fun A'' w'' hR' => hQ A'' w'' (hR'.from ag fr hle))
        · cases hr; exact hQ A' w' hR
        · cases hr; exact hQ A' w' hR
        · cases hr; exact hQ A' w' hR
    exact wp_loop_rounds n (key n a h ws ρ w A hst ha hr hQ)
  | .exit id, c, hc, a, h, ws, r, hr, ρ, w, A, hst, ha, Q, hQ => by
    unfold chkCode at hc
    split at hc <;> first | (cases hc; done) | skip
    all_goals (rename_i he; first | (cases he; done) | skip)
    cases he
    simp only [beq_iff_eq] at hc; subst hc
    simp only [aexec, Option.some.injEq] at hr; subst hr
    exact wp_exit (hQ A w (Reach.refl hst ha))
  | .ret, c, hc, a, h, ws, r, hr, ρ, w, A, hst, ha, Q, hQ => by
    unfold chkCode at hc
    split at hc <;> first | (cases hc; done) | skip
    all_goals (rename_i he; first | (cases he; done) | skip)
    simp only [aexec, Option.some.injEq] at hr; subst hr
    exact wp_ret (hQ A w (Reach.refl hst ha))
  | .goto l, c, hc, a, h, ws, r, hr, ρ, w, A, hst, ha, Q, hQ => by
    unfold chkCode at hc
    split at hc <;> first | (cases hc; done) | skip
    all_goals (rename_i he; first | (cases he; done) | skip)
    cases he
    simp only [beq_iff_eq] at hc; subst hc
    simp only [aexec, Option.some.injEq] at hr; subst hr
    exact wp_goto (hQ A w (Reach.refl hst ha))
  | .scope keep l1 r1 l2 r2 b', c, hc, a, h, ws, r, hr, ρ, w, A, hst, ha, Q, hQ => by
    unfold chkCode at hc
    split at hc <;> first | (cases hc; done) | skip
    all_goals (rename_i he; first | (cases he; done) | skip)
    cases he
    rename_i b
    simp only [Bool.and_eq_true] at hc
    obtain ⟨⟨hc0, hc1⟩, hc2⟩ := hc
    split at hc1
    case h_2 => cases hc1
    rename_i c1 hl1
    split at hc2
    case h_2 => cases hc2
    rename_i c2 hl2
    simp only [aexec] at hr
    obtain ⟨w₀, hw₀⟩ : ∃ w₀, w₀ = w := ⟨_, rfl⟩
    have key : ∀ k (x : Code) (o : Option AOut) (A : Act) (w : World), (∀ r', o = some r' → ∀ Q' : Exit → Act → World → Prop, (∀ A' w', Reach X B ρg gl nt ρ h w₀ r'.2.1 r'.2.2.1 A' w' → Q' (toExit r'.1) A' w') → x.wp X.P Q' A w) →
        giter (aexec call base n r1) (aexec call base n r2) keep l1 l2 k o = some r → x.wp X.P (JQ X.P b Q k) A w := by
      intro k
      induction k with
      | zero => intro x o A w _ hr; cases hr
      | succ k ih =>
        intro x o A w ho hr
        simp only [giter, Option.bind_eq_some_iff] at hr
        obtain ⟨⟨e, a1, hh1, ws1⟩, h1, hr⟩ := hr
        refine ho _ h1 _ fun A' w' hR => ?_
        cases e
        · cases hr; exact hQ A' w' (hw₀ ▸ hR)
        · cases hr; exact hQ A' w' (hw₀ ▸ hR)
        · cases hr; exact hQ A' w' (hw₀ ▸ hR)
        · obtain ⟨ρ', ag, ha', hst', fr, hle⟩ := hR
          rename_i l
          simp only at hr
          split at hr
          · rename_i e1; subst e1
            exact ⟨c1, hl1, ih c1 _ A' w' (fun r' h2 Q' hQ' => code_wp hm hG hcall hsc hc1 h2 hst' (ha'.keep keep) fun A'' w'' hR' => hQ' A'' w'' (hR'.from ag fr hle)) hr⟩
          · split at hr
            · rename_i e2; subst e2
              exact ⟨c2, hl2, ih c2 _ A' w' (fun r' h2 Q' hQ' => code_wp hm hG hcall hsc hc2 h2 hst' (ha'.keep keep) fun A'' w'' hR' => hQ' A'' w'' (hR'.from ag fr hle)) hr⟩
            · cases hr
    subst hw₀
    exact wp_scope_jq n (key n b _ A _ (fun r' h2 Q' hQ' => code_wp hm hG hcall hsc hc0 h2 hst ha hQ') hr)

-- ------------------------------------------------------------------ results

theorem run_mapL {α β : Type} {f : α → Sem β} {P : Program} {w : World} : ∀ {as : List α} {us : List β}, us.length = as.length → (∀ (j : Nat) (a : α) (u : β), as[j]? = some a → us[j]? = some u → (f a).run P w = .ok u w) → (as.mapM f).run P w = .ok us w
  | [], us, hu, _ => by
    have : us = [] := List.eq_nil_of_length_eq_zero hu
    subst this; simp
  | a :: as, [], hu, _ => by simp at hu
  | a :: as, u :: us, hu, H => by
    rw [List.mapM_cons]
    simp only [Sem.run_bind]
    rw [H 0 a u rfl rfl]
    simp only [Result.andThen_ok]
    rw [run_mapL (us := us) (by simpa using hu) (fun j a' u' ha hv => H (j + 1) a' u' (by simpa using ha) (by simpa using hv))]
    simp

theorem run_mapM {α β : Type} {f : α → Sem β} {P : Program} {w : World} {as : Array α} {us : List β} (hu : us.length = as.size) (H : ∀ (j : Nat) (a : α) (u : β), as[j]? = some a → us[j]? = some u → (f a).run P w = .ok u w) :
    (as.mapM f).run P w = .ok us.toArray w := by
  rw [Array.mapM_eq_mapM_toList]
  have := run_mapL (f := f) (P := P) (w := w) (as := as.toList) (us := us) (by simpa using hu) (fun j a u ha hv => H j a u (by simpa using ha) hv)
  rw [map_eq_pure_bind]
  simp [this]

def resOne (tmps : Array Value) : ResultVar → Sem Value
  | .tmp t => pure (tmps.getD t undef)
  | .cell a t => do loadVar t (← asAddr (tmps.getD a undef))

theorem results_eq (fn : Func) (tmps : Array Value) : results fn tmps = (do
  let vs ← fn.results.mapM (resOne tmps)
  pure (if h : vs.size = 1 then vs[0] else .tuple vs)) := by
  unfold results
  congr 1

theorem resL_sound {ρ : Env} {h : AHeap} {w : World} {a : Acts} {A : Act} (hst : St B ρg gl X.gid ρ h w) (hG : gl.length = X.G) (ha : AR ρ h.length nt a A) : ∀ {rs : List ResultVar} {ms : List MRes} {vs : List AV}, chkRes X rs ms = true → aresL a h ms = some vs →
    ∃ us : List Value, us.length = rs.length ∧ Rs ρ vs us ∧ AV.lts h.length vs = true ∧ ∀ (j : Nat) (r : ResultVar) (u : Value), rs[j]? = some r → us[j]? = some u → (resOne A.tmps r).run X.P w = .ok u w
  | [], [], vs, _, hv => by
    simp only [aresL, Option.some.injEq] at hv; subst hv
    exact ⟨[], rfl, rfl, rfl, fun j r u hj => by simp at hj⟩
  | [], _ :: _, _, hc, _ => by simp [chkRes] at hc
  | r :: rs, [], _, hc, _ => by cases r <;> simp [chkRes] at hc
  | r :: rs, m :: ms, vs, hc, hv => by
    simp only [aresL, Option.bind_eq_some_iff, Option.map_eq_some_iff] at hv
    obtain ⟨v, h1, vs', h2, rfl⟩ := hv
    have one : ∃ u, R ρ v u ∧ v.lt h.length = true ∧ chkRes X rs ms = true ∧ (resOne A.tmps r).run X.P w = .ok u w := by
      cases r with
      | tmp t =>
        cases m with
        | cell => simp [chkRes] at hc
        | tmp t' =>
          simp only [chkRes, Bool.and_eq_true, beq_iff_eq] at hc
          obtain ⟨rfl, hc⟩ := hc
          obtain ⟨e1, e2⟩ := aeval_sound (o := .tmp t) (x := .t t) ha (fun i hi => hst.pre i (by omega)) (by simp [chkX]) h1
          exact ⟨_, e2, e1, hc, by simp [resOne, Act.eval]⟩
      | cell c t =>
        cases m with
        | tmp => simp [chkRes] at hc
        | cell c' agg =>
          simp only [chkRes, Bool.and_eq_true, beq_iff_eq] at hc
          obtain ⟨⟨rfl, hagg⟩, hc⟩ := hc
          simp only [ares1, Option.map_eq_some_iff] at h1
          obtain ⟨q, hq, rfl⟩ := h1
          simp only [aop, Option.bind_eq_some_iff] at hq
          obtain ⟨pv, hp, hq⟩ := hq
          obtain ⟨e1, e2⟩ := aeval_sound (o := .tmp c) (x := .t c) ha (fun i hi => hst.pre i (by omega)) (by simp [chkX]) hp
          split at hq
          case h_2 => cases hq
          simp only [Option.bind_eq_some_iff, Option.map_eq_some_iff] at hq
          obtain ⟨cc, hcc, v, hv, rfl⟩ := hq
          obtain ⟨blk, hb1, hb2, rfl⟩ := cellsAt_some hcc
          obtain ⟨u, f1, f2⟩ := run_loadVar_env (X := X) (hst.rep.lies _ blk hb1 hb2) hagg hv
          simp only [R, Act.eval] at e2
          refine ⟨u, f2, ?_, hc, ?_⟩
          · have wf := hst.rep.wf _ blk hb1 hb2
            cases agg with
            | none => exact ACells.get_lt wf hv
            | some n =>
              simp only [loadA, Option.map_eq_some_iff] at hv
              obtain ⟨vs, h1, rfl⟩ := hv
              obtain ⟨g1, g2⟩ := loadN_get h1
              simp only [AV.lt]
              refine AV.lts_iff.2 fun y hy => ?_
              obtain ⟨j, hj⟩ := List.mem_iff_getElem?.1 hy
              have hjl : j < n := by have := (List.getElem?_eq_some_iff.1 hj).1; omega
              exact ACells.get_lt wf ((g2 j hjl).symm.trans hj)
          · simp only [resOne, Sem.run_bind, e2, asAddr, Sem.run_pure, Result.andThen_ok, f1]
    obtain ⟨u, o1, o2, o3, o4⟩ := one
    obtain ⟨us, p1, p2, p3, p4⟩ := resL_sound hst hG ha o3 h2
    refine ⟨u :: us, by simp [p1], by simp only [Rs]; exact ⟨u, us, rfl, o1, p2⟩, by simp [AV.lts, o2, p3], fun j r' u' hr hu => ?_⟩
    cases j with
    | zero => simp only [List.getElem?_cons_zero, Option.some.injEq] at hr hu; subst hr; subst hu; exact o4
    | succ j => exact p4 j r' u' (by simpa using hr) (by simpa using hu)

theorem results_sound {ρ : Env} {h : AHeap} {w : World} {a : Acts} {A : Act} (hst : St B ρg gl X.gid ρ h w) (hG : gl.length = X.G) (ha : AR ρ h.length nt a A) {fn : Func} {ms : List MRes} {v : AV} (hc : chkRes X fn.results.toList ms = true) (hv : ares a h ms = some v) :
    ∃ u, (results fn A.tmps).run X.P w = .ok u w ∧ R ρ v u ∧ v.lt h.length = true := by
  simp only [ares, Option.map_eq_some_iff] at hv
  obtain ⟨vs, h1, rfl⟩ := hv
  obtain ⟨us, p1, p2, p3, p4⟩ := resL_sound hst hG ha hc h1
  have hrun : (results fn A.tmps).run X.P w = .ok (if h : us.toArray.size = 1 then us.toArray[0] else .tuple us.toArray) w := by
    rw [results_eq]
    simp only [Sem.run_bind]
    rw [run_mapM (us := us) (by simpa using p1) (fun j r u hj hu => p4 j r u (by simpa using hj) hu)]
    simp
  refine ⟨_, hrun, ?_, ?_⟩
  · have hl := Rs_length p2
    split
    · rename_i v
      simp only [Rs] at p2
      obtain ⟨u, us', rfl, q1, q2⟩ := p2
      subst q2
      simpa using q1
    · rename_i hne
      have : us.length ≠ 1 := by
        intro h1'
        rw [h1'] at hl
        obtain ⟨v, rfl⟩ := List.length_eq_one_iff.1 hl
        exact hne v rfl
      rw [dif_neg (by simpa using this)]
      simp only [R]
      exact ⟨us.toArray, rfl, by simpa using p2⟩
  · split
    · simpa [AV.lts] using p3
    · simpa [AV.lt] using p3

end
end Go.Proofs.YtdpbbagllhfjbaaDoorW.AI

import Derived.Test.YtdpbbagllhfjbaaDoorAISem10
/-! The checker of operations; any operation. -/
namespace Go.Proofs.YtdpbbagllhfjbaaDoorW.AI
open Go
set_option linter.unusedVariables false
set_option linter.unusedSimpArgs false

section
variable (X : Ctx)

def undIs (t : Nat) (k : TypeDesc → Bool) : Bool := match X.P.underlying t with | some d => k d | none => false
def zeroIs (t : Nat) (k : Value → Bool) : Bool := match (X.P.info? t).bind (·.zero) with | some v => k v | none => false

/-- The element of a slice or an array. -/
def chkElem (t : Nat) (arr : Option Nat) (k : Nat → Bool) : Bool :=
  match X.P.underlying t, arr with
  | some (.slice e), none => k e
  | some (.array n e), some m => decide (n = m) && k e
  | _, _ => false

def chkFld (t f : Nat) (k : Field → Bool) : Bool :=
  match X.P.underlying t with
  | some (.struct fs) => match fs[f]? with | some fd => k fd | none => false
  | _ => false

def chkCallee (f : Nat) : Bool :=
  match X.P.funcs[f]? with
  | some fn => !(fn.name == "runtime.NumGoroutine") && !fn.body.isNone
  | none => false

def chkBuild (t : Nat) : Bool :=
  match X.P.underlying t with
  | some (.struct fs) => fs.toList.all (fun f => ((X.P.info? f.type).map (·.size)).isSome)
  | some (.array _ e) => ((X.P.info? e).map (·.size)).isSome
  | _ => false

def chkLen (t : Nat) (arr : Option Nat) : Bool :=
  match X.P.underlying t, arr with
  | some (.slice _), none => true
  | some (.array n _), some m => decide (n = m)
  | some (.pointer e), some m => match X.P.underlying e with | some (.array n _) => decide (n = m) | _ => false
  | _, _ => false

def chkCall (c : Call) (m : MOp) : Bool :=
  match m, c with
  | .call f xs, ⟨.value (.func g), as, _⟩ => f == g && chkXs X as.toList xs
  | .calld x xs, ⟨.value y, as, _⟩ => chkX X y x && chkXs X as.toList xs
  | .lens x, ⟨.builtin .len, ⟨[p]⟩, ⟨[t]⟩⟩ => chkX X p x && undIs X t fun | .string => true | _ => false
  | .len arr x, ⟨.builtin .len, ⟨[p]⟩, ⟨[t]⟩⟩ => chkX X p x && chkLen X t arr
  | .mnx true xs, ⟨.builtin .max, as, _⟩ => chkXs X as.toList xs
  | .mnx false xs, ⟨.builtin .min, as, _⟩ => chkXs X as.toList xs
  | .app z bytes x y, ⟨.builtin .append, ⟨[p, q]⟩, ⟨[ts, tx]⟩⟩ => chkX X p x && chkX X q y && decide (0 < z.len) && chkElem X tx none (fun _ => true) && chkElem X ts none fun e =>
      szIs X e z.len && bytesIs X e bytes && zeroIs X e fun v => decide (v.cells.size = z.len)
  | .appz z bytes x y, ⟨.builtin .append, ⟨[p, q]⟩, ⟨[ts, tx]⟩⟩ => chkX X p x && chkX X q y && decide (0 < z.len) && decide (0 < bytes) && undIs X tx (fun | .int _ => true | _ => false) && chkElem X ts none fun e =>
      szIs X e z.len && bytesIs X e bytes && zeroIs X e fun v => chkC z v && decide (v.cells.size = z.len)
  | .cpy esz x y, ⟨.builtin .copy, ⟨[p, q]⟩, ⟨[ts, _]⟩⟩ => chkX X p x && chkX X q y && chkElem X ts none fun e => szIs X e esz
  | _, _ => false

def chkOp (op : Op) (m : MOp) : Bool :=
  match op, m with
  | _, .bad => true
  | .move p, .mv x => chkX X p x
  | .assign p, .mv x => chkX X p x
  | .pick c p q, .pick c' x y => chkX X c c' && chkX X p x && chkX X q y
  | .binOp op t p q _, .bin op' e x y => op == op' && chkX X p x && chkX X q y && eqTy X t e
  | .unOp op _ p, .un op' x => op == op' && chkX X p x
  | .convert s d p, .ci k x => chkX X p x && (X.P.underlying s).isSome && undIs X d fun | .int k' => decide (k' = k) | _ => false
  | .convert s d p, .cid x => chkX X p x && (X.P.underlying s).isSome && undIs X d fun | .string => true | _ => false
  | .convert s d p, .cstr x => chkX X p x && chkElem X s none (fun e => undIs X e fun | .int .u8 => true | _ => false) && undIs X d fun | .string => true | _ => false
  | .load t p, .ld agg x => chkX X p x && chkAgg X t agg
  | .store t p q, .st n x y => chkX X p x && chkX X q y && szIs X t n
  | .nilCheck p, .nc x => chkX X p x
  | .fieldAddr s p f, .fa off x => chkX X p x && chkFld X s f fun fd => decide (fd.offset = off) && match (X.P.info? fd.type).map (·.size) with | some n => decide (n ≠ 0) | none => false
  | .field s p f, .fld off agg x => chkX X p x && chkFld X s f fun fd => decide (fd.offset = off) && chkAgg X fd.type agg
  | .indexAddr t p q, .ia arr esz x y => chkX X p x && chkX X q y && chkElem X t arr fun e => szIs X e esz
  | .index t p q, .ixs x y => chkX X p x && chkX X q y && undIs X t fun | .string => true | _ => false
  | .index t p q, .ixa len esz agg x y => chkX X p x && chkX X q y && chkElem X t (some len) fun e => szIs X e esz && chkAgg X e agg
  | .slice t p lo hi mx, .slc arr esz x lo' hi' mx' => chkX X p x && chkO X lo lo' && chkO X hi hi' && chkO X mx mx' && (!mx'.isSome || hi'.isSome) && chkElem X t arr fun e => szIs X e esz
  | .slice t p lo hi none, .slstr x lo' hi' => chkX X p x && chkO X lo lo' && chkO X hi hi' && undIs X t fun | .string => true | _ => false
  | .alloc t, .al z => zeroIs X t fun v => chkC z v
  | .box t p, .bx _ _ x => chkX X p x
  | .build t ps, .bld z xs => zeroIs X t (fun v => chkVs z v.cells.toList) && chkParts X (placeOf X t) ps.toList xs && chkBuild X t
  | .buildSlice t len ps, .bsl z len' esz xs => decide (len = len') && decide (0 < esz) && decide (len * esz ≤ 16777216) && chkParts X (fun i => some (i * esz, esz)) ps.toList xs && chkElem X t none fun e => szIs X e esz && zeroIs X e fun v => chkC z v
  | .makeFunc (.func f) ⟨[]⟩ caps, .mf g xs => f == g && chkXs X caps.toList xs
  | .makeSlice t p q, .mks z bytes x y => chkX X p x && chkX X q y && chkElem X t none fun e => szIs X e z.list.length && decide (0 < z.list.length) && bytesIs X e bytes && zeroIs X e fun v => chkC z v
  | .extract p i, .ex j x => i == j && chkX X p x
  | .call c, m => chkCall X c m
  | _, _ => false
end

section
variable {X : Ctx} {B : Nat} {ρg : Env} {gl : AHeap} {ρ : Env} {h h' : AHeap} {w : World} {nt : Nat} {a : Acts} {A : Act} {v : AV} {o : Oper}

/-- A call that enters the function's text. -/
def CallsOk (X : Ctx) (B : Nat) (ρg : Env) (gl : AHeap) (f : Nat) (vs : List AV) (h : AHeap) (r : AV × AHeap × List Nat) : Prop :=
  chkCallee X f = true ∧
    ∀ (ρ : Env) (w : World) (xs : Array Value), St B ρg gl X.gid ρ h w → AV.lts h.length vs = true → Rs ρ vs xs.toList →
      Calls X.P f xs w fun e w' => ∃ x, e = .returned x ∧ Post X B ρg gl ρ h w r.1 r.2.1 x w'
/-- A call that is answered at once. -/
def RunsOk (X : Ctx) (B : Nat) (ρg : Env) (gl : AHeap) (f : Nat) (vs : List AV) (h : AHeap) (r : AV × AHeap × List Nat) : Prop :=
  ∀ (ρ : Env) (w : World) (xs : Array Value), St B ρg gl X.gid ρ h w → AV.lts h.length vs = true → Rs ρ vs xs.toList →
    ∃ x w', (callFunc f xs).run X.P w = .ok (.value x) w' ∧ Post X B ρg gl ρ h w r.1 r.2.1 x w'
/-- What is asked of the calls: the answer of the function's run. -/
def CallOk (X : Ctx) (B : Nat) (ρg : Env) (gl : AHeap) (call : CallT) : Prop :=
  ∀ (f : Nat) (vs : List AV) (h : AHeap) (r : AV × AHeap × List Nat), call f vs h = some r → CallsOk X B ρg gl f vs h r ∨ RunsOk X B ρg gl f vs h r

theorem undIs_elim {t : Nat} {k : TypeDesc → Bool} (h : undIs X t k = true) : ∃ d, X.P.underlying t = some d ∧ k d = true := by
  unfold undIs at h
  split at h
  · exact ⟨_, by assumption, h⟩
  · cases h

theorem zeroIs_elim {t : Nat} {k : Value → Bool} (h : zeroIs X t k = true) : ∃ v, (X.P.info? t).bind (·.zero) = some v ∧ k v = true := by
  unfold zeroIs at h
  split at h
  · exact ⟨_, by assumption, h⟩
  · cases h

theorem chkElem_elim {t : Nat} {arr : Option Nat} {k : Nat → Bool} (h : chkElem X t arr k = true) :
    ∃ e, (match arr with | some n => X.P.underlying t = some (.array n e) | none => X.P.underlying t = some (.slice e)) ∧ k e = true := by
  unfold chkElem at h
  split at h
  · exact ⟨_, by assumption, h⟩
  · simp only [Bool.and_eq_true, decide_eq_true_eq] at h
    obtain ⟨rfl, h⟩ := h
    exact ⟨_, by assumption, h⟩
  · cases h

theorem chkFld_elim {t f : Nat} {k : Field → Bool} (h : chkFld X t f k = true) : ∃ fs fd, X.P.underlying t = some (.struct fs) ∧ fs[f]? = some fd ∧ k fd = true := by
  unfold chkFld at h
  split at h
  · split at h
    · exact ⟨_, _, by assumption, by assumption, h⟩
    · cases h
  · cases h

theorem chkBuild_elim {t : Nat} (h : chkBuild X t = true) : (match X.P.underlying t with | some (.struct fs) => fs.toList.all (fun f => ((X.P.info? f.type).map (·.size)).isSome) | some (.array _ e) => ((X.P.info? e).map (·.size)).isSome | _ => false) = true := h

theorem chkLen_elim (t : Nat) (arr : Option Nat) : chkLen X t arr = true → (match arr with
      | some n => (∃ e, X.P.underlying t = some (.array n e)) ∨ (∃ e e', X.P.underlying t = some (.pointer e) ∧ X.P.underlying e = some (.array n e'))
      | none => ∃ e, X.P.underlying t = some (.slice e)) := by
  intro h
  unfold chkLen at h
  split at h
  · exact ⟨_, by assumption⟩
  · simp only [decide_eq_true_eq] at h
    subst h
    exact Or.inl ⟨_, by assumption⟩
  · split at h
    · simp only [decide_eq_true_eq] at h
      subst h
      exact Or.inr ⟨_, _, by assumption, by assumption⟩
    · cases h
  · cases h

/-- Any operation that is no call of a function. -/
theorem op_out (hst : St B ρg gl X.gid ρ h w) (hG : gl.length = X.G) (ha : AR ρ h.length nt a A) {m : MOp} (hm : ∀ c, o.op = .call c → ∀ f, c.callee ≠ .value f) (hc : chkOp X o.op m = true) {r : AV × AHeap × List Nat} {call : CallT}
    (hr : aop call m a h = some r) : Out X B ρg gl ρ h w A o r.1 r.2.1 := by
  generalize hop : o.op = op at hc
  unfold chkOp at hc
  split at hc
  case h_1 => simp [aop] at hr
  all_goals first
    | (cases hc; done)
    | skip
  · exact s_move hst hG ha (Or.inl hop) hc hr
  · exact s_move hst hG ha (Or.inr hop) hc hr
  · simp only [Bool.and_eq_true] at hc; exact s_pick hst hG ha hop hc.1.1 hc.1.2 hc.2 hr
  · simp only [Bool.and_eq_true, beq_iff_eq] at hc; obtain ⟨⟨⟨rfl, h1⟩, h2⟩, h3⟩ := hc; exact s_bin hst hG ha hop h1 h2 h3 hr
  · simp only [Bool.and_eq_true, beq_iff_eq] at hc; obtain ⟨rfl, h1⟩ := hc; exact s_un hst hG ha hop h1 hr
  · simp only [Bool.and_eq_true] at hc
    obtain ⟨d, h1, h2⟩ := undIs_elim hc.2
    split at h2
    · simp only [decide_eq_true_eq] at h2; subst h2; exact s_ci hst hG ha hop hc.1.1 hc.1.2 h1 hr
    · cases h2
  · simp only [Bool.and_eq_true] at hc
    obtain ⟨d, h1, h2⟩ := undIs_elim hc.2
    split at h2
    · exact s_cid hst hG ha hop hc.1.1 hc.1.2 h1 hr
    · cases h2
  · simp only [Bool.and_eq_true] at hc
    obtain ⟨d, h1, h2⟩ := undIs_elim hc.2
    obtain ⟨e, h3, h4⟩ := chkElem_elim hc.1.2
    obtain ⟨d', h5, h6⟩ := undIs_elim h4
    split at h2
    · split at h6
      · exact s_cstr hst hG ha hop hc.1.1 h3 h1 h5 hr
      · cases h6
    · cases h2
  · simp only [Bool.and_eq_true] at hc; exact s_ld hst hG ha hop hc.1 hc.2 hr
  · simp only [Bool.and_eq_true] at hc; exact s_st hst hG ha hop hc.1.1 hc.1.2 hc.2 hr
  · exact s_nc hst hG ha hop hc hr
  · simp only [Bool.and_eq_true] at hc
    obtain ⟨fs, fd, h1, h2, h3⟩ := chkFld_elim hc.2
    simp only [Bool.and_eq_true, decide_eq_true_eq] at h3
    obtain ⟨h3, h4⟩ := h3
    split at h4
    · exact s_fa hst hG ha hop hc.1 h1 h2 h3 (by assumption) (by simpa using h4) hr
    · cases h4
  · simp only [Bool.and_eq_true] at hc
    obtain ⟨fs, fd, h1, h2, h3⟩ := chkFld_elim hc.2
    simp only [Bool.and_eq_true, decide_eq_true_eq] at h3
    exact s_fld hst hG ha hop hc.1 h1 h2 h3.1 h3.2 hr
  · simp only [Bool.and_eq_true] at hc
    obtain ⟨e, h1, h2⟩ := chkElem_elim hc.2
    exact s_ia hst hG ha hop hc.1.1 hc.1.2 h1 h2 hr
  · simp only [Bool.and_eq_true] at hc
    obtain ⟨d, h1, h2⟩ := undIs_elim hc.2
    split at h2
    · exact s_ixs hst hG ha hop hc.1.1 hc.1.2 h1 hr
    · cases h2
  · simp only [Bool.and_eq_true] at hc
    obtain ⟨e, h1, h2⟩ := chkElem_elim hc.2
    simp only [Bool.and_eq_true] at h2
    exact s_ixa hst hG ha hop hc.1.1 hc.1.2 h1 h2.1 h2.2 hr
  · simp only [Bool.and_eq_true] at hc
    obtain ⟨⟨⟨⟨⟨h1, h2⟩, h3⟩, h4⟩, h5⟩, h6⟩ := hc
    obtain ⟨e, h7, h8⟩ := chkElem_elim h6
    exact s_slc hst hG ha hop h1 h2 h3 h4 (by intro hh; simpa [hh] using h5) h7 h8 hr
  · simp only [Bool.and_eq_true] at hc
    obtain ⟨d, h1, h2⟩ := undIs_elim hc.2
    split at h2
    · exact s_slstr hst hG ha hop hc.1.1.1 hc.1.1.2 hc.1.2 h1 hr
    · cases h2
  · obtain ⟨v, h1, h2⟩ := zeroIs_elim hc
    exact s_al hst hop h1 h2 hr
  · exact s_bx hst hG ha hop hc hr
  · simp only [Bool.and_eq_true] at hc
    obtain ⟨v, h1, h2⟩ := zeroIs_elim hc.1.1
    exact s_bld hst hG ha hop h1 h2 hc.1.2 (chkBuild_elim hc.2) hr
  · simp only [Bool.and_eq_true, decide_eq_true_eq] at hc
    obtain ⟨⟨⟨⟨rfl, h1⟩, h2⟩, h3⟩, h4⟩ := hc
    obtain ⟨e, h5, h6⟩ := chkElem_elim h4
    simp only [Bool.and_eq_true] at h6
    obtain ⟨v, h7, h8⟩ := zeroIs_elim h6.2
    exact s_bsl hst hG ha hop h5 h6.1 h1 h2 h7 h8 h3 hr
  · simp only [Bool.and_eq_true, beq_iff_eq] at hc
    obtain ⟨rfl, h1⟩ := hc
    exact s_mf hst hG ha hop h1 hr
  · simp only [Bool.and_eq_true] at hc
    obtain ⟨e, h5, h6⟩ := chkElem_elim hc.2
    simp only [Bool.and_eq_true, decide_eq_true_eq] at h6
    obtain ⟨v, h7, h8⟩ := zeroIs_elim h6.2
    exact s_mks hst hG ha hop hc.1.1 hc.1.2 h5 h6.1.1.1 h6.1.1.2 h6.1.2 h7 h8 hr
  · simp only [Bool.and_eq_true, beq_iff_eq] at hc
    obtain ⟨rfl, h1⟩ := hc
    exact s_ex hst hG ha hop h1 hr
  · rename_i c
    unfold chkCall at hc
    split at hc
    all_goals first
      | (cases hc; done)
      | exact absurd rfl (hm _ hop _)
      | skip
    · simp only [Bool.and_eq_true] at hc
      obtain ⟨d, h1, h2⟩ := undIs_elim hc.2
      split at h2
      · exact s_lens hst hG ha hop hc.1 h1 hr
      · cases h2
    · simp only [Bool.and_eq_true] at hc
      exact s_len hst hG ha hop hc.1 (chkLen_elim _ _ hc.2) hr
    · exact s_mnx (mx := true) hst hG ha hop hc hr
    · exact s_mnx (mx := false) hst hG ha hop hc hr
    · simp only [Bool.and_eq_true, decide_eq_true_eq] at hc
      obtain ⟨⟨⟨⟨h1, h2⟩, h3⟩, h4⟩, h5⟩ := hc
      obtain ⟨e, g1, _⟩ := chkElem_elim h4
      obtain ⟨e', g2, g3⟩ := chkElem_elim h5
      simp only [Bool.and_eq_true] at g3
      obtain ⟨v, g4, g5⟩ := zeroIs_elim g3.2
      exact s_app hst hG ha hop h1 h2 ⟨g2, ⟨_, g1⟩, by simpa [szIs] using g3.1.1, by simpa [bytesIs] using g3.1.2, g4⟩ h3 (by simpa using g5) hr
    · simp only [Bool.and_eq_true, decide_eq_true_eq] at hc
      obtain ⟨⟨⟨⟨⟨h1, h2⟩, h3⟩, h4⟩, h5⟩, h6⟩ := hc
      obtain ⟨d, g1, g0⟩ := undIs_elim h5
      obtain ⟨e', g2, g3⟩ := chkElem_elim h6
      simp only [Bool.and_eq_true] at g3
      obtain ⟨v, g4, g5⟩ := zeroIs_elim g3.2
      simp only [Bool.and_eq_true, decide_eq_true_eq] at g5
      split at g0
      · exact s_appz hst hG ha hop h1 h2 g2 g1 (by simpa [szIs] using g3.1.1) (by simpa [bytesIs] using g3.1.2) h4 g4 g5.1 h3 g5.2 hr
      · cases g0
    · simp only [Bool.and_eq_true] at hc
      obtain ⟨e', g2, g3⟩ := chkElem_elim hc.2
      exact s_cpy hst hG ha hop hc.1.1 hc.1.2 g2 (by simpa [szIs] using g3) hr

theorem run_enter {P : Program} {f : Nat} {fn : Func} (hf : P.funcs[f]? = some fn) (hn : (fn.name == "runtime.NumGoroutine") = false) (hb : fn.body.isNone = false) (args : Array Value) (w : World) :
    (callFunc f args).run P w = .ok (.enter f args) w := by
  have hp : (program).run P w = .ok P w := rfl
  simp only [callFunc, Sem.run_bind, hp, Result.andThen_ok, hf, hn, hb, Bool.false_eq_true, if_false, Sem.run_pure]

theorem chkCallee_elim {f : Nat} (h : chkCallee X f = true) : ∃ fn, X.P.funcs[f]? = some fn ∧ (fn.name == "runtime.NumGoroutine") = false ∧ fn.body.isNone = false := by
  unfold chkCallee at h
  split at h
  · simp only [Bool.and_eq_true, Bool.not_eq_true'] at h; exact ⟨_, by assumption, h.1, h.2⟩
  · cases h

/-- Any operation. -/
theorem op_wp (hst : St B ρg gl X.gid ρ h w) (hG : gl.length = X.G) (ha : AR ρ h.length nt a A) {call : CallT} (hcall : CallOk X B ρg gl call) {m : MOp} (hc : chkOp X o.op m = true) {r : AV × AHeap × List Nat}
    (hr : aop call m a h = some r) {K : Act → World → Prop} {Q : Exit → Act → World → Prop} (k : ∀ x w', Post X B ρg gl ρ h w r.1 r.2.1 x w' → K (A.put o.dst x) w') : o.wp X.P A w K Q := by
  by_cases hm : ∃ c f, o.op = .call c ∧ c.callee = .value f
  · obtain ⟨c, f, hop, hcal⟩ := hm
    have hcc : chkCall X c m = true ∨ m = .bad := by
      rw [hop] at hc
      cases m <;> first | exact Or.inr rfl | exact Or.inl hc
    replace hcc : chkCall X c m = true := by
      rcases hcc with hcc | rfl
      · exact hcc
      · simp [aop] at hr
    obtain ⟨cal, as, ats⟩ := c
    simp only at hcal; subst hcal
    have key : ∀ g vs xs, call g vs h = some r → (execOp A.eval o).run X.P w = (callFunc g xs).run X.P w → AV.lts h.length vs = true → Rs ρ vs xs.toList → o.wp X.P A w K Q := by
      intro g vs xs h1 h2 h3 h4
      rcases hcall g vs h r h1 with ⟨c1, c2⟩ | c2
      · obtain ⟨fn, e1, e2, e3⟩ := chkCallee_elim c1
        unfold Oper.wp
        rw [h2, run_enter e1 e2 e3, Oper.upon_enter]
        refine Calls.mono (c2 ρ w xs hst h3 h4) fun e w' he => ?_
        obtain ⟨x, rfl, hp⟩ := he
        exact k x w' hp
      · obtain ⟨x, w', e, hp⟩ := c2 ρ w xs hst h3 h4
        unfold Oper.wp
        rw [h2, e]
        exact k x w' hp
    unfold chkCall at hcc
    split at hcc
    all_goals first
      | (cases hcc; done)
      | (rename_i heq; cases heq; done)
      | skip
    · rename_i heq
      cases heq
      simp only [Bool.and_eq_true, beq_iff_eq] at hcc
      obtain ⟨rfl, hxs⟩ := hcc
      simp only [aop, Option.bind_eq_some_iff] at hr
      obtain ⟨vs, h1, h2⟩ := hr
      obtain ⟨e1, e2⟩ := aevals_sound ha (fun i hi => hst.pre i (by omega)) hxs h1
      refine key _ vs (as.map A.eval) h2 ?_ e1 (by simpa using e2)
      simp [execOp, hop, resolve, Act.eval, Deferred.ofValue, invoke]
    · rename_i heq
      cases heq
      simp only [Bool.and_eq_true] at hcc
      simp only [aop, Option.bind_eq_some_iff] at hr
      obtain ⟨fv, h0, vs, h1, h2⟩ := hr
      obtain ⟨f1, f2⟩ := aeval_sound ha (fun i hi => hst.pre i (by omega)) hcc.1 h0
      obtain ⟨e1, e2⟩ := aevals_sound ha (fun i hi => hst.pre i (by omega)) hcc.2 h1
      split at h2
      · simp only [R] at f2
        obtain ⟨cs, f3, f4⟩ := f2
        refine key _ _ (as.map A.eval ++ cs) h2 ?_ ?_ ?_
        · simp [execOp, hop, resolve, f3, Deferred.ofValue, invoke]
        · refine AV.lts_iff.2 fun y hy => ?_
          rcases List.mem_append.1 hy with hy | hy
          · exact AV.lts_iff.1 e1 y hy
          · exact AV.lts_iff.1 (by simpa [AV.lt] using f1) y hy
        · simpa using Rs_append e2 f4
      · cases h2
  · obtain ⟨nx, x, w', h1, h2, h3⟩ := op_out hst hG ha (fun c hc' f hf => hm ⟨c, f, hc', hf⟩) hc hr
    unfold Oper.wp
    rw [h1]
    rcases h2 with rfl | ⟨rfl, rfl⟩
    · exact k x w' h3
    · exact k undef w' h3

end
end Go.Proofs.YtdpbbagllhfjbaaDoorW.AI

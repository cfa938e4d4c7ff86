import Derived.Test.YtdbdmnhnijpdcaaDoorAISem3
/-! Operations, one by one. -/
namespace Go.Proofs.YtdbdmnhnijpdcaaDoorW.AI
open Go
set_option linter.unusedVariables false
set_option linter.unusedSimpArgs false

section
variable {X : Ctx} {B : Nat} {ρg : Env} {gl : AHeap}

def Post (X : Ctx) (B : Nat) (ρg : Env) (gl : AHeap) (ρ : Env) (h : AHeap) (w : World) (v : AV) (h' : AHeap) (x : Value) (w' : World) : Prop :=
  ∃ ρ', Agree h.length ρ ρ' ∧ R ρ' v x ∧ v.lt h'.length = true ∧ St B ρg gl X.gid ρ' h' w' ∧ Fr ρ h w ρ' h' w' ∧ h.length ≤ h'.length

def Out (X : Ctx) (B : Nat) (ρg : Env) (gl : AHeap) (ρ : Env) (h : AHeap) (w : World) (A : Act) (o : Oper) (v : AV) (h' : AHeap) : Prop :=
  ∃ nx x w', (execOp A.eval o).run X.P w = .ok nx w' ∧ (nx = .value x ∨ (nx = .skip ∧ x = undef)) ∧ Post X B ρg gl ρ h w v h' x w'

variable {ρ : Env} {h h' : AHeap} {w : World} {nt : Nat} {a : Acts} {A : Act} {v : AV} {o : Oper}

theorem post_float (hst : St B ρg gl X.gid ρ h w) {x : Value} (hl : v.lt h.length = true) (hr : R ρ v x) : Post X B ρg gl ρ h w v h x w :=
  ⟨ρ, Agree.refl _ _, hr, hl, hst, Fr.refl _ _ _, Nat.le_refl _⟩

theorem post_mem (hst : St B ρg gl X.gid ρ h w) {ρ' : Env} {w' : World} {x : Value} (ag : Agree h.length ρ ρ') (hr : R ρ' v x) (hl : v.lt h'.length = true) (rep : Rep B ρ' h' w') (fr : Fr ρ h w ρ' h' w') (hlen : h.length ≤ h'.length) :
    Post X B ρg gl ρ h w v h' x w' :=
  ⟨ρ', ag, hr, hl, ⟨rep, hst.grep.globals hst.gext hst.rep hst.le fr, hst.gext, Nat.le_trans hst.le fr.size,
    fun i hi => by obtain ⟨h1, h2, h3⟩ := hst.pre i hi; obtain ⟨a1, a2, _⟩ := ag i h1; exact ⟨by omega, a1.trans h2, a2.trans h3⟩, hst.gpre⟩, fr, hlen⟩

theorem out_value (hst : St B ρg gl X.gid ρ h w) {x : Value} (hrun : (execOp A.eval o).run X.P w = .ok (.value x) w) (hl : v.lt h.length = true) (hr : R ρ v x) : Out X B ρg gl ρ h w A o v h :=
  ⟨_, x, w, hrun, Or.inl rfl, post_float hst hl hr⟩

theorem s_move (hst : St B ρg gl X.gid ρ h w) (hG : gl.length = X.G) (ha : AR ρ h.length nt a A) {p : Operand} {x : MX} (ho : o.op = .move p ∨ o.op = .assign p) (hc : chkX X p x = true) {r : AV × AHeap × List Nat} {call : CallT}
    (hr : aop call (.mv x) a h = some r) : Out X B ρg gl ρ h w A o r.1 r.2.1 := by
  simp only [aop, Option.map_eq_some_iff] at hr
  obtain ⟨v, h1, rfl⟩ := hr
  obtain ⟨e1, e2⟩ := aeval_sound ha (fun i hi => hst.pre i (by omega)) hc h1
  refine out_value hst (x := A.eval p) ?_ e1 e2
  rcases ho with ho | ho <;> simp [execOp, ho]

theorem s_pick (hst : St B ρg gl X.gid ρ h w) (hG : gl.length = X.G) (ha : AR ρ h.length nt a A) {c p q : Operand} {c' x y : MX} (ho : o.op = .pick c p q) (hc : chkX X c c' = true) (hx : chkX X p x = true) (hy : chkX X q y = true) {r : AV × AHeap × List Nat} {call : CallT}
    (hr : aop call (.pick c' x y) a h = some r) : Out X B ρg gl ρ h w A o r.1 r.2.1 := by
  simp only [aop, Option.bind_eq_some_iff] at hr
  obtain ⟨cv, h0, hr⟩ := hr
  obtain ⟨e1, e2⟩ := aeval_sound ha (fun i hi => hst.pre i (by omega)) hc h0
  split at hr
  · simp only [Option.map_eq_some_iff] at hr
    obtain ⟨v, h1, rfl⟩ := hr
    simp only [R] at e2
    obtain ⟨f1, f2⟩ := aeval_sound ha (fun i hi => hst.pre i (by omega)) hx h1
    exact out_value hst (x := A.eval p) (by simp [execOp, ho, e2, asBool]) f1 f2
  · simp only [Option.map_eq_some_iff] at hr
    obtain ⟨v, h1, rfl⟩ := hr
    simp only [R] at e2
    obtain ⟨f1, f2⟩ := aeval_sound ha (fun i hi => hst.pre i (by omega)) hy h1
    exact out_value hst (x := A.eval q) (by simp [execOp, ho, e2, asBool]) f1 f2
  · cases hr

theorem s_un (hst : St B ρg gl X.gid ρ h w) (hG : gl.length = X.G) (ha : AR ρ h.length nt a A) {op : UnOp} {t : Nat} {p : Operand} {x : MX} (ho : o.op = .unOp op t p) (hc : chkX X p x = true) {r : AV × AHeap × List Nat} {call : CallT}
    (hr : aop call (.un op x) a h = some r) : Out X B ρg gl ρ h w A o r.1 r.2.1 := by
  simp only [aop, Option.bind_eq_some_iff, Option.map_eq_some_iff] at hr
  obtain ⟨xv, h0, v, h1, rfl⟩ := hr
  obtain ⟨e1, e2⟩ := aeval_sound ha (fun i hi => hst.pre i (by omega)) hc h0
  obtain ⟨u, f1, f2, f3⟩ := aun_sound h1 e2 X.P w
  exact out_value hst (x := u) (by simp [execOp, ho, f1]) (AV.lt_mono (Nat.zero_le _) _ f3) f2

theorem s_ci (hst : St B ρg gl X.gid ρ h w) (hG : gl.length = X.G) (ha : AR ρ h.length nt a A) {s d : Nat} {k : IntKind} {p : Operand} {x : MX} (ho : o.op = .convert s d p) (hc : chkX X p x = true)
    (hs : (X.P.underlying s).isSome = true) (hd : X.P.underlying d = some (.int k)) {r : AV × AHeap × List Nat} {call : CallT}
    (hr : aop call (.ci k x) a h = some r) : Out X B ρg gl ρ h w A o r.1 r.2.1 := by
  simp only [aop, Option.bind_eq_some_iff] at hr
  obtain ⟨xv, h0, hr⟩ := hr
  obtain ⟨e1, e2⟩ := aeval_sound ha (fun i hi => hst.pre i (by omega)) hc h0
  split at hr
  · simp only [Option.some.injEq] at hr; subst hr
    simp only [R] at e2
    rw [Option.isSome_iff_exists] at hs
    obtain ⟨sd, hs⟩ := hs
    refine out_value hst (x := .int k (k.wrap _)) ?_ rfl rfl
    simp only [execOp, ho, convert, Sem.run_bind, run_underlying hs, run_underlying hd, Result.andThen_ok, e2, Conv.intToInt, Sem.run_pure]
  · cases hr

theorem s_cid (hst : St B ρg gl X.gid ρ h w) (hG : gl.length = X.G) (ha : AR ρ h.length nt a A) {s d : Nat} {p : Operand} {x : MX} (ho : o.op = .convert s d p) (hc : chkX X p x = true)
    (hs : (X.P.underlying s).isSome = true) (hd : X.P.underlying d = some .string) {r : AV × AHeap × List Nat} {call : CallT}
    (hr : aop call (.cid x) a h = some r) : Out X B ρg gl ρ h w A o r.1 r.2.1 := by
  simp only [aop, Option.bind_eq_some_iff] at hr
  obtain ⟨xv, h0, hr⟩ := hr
  obtain ⟨e1, e2⟩ := aeval_sound ha (fun i hi => hst.pre i (by omega)) hc h0
  split at hr
  · simp only [Option.some.injEq] at hr; subst hr
    simp only [R] at e2
    rw [Option.isSome_iff_exists] at hs
    obtain ⟨sd, hs⟩ := hs
    refine out_value hst (x := .string _) ?_ rfl rfl
    simp only [execOp, ho, convert, Sem.run_bind, run_underlying hs, run_underlying hd, Result.andThen_ok, e2, Sem.run_pure]
  · cases hr

theorem s_ld (hst : St B ρg gl X.gid ρ h w) (hG : gl.length = X.G) (ha : AR ρ h.length nt a A) {t : Nat} {agg : Option Nat} {p : Operand} {x : MX} (ho : o.op = .load t p) (hc : chkX X p x = true) (ht : chkAgg X t agg = true) {r : AV × AHeap × List Nat} {call : CallT}
    (hr : aop call (.ld agg x) a h = some r) : Out X B ρg gl ρ h w A o r.1 r.2.1 := by
  simp only [aop, Option.bind_eq_some_iff] at hr
  obtain ⟨xv, h0, hr⟩ := hr
  obtain ⟨e1, e2⟩ := aeval_sound ha (fun i hi => hst.pre i (by omega)) hc h0
  split at hr
  case h_2 => cases hr
  rename_i b off
  simp only [Option.bind_eq_some_iff] at hr
  obtain ⟨c, hc', hr⟩ := hr
  obtain ⟨blk, hb1, hb2, rfl⟩ := cellsAt_some hc'
  simp only [R] at e2
  simp only [Option.map_eq_some_iff] at hr
  obtain ⟨v, hv, rfl⟩ := hr
  obtain ⟨u, f1, f2⟩ := run_loadVar_env (hst.rep.lies b blk hb1 hb2) ht hv
  refine out_value hst (x := u) ?_ ?_ f2
  · simp [execOp, ho, Instr.loadAt, e2, Instr.sureAddr, f1]
  · have wf := hst.rep.wf b blk hb1 hb2
    cases agg with
    | none => exact ACells.get_lt wf hv
    | some n =>
      simp only [loadA, Option.map_eq_some_iff] at hv
      obtain ⟨vs, h1, rfl⟩ := hv
      obtain ⟨g1, g2⟩ := loadN_get h1
      simp only [AV.lt]
      refine AV.lts_iff.2 fun y hy => ?_
      obtain ⟨j, hj⟩ := List.mem_iff_getElem?.1 hy
      have hjl : j < n := by have := (List.getElem?_eq_some_iff.1 hj).1; omega
      exact ACells.get_lt wf ((g2 j hjl).symm.trans hj)

theorem s_st (hst : St B ρg gl X.gid ρ h w) (hG : gl.length = X.G) (ha : AR ρ h.length nt a A) {t n : Nat} {p q : Operand} {x y : MX} (ho : o.op = .store t p q) (hc : chkX X p x = true) (hd : chkX X q y = true) (ht : szIs X t n = true) {r : AV × AHeap × List Nat} {call : CallT}
    (hr : aop call (.st n x y) a h = some r) : Out X B ρg gl ρ h w A o r.1 r.2.1 := by
  simp only [aop, Option.bind_eq_some_iff] at hr
  obtain ⟨pv, h0, xv, h1, hr⟩ := hr
  obtain ⟨e1, e2⟩ := aeval_sound ha (fun i hi => hst.pre i (by omega)) hc h0
  obtain ⟨f1, f2⟩ := aeval_sound ha (fun i hi => hst.pre i (by omega)) hd h1
  split at hr
  case h_2 => cases hr
  rename_i b off
  split at hr
  case isFalse => cases hr
  rename_i hn
  simp only [Option.map_eq_some_iff] at hr
  obtain ⟨h', hch, rfl⟩ := hr
  simp only [R] at e2
  obtain ⟨o', c, c', hb, hcc, he⟩ := change_spec hch
  obtain ⟨sp, hcell⟩ := storeL_splice hcc
  have hcs := R_cells f2 hcell
  have hxlt : ∀ u ∈ xv.cells, u.lt h.length = true := by
    intro u hu
    cases xv with
    | agg cs => exact AV.lts_iff.1 (show AV.lts h.length cs = true from by simpa [AV.lt] using f1) u hu
    | _ => simp only [AV.cells, List.mem_singleton] at hu; subst hu; exact f1
  obtain ⟨w', g1, g2, g3, g4⟩ := hst.rep.change hch (fun c c' hcc => storeL_splice hcc) hcs hxlt X.P
  refine ⟨.skip, undef, w', ?_, Or.inr ⟨rfl, rfl⟩, post_mem hst (Agree.refl _ _) trivial rfl g2 g3 (by show h.length ≤ h'.length; omega)⟩
  have hlen : (A.eval q).cells.size = n := by have := Rs_length hcs; simp at this; omega
  have hsz : (sizeOf t).run X.P w = .ok n w := run_sizeOf' (by simpa [szIs] using ht)
  simp only [execOp, ho, Instr.storeAt, e2, Instr.sureAddr, Sem.run_bind, Sem.run_pure, Result.andThen_ok, storeVar, hsz, hlen, ne_eq, not_true, if_false, g1]

theorem s_fa (hst : St B ρg gl X.gid ρ h w) (hG : gl.length = X.G) (ha : AR ρ h.length nt a A) {s f off : Nat} {p : Operand} {x : MX} {fields : Array Field} {fd : Field} (ho : o.op = .fieldAddr s p f) (hc : chkX X p x = true)
    (hs : X.P.underlying s = some (.struct fields)) (hf : fields[f]? = some fd) (hoff : fd.offset = off) {n : Nat} (hn : (X.P.info? fd.type).map (·.size) = some n) (hn0 : n ≠ 0) {r : AV × AHeap × List Nat} {call : CallT}
    (hr : aop call (.fa off x) a h = some r) : Out X B ρg gl ρ h w A o r.1 r.2.1 := by
  simp only [aop, Option.bind_eq_some_iff] at hr
  obtain ⟨xv, h0, hr⟩ := hr
  obtain ⟨e1, e2⟩ := aeval_sound ha (fun i hi => hst.pre i (by omega)) hc h0
  split at hr
  · simp only [Option.some.injEq] at hr; subst hr
    rename_i b off'
    simp only [R] at e2
    refine out_value hst (x := .pointer (some (ρ.addr b (off' + off)))) ?_ e1 rfl
    have hsz : (sizeOf fd.type).run X.P w = .ok n w := run_sizeOf' hn
    simp [execOp, ho, Instr.fieldAt, run_underlying hs, hf, e2, Instr.sureAddr, fieldPlace, hsz, hn0, Env.addr_add, hoff]
  · cases hr

theorem s_nc (hst : St B ρg gl X.gid ρ h w) (hG : gl.length = X.G) (ha : AR ρ h.length nt a A) {p : Operand} {x : MX} (ho : o.op = .nilCheck p) (hc : chkX X p x = true) {r : AV × AHeap × List Nat} {call : CallT}
    (hr : aop call (.nc x) a h = some r) : Out X B ρg gl ρ h w A o r.1 r.2.1 := by
  simp only [aop, Option.bind_eq_some_iff] at hr
  obtain ⟨xv, h0, hr⟩ := hr
  obtain ⟨e1, e2⟩ := aeval_sound ha (fun i hi => hst.pre i (by omega)) hc h0
  split at hr
  · simp only [Option.some.injEq] at hr; subst hr
    rename_i b off'
    refine out_value hst (x := A.eval p) ?_ e1 e2
    simp only [R] at e2
    simp [execOp, ho, e2]
  · simp only [Option.some.injEq] at hr; subst hr
    refine out_value hst (x := A.eval p) ?_ e1 e2
    simp only [R] at e2
    obtain ⟨vs, e3, _⟩ := e2
    simp [execOp, ho, e3]
  · cases hr

theorem s_mf (hst : St B ρg gl X.gid ρ h w) (hG : gl.length = X.G) (ha : AR ρ h.length nt a A) {f : Nat} {caps : Array Operand} {xs : List MX} (ho : o.op = .makeFunc (.func f) #[] caps) (hc : chkXs X caps.toList xs = true) {r : AV × AHeap × List Nat} {call : CallT}
    (hr : aop call (.mf f xs) a h = some r) : Out X B ρg gl ρ h w A o r.1 r.2.1 := by
  simp only [aop, Option.bind_eq_some_iff, Option.map_eq_some_iff] at hr
  obtain ⟨vs, h0, rfl⟩ := hr
  obtain ⟨e1, e2⟩ := aevals_sound ha (fun i hi => hst.pre i (by omega)) hc h0
  refine out_value hst (x := .func (.func f) #[] (caps.map A.eval)) ?_ (by simpa [AV.lt] using e1) ?_
  · simp [execOp, ho, Instr.makeFunc]
  · simp only [R]
    exact ⟨_, rfl, by simpa using e2⟩

theorem s_ex (hst : St B ρg gl X.gid ρ h w) (hG : gl.length = X.G) (ha : AR ρ h.length nt a A) {i : Nat} {p : Operand} {x : MX} (ho : o.op = .extract p i) (hc : chkX X p x = true) {r : AV × AHeap × List Nat} {call : CallT}
    (hr : aop call (.ex i x) a h = some r) : Out X B ρg gl ρ h w A o r.1 r.2.1 := by
  simp only [aop, Option.bind_eq_some_iff] at hr
  obtain ⟨xv, h0, hr⟩ := hr
  obtain ⟨e1, e2⟩ := aeval_sound ha (fun i hi => hst.pre i (by omega)) hc h0
  split at hr
  · simp only [Option.map_eq_some_iff] at hr
    obtain ⟨v, h1, rfl⟩ := hr
    simp only [R] at e2
    obtain ⟨vs', e3, e4⟩ := e2
    obtain ⟨u, f1, f2⟩ := Rs_get e4 h1
    refine out_value hst (x := u) ?_ ?_ f2
    · have : vs'[i]? = some u := by simpa using f1
      simp [execOp, ho, e3, Instr.extract, this]
    · exact AV.lts_iff.1 (by simpa [AV.lt] using e1) v (List.mem_of_getElem? h1)
  · cases hr

/-- A part of a flat value. -/
theorem run_part {X : Ctx} {w : World} {ρ : Env} {t : Nat} {agg : Option Nat} (ht : chkAgg X t agg = true) {cs : List AV} {vs : Array Value} (hr : Rs ρ cs vs.toList) {off : Nat} {v : AV} (hv : AI.apart cs off agg = some v) :
    ∃ u, (part t vs off).run X.P w = .ok u w ∧ R ρ v u ∧ (∀ n, AV.lts n cs = true → v.lt n = true) := by
  cases agg with
  | none =>
    simp only [chkAgg] at ht
    simp only [AI.apart] at hv
    obtain ⟨u, h1, h2⟩ := Rs_get hr hv
    have h1 : vs[off]? = some u := by simpa using h1
    exact ⟨u, by simp [part, run_isAgg ht, h1], h2, fun n hn => AV.lts_iff.1 hn v (List.mem_of_getElem? hv)⟩
  | some n =>
    simp only [chkAgg, Bool.and_eq_true, szIs, decide_eq_true_eq] at ht
    simp only [AI.apart] at hv
    split at hv
    · simp only [Option.some.injEq] at hv; subst hv
      refine ⟨.agg (vs.extract off (off + n)), by simp [part, run_isAgg ht.1, run_sizeOf' ht.2], ?_, fun m hm => ?_⟩
      · simp only [R]
        refine ⟨_, rfl, ?_⟩
        have := Rs_take n (Rs_drop off hr)
        simpa [List.take_drop, Nat.add_comm] using this
      · simp only [AV.lt]
        exact AV.lts_iff.2 fun y hy => AV.lts_iff.1 hm y (List.mem_of_mem_drop (List.mem_of_mem_take hy))
    · cases hv

theorem s_fld (hst : St B ρg gl X.gid ρ h w) (hG : gl.length = X.G) (ha : AR ρ h.length nt a A) {s f off : Nat} {agg : Option Nat} {p : Operand} {x : MX} {fields : Array Field} {fd : Field} (ho : o.op = .field s p f) (hc : chkX X p x = true)
    (hs : X.P.underlying s = some (.struct fields)) (hf : fields[f]? = some fd) (hoff : fd.offset = off) (ht : chkAgg X fd.type agg = true) {r : AV × AHeap × List Nat} {call : CallT}
    (hr : aop call (.fld off agg x) a h = some r) : Out X B ρg gl ρ h w A o r.1 r.2.1 := by
  simp only [aop, Option.bind_eq_some_iff] at hr
  obtain ⟨xv, h0, hr⟩ := hr
  obtain ⟨e1, e2⟩ := aeval_sound ha (fun i hi => hst.pre i (by omega)) hc h0
  split at hr
  · simp only [Option.map_eq_some_iff] at hr
    obtain ⟨v, h1, rfl⟩ := hr
    simp only [R] at e2
    obtain ⟨vs, e3, e4⟩ := e2
    obtain ⟨u, f1, f2, f3⟩ := run_part (w := w) ht e4 h1
    refine out_value hst (x := u) ?_ (f3 _ (by simpa [AV.lt] using e1)) f2
    simp [execOp, ho, Instr.field, run_underlying hs, hf, e3, asAgg, hoff, f1]
  · cases hr

theorem asN_sound {ρ : Env} {x : AV} {n : Nat} {v : Value} (h : asN x = some n) (hr : R ρ x v) : ∃ k m, v = .int k m ∧ 0 ≤ m ∧ m.toNat = n := by
  cases x <;> simp only [asN] at h <;> first | (cases h; done) | skip
  split at h
  · rename_i k m hm
    simp only [Option.some.injEq] at h
    simp only [R] at hr
    exact ⟨k, m, hr, hm, h⟩
  · cases h

theorem s_ixa (hst : St B ρg gl X.gid ρ h w) (hG : gl.length = X.G) (ha : AR ρ h.length nt a A) {t e len esz : Nat} {agg : Option Nat} {p q : Operand} {x y : MX} (ho : o.op = .index t p q) (hc : chkX X p x = true) (hd : chkX X q y = true)
    (hs : X.P.underlying t = some (.array len e)) (he : szIs X e esz = true) (ht : chkAgg X e agg = true) {r : AV × AHeap × List Nat} {call : CallT}
    (hr : aop call (.ixa len esz agg x y) a h = some r) : Out X B ρg gl ρ h w A o r.1 r.2.1 := by
  simp only [aop, Option.bind_eq_some_iff] at hr
  obtain ⟨xv, h0, iv, h1, i, h2, hr⟩ := hr
  obtain ⟨e1, e2⟩ := aeval_sound ha (fun i hi => hst.pre i (by omega)) hc h0
  obtain ⟨f1, f2⟩ := aeval_sound ha (fun i hi => hst.pre i (by omega)) hd h1
  obtain ⟨k, m, g1, g2, g3⟩ := asN_sound h2 f2
  split at hr
  · split at hr
    · rename_i hi
      simp only [Option.map_eq_some_iff] at hr
      obtain ⟨v, h3, rfl⟩ := hr
      simp only [R] at e2
      obtain ⟨vs, e3, e4⟩ := e2
      obtain ⟨u, q1, q2, q3⟩ := run_part (w := w) ht e4 h3
      have hsz : (sizeOf e).run X.P w = .ok esz w := run_sizeOf' (by simpa [szIs] using he)
      refine out_value hst (x := u) ?_ (q3 _ (by simpa [AV.lt] using e1)) q2
      have hi' : 0 ≤ m ∧ m < (len : Int) := by omega
      simp [execOp, ho, Instr.index, g1, asIntOf, run_underlying hs, e3, hi', hsz, g3, q1]
    · cases hr
  · cases hr

theorem s_ixs (hst : St B ρg gl X.gid ρ h w) (hG : gl.length = X.G) (ha : AR ρ h.length nt a A) {t : Nat} {p q : Operand} {x y : MX} (ho : o.op = .index t p q) (hc : chkX X p x = true) (hd : chkX X q y = true)
    (hs : X.P.underlying t = some .string) {r : AV × AHeap × List Nat} {call : CallT}
    (hr : aop call (.ixs x y) a h = some r) : Out X B ρg gl ρ h w A o r.1 r.2.1 := by
  simp only [aop, Option.bind_eq_some_iff] at hr
  obtain ⟨xv, h0, iv, h1, i, h2, hr⟩ := hr
  obtain ⟨e1, e2⟩ := aeval_sound ha (fun i hi => hst.pre i (by omega)) hc h0
  obtain ⟨f1, f2⟩ := aeval_sound ha (fun i hi => hst.pre i (by omega)) hd h1
  obtain ⟨k, m, g1, g2, g3⟩ := asN_sound h2 f2
  split at hr
  · rename_i s
    simp only [Option.map_eq_some_iff] at hr
    obtain ⟨b, h3, rfl⟩ := hr
    simp only [R] at e2
    refine out_value hst (x := .int .u8 b.toNat) ?_ rfl rfl
    have hb : s[i]? = some b := by
      have hlt : i < s.data.toList.length := (List.getElem?_eq_some_iff.1 h3).1
      have hlt' : i < s.size := by simpa using hlt
      rw [getElem?_pos s i hlt']
      have := (List.getElem?_eq_some_iff.1 h3).2
      rw [← this]; simp [ByteArray.getElem_eq_getElem_data]
    simp [execOp, ho, Instr.index, g1, asIntOf, run_underlying hs, e2, g2, g3, hb]
  · cases hr

end
end Go.Proofs.YtdbdmnhnijpdcaaDoorW.AI

import Derived.Test.YtdpbbagllhfjbaaDoorAISemA
/-! Appends, copies, calls; each operation. -/
namespace Go.Proofs.YtdpbbagllhfjbaaDoorW.AI
open Go
set_option linter.unusedVariables false
set_option linter.unusedSimpArgs false

section
variable {X : Ctx} {B : Nat} {ρg : Env} {gl : AHeap} {ρ : Env} {h h' : AHeap} {w : World} {nt : Nat} {a : Acts} {A : Act} {v : AV} {o : Oper}

theorem out_of_run {b : Builtin} {args : Array Operand} {ats : Array TypeId} (ho : o.op = .call { callee := .builtin b, args, argTypes := ats }) {s : Sem Value}
    (hb : ∀ cs, builtin b ats o.type cs (args.map A.eval) = (do pure (Next.value (← s)))) {v : AV} {h' : AHeap} (hr : ∃ x w', s.run X.P w = .ok x w' ∧ Post X B ρg gl ρ h w v h' x w') : Out X B ρg gl ρ h w A o v h' := by
  obtain ⟨x, w', h1, h2⟩ := hr
  obtain ⟨cs, hcs⟩ := exec_builtin (A := A) ho
  refine ⟨.value x, x, w', ?_, Or.inl rfl, h2⟩
  rw [hcs, hb cs]
  simp only [Sem.run_bind, h1, Result.andThen_ok, Sem.run_pure]

theorem s_app (hst : St B ρg gl X.gid ρ h w) (hG : gl.length = X.G) (ha : AR ρ h.length nt a A) {p q : Operand} {ts tx elem bytes : Nat} {z : ACells} {zv : Value} {x y : MX}
    (ho : o.op = .call { callee := .builtin .append, args := #[p, q], argTypes := #[ts, tx] }) (hc : chkX X p x = true) (hd : chkX X q y = true) (T : AppTy X.P ts tx elem z.len bytes zv) (h0 : 0 < z.len) (hzv : zv.cells.size = z.len)
    {r : AV × AHeap × List Nat} {call : CallT} (hr : aop call (.app z bytes x y) a h = some r) : Out X B ρg gl ρ h w A o r.1 r.2.1 := by
  simp only [aop, Option.bind_eq_some_iff] at hr
  obtain ⟨s, h1, xv, h2, c, h3, m, h4, hr⟩ := hr
  obtain ⟨e1, e2⟩ := aeval_sound ha (fun i hi => hst.pre i (by omega)) hc h1
  obtain ⟨f1, f2⟩ := aeval_sound ha (fun i hi => hst.pre i (by omega)) hd h2
  refine out_of_run ho (s := Builtin.append_ #[ts, tx] o.type #[A.eval p, A.eval q]) (fun cs => by simp [builtin]) ?_
  obtain ⟨us, pq, xc, src, hx, hload⟩ : ∃ us pq xc, Src ρ h c m z.len us ∧ A.eval q = .slice pq m xc ∧ ∀ w' : World, w'.heap = w.heap → (Builtin.firstCells z.len m (.slice pq m xc)).run X.P w' = .ok (List.toArray us) w' := by
    unfold newCells at h3
    split at h3
    · simp only [Option.some.injEq] at h3; subst h3
      simp only [slen, Option.some.injEq] at h4; subst h4
      simp only [R] at f2
      have hl : (z.sub 0 0).list = [] := by cases z <;> simp [ACells.sub, ACells.list]
      exact ⟨[], none, 0, ⟨by rw [hl]; rfl, by simp, ACells.lt_list.2 (by simp [hl])⟩, f2, fun w' _ => by simp [Builtin.firstCells]⟩
    · obtain ⟨us, k1, k2, k3, pq, xc, k4, k5⟩ := slice_cells hst.rep h3 h4 f2
      exact ⟨us, pq, xc, ⟨k1, k2, k3⟩, k4, fun w' hw => by rw [firstCells_slice]; exact k5 X.P w' hw⟩
  rw [hx]
  refine append_core (xs := xv) (elem := elem) hst src h0 e2 e1 hzv (run := fun sv w => (Builtin.append_ #[ts, tx] o.type #[sv, .slice pq m xc]).run X.P w) hr ?_ ?_
  · intro base n cap w' hs hfit hstore
    show (Builtin.append_ #[ts, tx] o.type #[A.eval p, .slice pq m xc]).run X.P w = _
    rw [hs]
    exact append_fits T hfit (hload w rfl) hstore
  · intro base n cap os hs hfit hroom hold
    show ∃ nc, _ ∧ (Builtin.append_ #[ts, tx] o.type #[A.eval p, .slice pq m xc]).run X.P w = _
    rw [hs]
    exact append_grows T hfit hroom hold hload

theorem appendz_fits {P : Program} {w : World} {ts tx elem size bytes : Nat} {ty : TypeId} {zv : Value} {k : IntKind} (h1 : P.underlying ts = some (.slice elem)) (h2 : P.underlying tx = some (.int k)) (hsz : (P.info? elem).map (·.size) = some size)
    (hb : (P.info? elem).map (·.bytes) = some bytes) (hz : (P.info? elem).bind (·.zero) = some zv) (hzs : zv.cells.size = size) {base : Option Addr} {n cap : Nat} {z : Int} (hz0 : 0 ≤ z) (hz1 : z * bytes ≤ 281474976710656) (hz2 : z < 9223372036854775808) {w' : World} (hfit : n + z.toNat ≤ cap)
    (hstore : (match base with | some a => storeCells (a.add (n * size)) (Builtin.zeroCells zv.cells z.toNat).toList | none => pure ()).run P w = .ok () w') :
    (Builtin.append_ #[ts, tx] ty #[.slice base n cap, .int .i64 z]).run P w = .ok (.slice base (n + z.toNat) cap) w' := by
  rw [Option.map_eq_some_iff] at hb
  obtain ⟨i, hi, hb⟩ := hb
  have hzr : (zeroValue elem).run P w = .ok zv w := by
    rw [hi, Option.bind_some] at hz
    simp [zeroValue, run_typeInfo' hi, hz]
  have hw := wrap_i64 hz0 hz2
  have c1 : ¬ (z < 0) := by omega
  have c2 : ¬ (z * (i.bytes : Int) > 2 ^ 48) := by rw [hb]; omega
  simp only [Builtin.append_, List.getElem?_toArray, List.getElem?_cons_zero, List.getElem?_cons_succ, Sem.run_bind, run_underlying h1, Result.andThen_ok, run_sizeOf' hsz, run_underlying h2, Sem.run_pure, if_true, asInt, asIntOf, hw, if_neg c1]
  simp only [Sem.run_bind, run_typeInfo' hi, Result.andThen_ok, if_neg c2, Sem.run_pure, if_pos hfit, Bool.not_true, Bool.false_eq_true, if_false]
  by_cases h0 : z.toNat * size = 0
  · have hs0 : Builtin.zeroCells zv.cells z.toNat = #[] := Array.eq_empty_of_size_eq_zero (by rw [zeroCells_size, hzs]; exact h0)
    rw [hs0] at hstore
    simp only [if_pos h0, Sem.run_bind, Sem.run_pure, Result.andThen_ok]
    cases base with
    | none => simp only [Sem.run_pure, Result.ok.injEq, true_and] at hstore; subst hstore; simp
    | some ad => simp only at hstore; simp only [Sem.run_bind, hstore, Result.andThen_ok, Sem.run_pure]
  · simp only [if_neg h0, Sem.run_bind, hzr, Sem.run_pure, Result.andThen_ok]
    cases base with
    | none => simp only [Sem.run_pure, Result.ok.injEq, true_and] at hstore; subst hstore; simp
    | some ad => simp only at hstore; simp only [Sem.run_bind, hstore, Result.andThen_ok, Sem.run_pure]

theorem appendz_grows {P : Program} {w : World} {ts tx elem size bytes : Nat} {ty : TypeId} {zv : Value} {k : IntKind} (h1 : P.underlying ts = some (.slice elem)) (h2 : P.underlying tx = some (.int k)) (hsz : (P.info? elem).map (·.size) = some size)
    (hb : (P.info? elem).map (·.bytes) = some bytes) (hz : (P.info? elem).bind (·.zero) = some zv) (hzs : zv.cells.size = size) {base : Option Addr} {n cap : Nat} {z : Int} (hz0 : 0 ≤ z) (hz1 : z * bytes ≤ 281474976710656) (hz2 : z < 9223372036854775808) {os : List Value} (hfit : ¬ n + z.toNat ≤ cap) (hroom : room (n + z.toNat) bytes = true)
    (hold : ∀ w' : World, w'.heap = w.heap → (Builtin.firstCells size n (.slice base n cap)).run P w' = .ok os.toArray w') :
    ∃ nc, n + z.toNat ≤ nc ∧ (Builtin.append_ #[ts, tx] ty #[.slice base n cap, .int .i64 z]).run P w =
      .ok (.slice (some ⟨w.heap.size, 0, none⟩) (n + z.toNat) nc) (World.alloc (World.drew1 w) (.cells (os.toArray ++ (Builtin.zeroCells zv.cells z.toNat).toList.toArray ++ Builtin.zeroCells zv.cells (nc - (n + z.toNat))) elem)) := by
  rw [Option.map_eq_some_iff] at hb
  obtain ⟨i, hi, hb⟩ := hb
  have hzr : ∀ w' : World, (zeroValue elem).run P w' = .ok zv w' := by
    intro w'
    rw [hi, Option.bind_some] at hz
    simp [zeroValue, run_typeInfo' hi, hz]
  have hw := wrap_i64 hz0 hz2
  have c1 : ¬ (z < 0) := by omega
  have c2 : ¬ (z * (i.bytes : Int) > 2 ^ 48) := by rw [hb]; omega
  simp only [room, decide_eq_true_eq] at hroom
  have hcap : ¬ (Builtin.nextslicecap (n + z.toNat) cap * i.bytes > 2 ^ 48) := by
    rw [hb]
    have h3 : Builtin.nextslicecap (n + z.toNat) cap ≤ 4 * (n + z.toNat) + 8192 := nextcap_le (by omega)
    have := Nat.mul_le_mul_right bytes h3
    omega
  have hneed : ¬ (((n + z.toNat : Nat) : Int) > IntKind.i64.max ∧ (True ∨ i.bytes = 0)) := by
    intro hh
    have : ((n + z.toNat : Nat) : Int) > 9223372036854775807 := hh.1
    omega
  refine ⟨(Question.appendCap (n + z.toNat) cap elem).cut (w.tape w.drawn (.appendCap (n + z.toNat) cap elem)), by simp only [Question.cut]; omega, ?_⟩
  simp only [Builtin.append_, List.getElem?_toArray, List.getElem?_cons_zero, List.getElem?_cons_succ, Sem.run_bind, run_underlying h1, Result.andThen_ok, run_sizeOf' hsz, run_underlying h2, Sem.run_pure, if_true, asInt, asIntOf, hw, if_neg c1]
  simp only [Sem.run_bind, run_typeInfo' hi, Result.andThen_ok, if_neg c2, Sem.run_pure, if_neg hfit, Bool.not_true, Bool.false_eq_true, if_false]
  rw [if_neg hneed]
  simp only [Sem.run_bind, run_typeInfo' hi, Result.andThen_ok]
  rw [if_neg hcap]
  simp only [Sem.run_bind, run_choose, Question.forced, Bool.false_eq_true, if_false, Result.andThen_ok, run_typeInfo' hi, run_askRoom]
  have e : ({ w with drawn := w.drawn + 1 } : World) = World.drew1 w := rfl
  rw [e, hold (World.drew1 w) rfl]
  simp only [Result.andThen_ok]
  by_cases h0 : z.toNat * size = 0
  · have hs0 : Builtin.zeroCells zv.cells z.toNat = #[] := Array.eq_empty_of_size_eq_zero (by rw [zeroCells_size, hzs]; exact h0)
    simp only [if_pos h0, Sem.run_bind, Sem.run_pure, Result.andThen_ok, hzr, newRow, run_newObj, hs0]
    rfl
  · simp only [if_neg h0, Sem.run_bind, Sem.run_pure, Result.andThen_ok, hzr, newRow, run_newObj]
    rfl

theorem s_appz (hst : St B ρg gl X.gid ρ h w) (hG : gl.length = X.G) (ha : AR ρ h.length nt a A) {p q : Operand} {ts tx elem bytes : Nat} {k : IntKind} {z : ACells} {zv : Value} {x y : MX}
    (ho : o.op = .call { callee := .builtin .append, args := #[p, q], argTypes := #[ts, tx] }) (hc : chkX X p x = true) (hd : chkX X q y = true) (h1 : X.P.underlying ts = some (.slice elem)) (h2 : X.P.underlying tx = some (.int k)) (hsz : (X.P.info? elem).map (·.size) = some z.len)
    (hb : (X.P.info? elem).map (·.bytes) = some bytes) (hb0 : 0 < bytes) (hz : (X.P.info? elem).bind (·.zero) = some zv) (hzc : chkC z zv = true) (h0 : 0 < z.len) (hzv : zv.cells.size = z.len)
    {r : AV × AHeap × List Nat} {call : CallT} (hr : aop call (.appz z bytes x y) a h = some r) : Out X B ρg gl ρ h w A o r.1 r.2.1 := by
  simp only [aop, Option.bind_eq_some_iff] at hr
  obtain ⟨s, q1, xv, q2, hr⟩ := hr
  obtain ⟨e1, e2⟩ := aeval_sound ha (fun i hi => hst.pre i (by omega)) hc q1
  obtain ⟨f1, f2⟩ := aeval_sound ha (fun i hi => hst.pre i (by omega)) hd q2
  split at hr
  case h_2 => cases hr
  rename_i n
  split at hr
  case isFalse => cases hr
  rename_i hn
  simp only [R] at f2
  have hn2 : n < 9223372036854775808 := by
    have : n * 1 ≤ n * (bytes : Int) := Int.mul_le_mul_of_nonneg_left (by omega) hn.1
    omega
  refine out_of_run ho (s := Builtin.append_ #[ts, tx] o.type #[A.eval p, A.eval q]) (fun cs => by simp [builtin]) ?_
  rw [f2]
  have hzl := ACells.len_list z
  have hzc' := hzc
  simp only [chkC, Bool.and_eq_true] at hzc'
  have src : Src ρ h (repl z n.toNat) n.toNat z.len (Builtin.zeroCells zv.cells n.toNat).toList := by
    refine ⟨?_, by simp [zeroCells_size, hzv], repl_lt (chkC_lt hzc)⟩
    have := Rs_zeros (ρ := ρ) hzc'.1 (n := z.len) hzl.symm h0 (len := n.toNat) (m := n.toNat * zv.cells.size) (by rw [hzv])
    exact this
  refine append_core (xs := .nilp) (elem := elem) hst src h0 e2 e1 hzv (run := fun sv w => (Builtin.append_ #[ts, tx] o.type #[sv, .int .i64 n]).run X.P w) hr ?_ ?_
  · intro base m cap w' hs hfit hstore
    show (Builtin.append_ #[ts, tx] o.type #[A.eval p, .int .i64 n]).run X.P w = _
    rw [hs]
    exact appendz_fits h1 h2 hsz hb hz hzv hn.1 hn.2 hn2 hfit hstore
  · intro base m cap os hs hfit hroom hold
    show ∃ nc, _ ∧ (Builtin.append_ #[ts, tx] o.type #[A.eval p, .int .i64 n]).run X.P w = _
    rw [hs]
    exact appendz_grows h1 h2 hsz hb hz hzv hn.1 hn.2 hn2 hfit hroom hold

theorem sub_sub (c : ACells) (off a b : Nat) (h : b ≤ a) : (c.sub off a).sub 0 b = c.sub off b := by
  cases c <;> simp only [ACells.sub, List.drop_zero, List.take_take, Nat.min_eq_left h]

/-- The first k elements of a slice. -/
theorem slice_pre (hst : Rep B ρ h w) {x : AV} {e m k : Nat} {c : ACells} (hc : sliceCells h e x = some c) (hn : slen x = some m) {v : Value} (hr : R ρ x v) (hk : k ≤ m) :
    ∃ us : List Value, Rs ρ (c.sub 0 (k * e)).list us ∧ us.length = k * e ∧ (c.sub 0 (k * e)).lt h.length = true ∧ ∃ p cap, v = .slice p m cap ∧
      (∀ (P : Program) (w' : World), w'.heap = w.heap → (match p with | some a => loadCells a (k * e) | none => pure #[]).run P w' = .ok us.toArray w') := by
  have hke : k * e ≤ m * e := Nat.mul_le_mul_right _ hk
  cases x <;> simp only [sliceCells] at hc <;> first | (cases hc; done) | skip
  · rename_i b off n cap
    simp only [slen, Option.some.injEq] at hn; subst hn
    simp only [Option.bind_eq_some_iff] at hc
    obtain ⟨cc, hcc, hc⟩ := hc
    split at hc
    case isFalse => cases hc
    rename_i hle
    simp only [Option.some.injEq] at hc; subst hc
    rw [sub_sub _ _ _ _ hke]
    simp only [R] at hr
    obtain ⟨q, rfl, h1, h2⟩ := hr
    obtain ⟨us, k1, k2, k3, p', cap', k4, k5⟩ := slice_cells hst (x := .sl b off k cap) (e := e) (n := k) (c := cc.sub off (k * e)) (by simp only [sliceCells, hcc, Option.bind_some]; rw [if_pos (by omega)]) rfl (v := .slice (some q) k cap) (by simp only [R]; exact ⟨q, rfl, h1, by omega⟩)
    cases k4
    exact ⟨us, k1, k2, k3, _, _, rfl, k5⟩
  · rename_i b off n e' mn
    simp only [slen, Option.some.injEq] at hn; subst hn
    split at hc
    case isFalse => cases hc
    rename_i hee; subst hee
    simp only [Option.bind_eq_some_iff] at hc
    obtain ⟨cc, hcc, hc⟩ := hc
    split at hc
    case isFalse => cases hc
    rename_i hle
    simp only [Option.some.injEq] at hc; subst hc
    rw [sub_sub _ _ _ _ hke]
    have hs : sliceCells h e' (.gsl b off k e' mn) = some (cc.sub off (k * e')) := by simp only [sliceCells, if_true, hcc, Option.bind_some]; rw [if_pos (by omega)]
    simp only [R] at hr
    rcases hr with ⟨q, cap, rfl, h1, h2⟩ | ⟨hm, h0, rfl⟩
    · obtain ⟨us, k1, k2, k3, p', cap', k4, k5⟩ := slice_cells hst (x := .gsl b off k e' mn) (e := e') (n := k) hs rfl (v := .slice (some ⟨ρ.blk b, q, none⟩) k cap) (by simp only [R]; exact Or.inl ⟨q, cap, rfl, by omega, h2⟩)
      cases k4
      exact ⟨us, k1, k2, k3, _, _, rfl, k5⟩
    · have hk0 : k = 0 := by omega
      subst hk0
      obtain ⟨us, k1, k2, k3, p', cap', k4, k5⟩ := slice_cells hst (x := .gsl b off 0 e' mn) (e := e') (n := 0) hs rfl (v := .slice none 0 0) (by simp only [R]; exact Or.inr ⟨hm, trivial, trivial⟩)
      cases k4
      exact ⟨us, k1, k2, k3, none, 0, by rw [h0], k5⟩

theorem strCells_list (s : ByteArray) : (strCells s).list = s.data.toList.map (fun b => AV.int .u8 (b.toNat : Int)) := by simp [strCells, ACells.list, Function.comp_def]

theorem Rs_strCells (ρ : Env) (s : ByteArray) : Rs ρ (strCells s).list (s.data.toList.map fun b => Value.int .u8 b.toNat) := by
  rw [strCells_list]
  generalize s.data.toList = l
  induction l with
  | nil => rfl
  | cons b l ih => simp only [List.map_cons, Rs]; exact ⟨_, _, rfl, rfl, ih⟩

theorem extract_len (s : ByteArray) (n : Nat) : (s.extract 0 (min s.size n)).data.toList.length = min s.size n := by
  have : (s.extract 0 (min s.size n)).size = min s.size n := by rw [ByteArray.size_extract]; omega
  simp only [ByteArray.size, Array.length_toList] at this ⊢
  omega

theorem run_copy {P : Program} {w w' : World} {ts tx elem esz : Nat} {ty : TypeId} {d q : Value} {base : Option Addr} {n' c' m : Nat} {us : List Value} (h1 : P.underlying ts = some (.slice elem)) (hsz : (P.info? elem).map (·.size) = some esz)
    (hd : d = .slice base n' c') (hl : (Builtin.lenOf q).run P w = .ok m w) (hf : (Builtin.firstCells esz (min m n') q).run P w = .ok us.toArray w)
    (hs : (match base with | some a => storeCells a us | none => pure ()).run P w = .ok () w') : (Builtin.copy_ #[ts, tx] ty #[d, q]).run P w = .ok (goInt (min m n' : Nat)) w' := by
  subst hd
  have e : Nat.min m n' = min m n' := rfl
  cases base with
  | none =>
    simp only [Sem.run_pure, Result.ok.injEq, true_and] at hs; subst hs
    simp [Builtin.copy_, run_underlying h1, hl, run_sizeOf' hsz, e, hf]
  | some a =>
    simp only at hs
    simp [Builtin.copy_, run_underlying h1, hl, run_sizeOf' hsz, e, hf, hs]

theorem s_cpy (hst : St B ρg gl X.gid ρ h w) (hG : gl.length = X.G) (ha : AR ρ h.length nt a A) {p q : Operand} {ts tx elem esz : Nat} {x y : MX}
    (ho : o.op = .call { callee := .builtin .copy, args := #[p, q], argTypes := #[ts, tx] }) (hc : chkX X p x = true) (hd : chkX X q y = true) (h1 : X.P.underlying ts = some (.slice elem)) (hsz : (X.P.info? elem).map (·.size) = some esz)
    {r : AV × AHeap × List Nat} {call : CallT} (hr : aop call (.cpy esz x y) a h = some r) : Out X B ρg gl ρ h w A o r.1 r.2.1 := by
  simp only [aop, Option.bind_eq_some_iff] at hr
  obtain ⟨d, q1, s, q2, n, q3, hr⟩ := hr
  obtain ⟨e1, e2⟩ := aeval_sound ha (fun i hi => hst.pre i (by omega)) hc q1
  obtain ⟨f1, f2⟩ := aeval_sound ha (fun i hi => hst.pre i (by omega)) hd q2
  refine out_of_run ho (s := Builtin.copy_ #[ts, tx] o.type #[A.eval p, A.eval q]) (fun cs => by simp [builtin]) ?_
  -- the store, whatever the source
  have store : ∀ (b off n' c' k : Nat) (us : List Value) (vs : List AV) (h' : AHeap), d = .sl b off n' c' → Rs ρ vs us → (∀ v ∈ vs, v.lt h.length = true) → us.length = k * esz → k ≤ n' → change h b (fun c => storeL c off vs) = some h' →
      ∃ base w', A.eval p = .slice base n' c' ∧ (match base with | some a => storeCells a us | none => pure ()).run X.P w = .ok () w' ∧ Post X B ρg gl ρ h w (.int .i64 k) h' (goInt k) w' := by
    intro b off n' c' k us vs h' hdd hrs hlt hlen hk hch
    subst hdd
    simp only [R] at e2
    obtain ⟨qo, g1, g2, g3⟩ := e2
    obtain ⟨w', r1, r2, r3, r4⟩ := hst.rep.change hch (fun c0 c1 hcc => storeL_splice hcc) hrs hlt X.P
    refine ⟨_, w', g1, ?_, post_mem hst (Agree.refl _ _) rfl rfl r2 r3 (by omega)⟩
    by_cases hus : us = []
    · subst hus; simpa [storeCells] using r1
    · have : c' ≠ 0 := by
        rintro rfl
        have : k = 0 := by omega
        subst this
        exact hus (List.eq_nil_of_length_eq_zero (by rw [hlen]; simp))
      rw [g2 this]; exact r1
  split at hr
  · rename_i s
    split at hr
    case h_2 => cases hr
    rename_i b off n' c'
    split at hr
    case isFalse => cases hr
    rename_i hes; subst hes
    simp only [slen, Option.some.injEq] at q3; subst q3
    simp only [Option.map_eq_some_iff] at hr
    obtain ⟨h', hch, rfl⟩ := hr
    simp only [R] at f2
    obtain ⟨base, w', g1, g2, g3⟩ := store b off n' c' (min s.size n') ((s.extract 0 (min s.size n')).data.toList.map fun b => Value.int .u8 b.toNat) _ h' rfl (Rs_strCells ρ _) (by rw [strCells_list]; intro v hv; obtain ⟨u, _, rfl⟩ := List.mem_map.1 hv; rfl) (by simp [extract_len]) (by omega) hch
    refine ⟨goInt (min s.size n' : Nat), w', ?_, g3⟩
    have hf : (Builtin.firstCells 1 (min s.size n') (.string s)).run X.P w = .ok ((s.extract 0 (min s.size n')).data.toList.map fun b => Value.int .u8 b.toNat).toArray w := by
      simp only [Builtin.firstCells, Sem.run_pure, Result.ok.injEq, and_true]
      apply Array.toList_inj.1
      simp [ByteArray.data_extract]
    refine run_copy h1 hsz g1 (q := A.eval q) (m := s.size) (by rw [f2]; rfl) (by rw [f2]; exact hf) ?_
    exact g2
  · rename_i hns
    simp only [Option.bind_eq_some_iff] at hr
    obtain ⟨m, q4, c, q5, hr⟩ := hr
    split at hr
    case h_2 => cases hr
    rename_i b off n' c'
    simp only [slen, Option.some.injEq] at q3; subst q3
    simp only [Option.map_eq_some_iff] at hr
    obtain ⟨h', hch, rfl⟩ := hr
    obtain ⟨us, k1, k2, k3, pq, cap, k4, k5⟩ := slice_pre hst.rep q5 q4 f2 (k := min m n') (by omega)
    obtain ⟨base, w', g1, g2, g3⟩ := store b off n' c' (min m n') us _ h' rfl k1 (fun v hv => (ACells.lt_list.1 k3 v hv).1) k2 (by omega) hch
    refine ⟨goInt (min m n' : Nat), w', ?_, g3⟩
    refine run_copy h1 hsz g1 (q := A.eval q) (m := m) (by rw [k4]; rfl) (by rw [k4, firstCells_slice]; exact k5 X.P w rfl) ?_
    exact g2

end
end Go.Proofs.YtdpbbagllhfjbaaDoorW.AI

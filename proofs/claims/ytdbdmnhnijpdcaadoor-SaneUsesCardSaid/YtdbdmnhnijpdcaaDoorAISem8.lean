import Derived.Test.YtdbdmnhnijpdcaaDoorAISem7
/-! Operations: lengths, least and greatest, texts of bytes, appends, copies. -/
namespace Go.Proofs.YtdbdmnhnijpdcaaDoorW.AI
open Go
set_option linter.unusedVariables false
set_option linter.unusedSimpArgs false

section
variable {X : Ctx} {B : Nat} {ρg : Env} {gl : AHeap} {ρ : Env} {h h' : AHeap} {w : World} {nt : Nat} {a : Acts} {A : Act} {v : AV} {o : Oper}

/-- A call of a builtin. -/
theorem exec_builtin {b : Builtin} {args : Array Operand} {ats : Array TypeId} (ho : o.op = .call { callee := .builtin b, args, argTypes := ats }) :
    ∃ cs, execOp A.eval o = builtin b ats o.type cs (args.map A.eval) := by
  refine ⟨args.map fun x => match x with | .const _ => true | _ => false, ?_⟩
  simp only [execOp, ho, resolve, invoke, pure_bind]
  rfl

theorem s_lens (hst : St B ρg gl X.gid ρ h w) (hG : gl.length = X.G) (ha : AR ρ h.length nt a A) {p : Operand} {t : Nat} {x : MX} (ho : o.op = .call { callee := .builtin .len, args := #[p], argTypes := #[t] }) (hc : chkX X p x = true)
    (hs : X.P.underlying t = some .string) {r : AV × AHeap × List Nat} {call : CallT}
    (hr : aop call (.lens x) a h = some r) : Out X B ρg gl ρ h w A o r.1 r.2.1 := by
  simp only [aop, Option.bind_eq_some_iff] at hr
  obtain ⟨xv, h0, hr⟩ := hr
  obtain ⟨e1, e2⟩ := aeval_sound ha (fun i hi => hst.pre i (by omega)) hc h0
  split at hr
  · simp only [Option.some.injEq] at hr; subst hr
    simp only [R] at e2
    refine out_value hst (x := goInt _) ?_ rfl rfl
    obtain ⟨bcs, hbcs⟩ := exec_builtin (A := A) ho
    rw [hbcs]
    simp [builtin, Builtin.len_, run_underlying hs, e2]
  · cases hr

theorem slen_R {ρ : Env} {x : AV} {n : Nat} {v : Value} (h : slen x = some n) (hr : R ρ x v) : ∃ p c, v = .slice p n c := by
  cases x <;> simp only [slen] at h <;> first | (cases h; done) | skip
  · simp only [Option.some.injEq] at h; subst h; simp only [R] at hr; exact ⟨_, _, hr⟩
  · simp only [Option.some.injEq] at h; subst h; simp only [R] at hr; obtain ⟨q, e, _⟩ := hr; exact ⟨_, _, e⟩
  · simp only [Option.some.injEq] at h; subst h; simp only [R] at hr
    rcases hr with ⟨q, c, e, _⟩ | ⟨_, h2, e⟩
    · exact ⟨_, _, e⟩
    · subst h2; exact ⟨_, _, e⟩

theorem s_len (hst : St B ρg gl X.gid ρ h w) (hG : gl.length = X.G) (ha : AR ρ h.length nt a A) {p : Operand} {t : Nat} {arr : Option Nat} {x : MX} (ho : o.op = .call { callee := .builtin .len, args := #[p], argTypes := #[t] }) (hc : chkX X p x = true)
    (hs : (match arr with
      | some n => (∃ e, X.P.underlying t = some (.array n e)) ∨ (∃ e e', X.P.underlying t = some (.pointer e) ∧ X.P.underlying e = some (.array n e'))
      | none => ∃ e, X.P.underlying t = some (.slice e))) {r : AV × AHeap × List Nat} {call : CallT}
    (hr : aop call (.len arr x) a h = some r) : Out X B ρg gl ρ h w A o r.1 r.2.1 := by
  simp only [aop, Option.bind_eq_some_iff] at hr
  obtain ⟨xv, h0, hr⟩ := hr
  obtain ⟨e1, e2⟩ := aeval_sound ha (fun i hi => hst.pre i (by omega)) hc h0
  split at hr
  · rename_i n
    simp only [Option.some.injEq] at hr; subst hr
    refine out_value hst (x := goInt n) ?_ rfl rfl
    obtain ⟨bcs, hbcs⟩ := exec_builtin (A := A) ho
    rw [hbcs]
    simp only at hs
    rcases hs with ⟨e, hs⟩ | ⟨e, e', hs, hs'⟩
    · simp [builtin, Builtin.len_, run_underlying hs]
    · simp [builtin, Builtin.len_, run_underlying hs, run_underlying hs']
  · simp only [Option.map_eq_some_iff] at hr
    obtain ⟨n, h1, rfl⟩ := hr
    obtain ⟨q, c, e3⟩ := slen_R h1 e2
    simp only at hs
    obtain ⟨e, hs⟩ := hs
    refine out_value hst (x := goInt n) ?_ rfl rfl
    obtain ⟨bcs, hbcs⟩ := exec_builtin (A := A) ho
    rw [hbcs]
    simp [builtin, Builtin.len_, run_underlying hs, e3]

theorem s_mnx (hst : St B ρg gl X.gid ρ h w) (hG : gl.length = X.G) (ha : AR ρ h.length nt a A) {args : Array Operand} {ats : Array Nat} {mx : Bool} {xs : List MX} (ho : o.op = .call { callee := .builtin (if mx then .max else .min), args, argTypes := ats })
    (hc : chkXs X args.toList xs = true) {r : AV × AHeap × List Nat} {call : CallT}
    (hr : aop call (.mnx mx xs) a h = some r) : Out X B ρg gl ρ h w A o r.1 r.2.1 := by
  simp only [aop, Option.bind_eq_some_iff] at hr
  obtain ⟨vs, h0, hr⟩ := hr
  obtain ⟨e1, e2⟩ := aevals_sound ha (fun i hi => hst.pre i (by omega)) hc h0
  split at hr
  · cases hr
  · rename_i v0 vs
    simp only [Option.map_eq_some_iff] at hr
    obtain ⟨u, h1, rfl⟩ := hr
    simp only [Rs] at e2
    obtain ⟨x0, xs', e3, e4, e5⟩ := e2
    obtain ⟨y, f1, f2, f3⟩ := aminmax_sound (P := X.P) (w := w) h1 e4 e5
    have hl : u.lt h.length = true := by
      rcases f3 with rfl | f3
      · exact AV.lts_iff.1 e1 _ (by simp)
      · exact AV.lt_mono (Nat.zero_le _) _ f3
    refine out_value hst (x := y) ?_ hl f2
    obtain ⟨bcs, hbcs⟩ := exec_builtin (A := A) ho
    rw [hbcs]
    have hto : (args.map A.eval).toList = x0 :: xs' := by simpa using e3
    cases mx
    · simp only [Bool.false_eq_true, if_false] at f1 ⊢
      simp only [builtin, Builtin.min_, hto, Sem.run_bind, f1, Result.andThen_ok, Sem.run_pure]
    · simp only [if_true] at f1 ⊢
      simp only [builtin, Builtin.max_, hto, Sem.run_bind, f1, Result.andThen_ok, Sem.run_pure]

/-- The cells of a slice, as the machine reads them. -/
theorem slice_cells (hst : Rep B ρ h w) {x : AV} {e n : Nat} {c : ACells} (hc : sliceCells h e x = some c) (hn : slen x = some n) {v : Value} (hr : R ρ x v) :
    ∃ us : List Value, Rs ρ c.list us ∧ us.length = n * e ∧ c.lt h.length = true ∧ ∃ p cap, v = .slice p n cap ∧ (∀ (P : Program) (w' : World), w'.heap = w.heap → (match p with | some a => loadCells a (n * e) | none => pure #[]).run P w' = .ok us.toArray w') := by
  have go : ∀ b off (cc : ACells), cellsAt h b = some cc → off + n * e ≤ cc.len → c = cc.sub off (n * e) → ∀ (cap : Nat) (q : Addr), n ≤ cap → (cap ≠ 0 → q = ⟨ρ.blk b, ρ.base b + off, none⟩) →
      ∃ us : List Value, Rs ρ c.list us ∧ us.length = n * e ∧ c.lt h.length = true ∧ (∀ (P : Program) (w' : World), w'.heap = w.heap → (loadCells q (n * e)).run P w' = .ok us.toArray w') := by
    intro b off cc hcc hle hsub cap q hcap hq
    obtain ⟨blk, hb1, hb2, rfl⟩ := cellsAt_some hcc
    have hl := hst.lies b blk hb1 hb2
    have hcl : c.list = (blk.c.list.drop off).take (n * e) := by
      subst hsub
      cases blk.c with
      | ints k l => simp [ACells.sub, ACells.list, List.map_take, List.map_drop]
      | vals l => rfl
    have hlen : c.list.length = n * e := by
      rw [hcl]; rw [ACells.len_list] at hle; simp; omega
    have hget : ∀ j, j < n * e → ∃ y, w.cell? (ρ.addr b (off + j)) = some y ∧ ∃ u, c.list[j]? = some u ∧ R ρ u y := by
      intro j hj
      have hcj : ∃ u, blk.c.get? (off + j) = some u := ACells.get_some (by omega)
      obtain ⟨u, hu⟩ := hcj
      obtain ⟨y, h1, h2⟩ := hl.cell hu
      refine ⟨y, h1, u, ?_, h2⟩
      rw [hcl, List.getElem?_take, if_pos hj, List.getElem?_drop, ← ACells.get_list]; exact hu
    have key : ∀ m, m ≤ n * e → ∃ us : List Value, us.length = m ∧ ∀ j u, us[j]? = some u → w.cell? (ρ.addr b (off + j)) = some u ∧ ∃ a, c.list[j]? = some a ∧ R ρ a u := by
      intro m
      induction m with
      | zero => exact fun _ => ⟨[], rfl, fun j u hj => by simp at hj⟩
      | succ m ih =>
        intro hm
        obtain ⟨us, hu1, hu2⟩ := ih (by omega)
        obtain ⟨y, h1, u, h2, h3⟩ := hget m (by omega)
        refine ⟨us ++ [y], by simp [hu1], fun j u' hj => ?_⟩
        by_cases hjm : j < m
        · rw [List.getElem?_append_left (by omega)] at hj
          exact hu2 j u' hj
        · have : j = m := by
            have := (List.getElem?_eq_some_iff.1 hj).1
            simp [hu1] at this; omega
          subst this
          rw [List.getElem?_append_right (by omega)] at hj
          simp [hu1] at hj
          subst hj
          exact ⟨h1, u, h2, h3⟩
    obtain ⟨us, hu1, hu2⟩ := key (n * e) (Nat.le_refl _)
    refine ⟨us, Rs_of_get (by omega) fun i a v ha hv => ?_, hu1, ?_, fun P w' hw => ?_⟩
    · obtain ⟨_, a', ha', hra⟩ := hu2 i v hv
      rw [ha] at ha'; cases ha'; exact hra
    · refine ACells.lt_list.2 fun u hu => ?_
      rw [hcl] at hu
      exact ACells.lt_list.1 (hst.wf b blk hb1 hb2) u (List.mem_of_mem_drop (List.mem_of_mem_take hu))
    · by_cases hz : n * e = 0
      · have : us = [] := List.eq_nil_of_length_eq_zero (by omega)
        subst this
        rw [hz]; simp [loadCells, loadCellsFrom]
      · have hn0 : n ≠ 0 := by rintro rfl; simp at hz
        have hq' := hq (by omega)
        subst hq'
        have : (⟨ρ.blk b, ρ.base b + off, none⟩ : Addr) = ρ.addr b off := rfl
        rw [this]
        refine run_loadCells_env hu1 fun j u hj => ?_
        have := (hu2 j u hj).1
        simp only [World.cell?, hw] at this ⊢
        exact this
  cases x <;> simp only [sliceCells] at hc <;> first | (cases hc; done) | skip
  · rename_i b off n' cap
    simp only [slen, Option.some.injEq] at hn; subst hn
    simp only [Option.bind_eq_some_iff] at hc
    obtain ⟨cc, h1, h2⟩ := hc
    split at h2
    · rename_i hle
      simp only [Option.some.injEq] at h2
      simp only [R] at hr
      obtain ⟨q, e1, e2, e3⟩ := hr
      obtain ⟨us, k1, k2, k3, k4⟩ := go b off cc h1 hle h2.symm cap q e3 e2
      exact ⟨us, k1, k2, k3, _, _, e1, k4⟩
    · cases h2
  · rename_i b off n' e' mn
    simp only [slen, Option.some.injEq] at hn; subst hn
    split at hc
    case isFalse => cases hc
    rename_i hee; subst hee
    simp only [Option.bind_eq_some_iff] at hc
    obtain ⟨cc, h1, h2⟩ := hc
    split at h2
    · rename_i hle
      simp only [Option.some.injEq] at h2
      simp only [R] at hr
      rcases hr with ⟨q, cap, e1, e2, e3⟩ | ⟨e1, e2, e3⟩
      · obtain ⟨us, k1, k2, k3, k4⟩ := go b off cc h1 hle h2.symm cap ⟨ρ.blk b, q, none⟩ e2 (fun hne => by rw [(e3 hne).1])
        exact ⟨us, k1, k2, k3, _, _, e1, k4⟩
      · subst e2
        obtain ⟨us, k1, k2, k3, k4⟩ := go b off cc h1 hle h2.symm 0 ⟨0, 0, none⟩ (Nat.le_refl _) (fun hne => absurd rfl hne)
        have : us = [] := List.eq_nil_of_length_eq_zero (by omega)
        subst this
        exact ⟨[], k1, k2, k3, none, 0, e3, fun P w' _ => by simp⟩
    · cases h2

theorem run_pushBytes {P : Program} {w : World} {ρ : Env} {f : Value → ByteArray → Sem (ForInStep ByteArray)} (hf : ∀ n s, f (.int .u8 n) s = pure (ForInStep.yield (s.push (UInt8.ofNat n.toNat)))) :
    ∀ (l : List Int) (us : List Value) (s : ByteArray), Rs ρ (l.map (AV.int .u8)) us → (forIn us s f).run P w = .ok ⟨(s.data.toList ++ l.map fun n => UInt8.ofNat n.toNat).toArray⟩ w
  | [], us, s, h => by
    simp only [List.map_nil, Rs] at h; subst h
    simp
  | n :: l, us, s, h => by
    simp only [List.map_cons, Rs, R] at h
    obtain ⟨v, vs, rfl, rfl, h2⟩ := h
    simp only [List.forIn_cons, hf, Sem.run_bind, Sem.run_pure, Result.andThen_ok]
    rw [run_pushBytes hf l vs _ h2]
    congr 2
    simp [ByteArray.push]

theorem s_cstr (hst : St B ρg gl X.gid ρ h w) (hG : gl.length = X.G) (ha : AR ρ h.length nt a A) {s d e : Nat} {p : Operand} {x : MX} (ho : o.op = .convert s d p) (hc : chkX X p x = true)
    (hs : X.P.underlying s = some (.slice e)) (hd : X.P.underlying d = some .string) (he : X.P.underlying e = some (.int .u8)) {r : AV × AHeap × List Nat} {call : CallT}
    (hr : aop call (.cstr x) a h = some r) : Out X B ρg gl ρ h w A o r.1 r.2.1 := by
  simp only [aop, Option.bind_eq_some_iff] at hr
  obtain ⟨xv, h0, hr⟩ := hr
  obtain ⟨e1, e2⟩ := aeval_sound ha (fun i hi => hst.pre i (by omega)) hc h0
  split at hr
  · simp only [Option.some.injEq] at hr; subst hr
    simp only [R] at e2
    refine out_value hst (x := .string ByteArray.empty) ?_ rfl rfl
    simp [execOp, ho, convert, run_underlying hs, run_underlying hd, run_underlying he, e2, Conv.bytesToString]
  · simp only [Option.bind_eq_some_iff, Option.map_eq_some_iff] at hr
    obtain ⟨c, h1, st, h2, rfl⟩ := hr
    have hn : ∃ n, slen xv = some n := by cases xv <;> simp [sliceCells] at h1 <;> exact ⟨_, rfl⟩
    obtain ⟨n, hn⟩ := hn
    obtain ⟨us, k1, k2, k3, q, cap, k4, k5⟩ := slice_cells hst.rep h1 hn e2
    unfold bytesOf at h2
    split at h2
    case h_2 => cases h2
    rename_i l
    simp only [Option.some.injEq] at h2; subst h2
    refine out_value hst (x := .string ⟨(l.map fun (n : Int) => UInt8.ofNat n.toNat).toArray⟩) ?_ rfl rfl
    have := k5 X.P w rfl
    rw [Nat.mul_one] at this
    cases q with
    | none =>
      simp only [Sem.run_pure, Result.ok.injEq, and_true] at this
      have hus : us = [] := by simpa using this.symm
      subst hus
      have hl : l = [] := by
        have := Rs_length k1; simp [ACells.list] at this; exact this
      subst hl
      simp [execOp, ho, convert, run_underlying hs, run_underlying hd, run_underlying he, k4, Conv.bytesToString]
      rfl
    | some ad =>
      simp only at this
      simp only [execOp, ho, convert, Sem.run_bind, run_underlying hs, run_underlying hd, run_underlying he, Result.andThen_ok, k4, Conv.bytesToString, this]
      rw [← Array.forIn_toList]
      rw [run_pushBytes (ρ := ρ) (fun n s => rfl) l us ByteArray.empty (by simpa [ACells.list] using k1)]
      simp

end
end Go.Proofs.YtdbdmnhnijpdcaaDoorW.AI

import Derived.Test.YtdbdmnhnijpdcaaDoorAISem6
/-! Operations: literals, makes, lengths, appends, copies. -/
namespace Go.Proofs.YtdbdmnhnijpdcaaDoorW.AI
open Go
set_option linter.unusedVariables false
set_option linter.unusedSimpArgs false

theorem Rs_set {ρ : Env} : ∀ {as : List AV} {vs : List Value} (i : Nat) {a : AV} {v : Value}, Rs ρ as vs → R ρ a v → Rs ρ (as.set i a) (vs.set i v)
  | [], vs, i, a, v, h, _ => by simp only [Rs] at h; subst h; simp [Rs]
  | x :: xs, vs, i, a, v, h, hr => by
    simp only [Rs] at h
    obtain ⟨u, us, rfl, h1, h2⟩ := h
    cases i with
    | zero => simp only [List.set_cons_zero, Rs]; exact ⟨v, us, rfl, hr, h2⟩
    | succ i => simp only [List.set_cons_succ, Rs]; exact ⟨u, _, rfl, h1, Rs_set i h2 hr⟩

theorem Rs_spliceL {ρ : Env} : ∀ {vs : List AV} {us : List Value} {z : List AV} {arr : Array Value} {off : Nat}, Rs ρ z arr.toList → Rs ρ vs us → Rs ρ (spliceL z off vs) (spliceA arr off us).toList
  | [], us, z, arr, off, hz, hv => by simp only [Rs] at hv; subst hv; exact hz
  | v :: vs, us, z, arr, off, hz, hv => by
    simp only [Rs] at hv
    obtain ⟨u, us', rfl, h1, h2⟩ := hv
    simp only [spliceL, spliceA]
    refine Rs_spliceL ?_ h2
    have := Rs_set off hz h1
    simpa using this

theorem Rs_splice {ρ : Env} {as bs vs : List AV} {us ws xs : List Value} {off : Nat} (h1 : Splice as bs off vs) (h2 : Splice us ws off xs) (ha : Rs ρ as us) (hv : Rs ρ vs xs) : Rs ρ bs ws := by
  have l1 := Rs_length ha
  have l2 := Rs_length hv
  refine Rs_of_get (by rw [h1.1, h2.1, l1]) fun i a v hi hj => ?_
  rw [h1.2.2 i] at hi
  rw [h2.2.2 i] at hj
  by_cases hc : off ≤ i ∧ i < off + vs.length
  · rw [if_pos hc] at hi
    rw [if_pos (by omega)] at hj
    obtain ⟨v', e1, e2⟩ := Rs_get hv hi
    rw [hj] at e1; cases e1; exact e2
  · rw [if_neg hc] at hi
    rw [if_neg (by omega)] at hj
    obtain ⟨v', e1, e2⟩ := Rs_get ha hi
    rw [hj] at e1; cases e1; exact e2

theorem spliceL_length : ∀ (vs : List AV) (z : List AV) (off : Nat), (spliceL z off vs).length = z.length
  | [], z, off => rfl
  | v :: vs, z, off => by simp [spliceL, spliceL_length vs]

theorem spliceL_mem {x : AV} : ∀ (vs : List AV) (z : List AV) (off : Nat), x ∈ spliceL z off vs → x ∈ z ∨ x ∈ vs
  | [], z, off, h => Or.inl h
  | v :: vs, z, off, h => by
    rcases spliceL_mem vs (z.set off v) (off + 1) h with h1 | h1
    · rcases List.mem_or_eq_of_mem_set h1 with h2 | h2
      · exact Or.inl h2
      · exact Or.inr (by simp [h2])
    · exact Or.inr (by simp [h1])

theorem foldl_splice (off : Nat) : ∀ (vs : List Value) (k : Nat) (arr : Array Value), (vs.zipIdx k).foldl (fun cs (x : Value × Nat) => cs.setIfInBounds (off + x.2) x.1) arr = spliceA arr (off + k) vs
  | [], k, arr => rfl
  | v :: vs, k, arr => by
    simp only [List.zipIdx_cons, List.foldl_cons, spliceA]
    rw [foldl_splice off vs (k + 1)]
    rfl

theorem fill_step (off : Nat) (v : Value) (cells : Array Value) : (v.cells.zipIdx.foldl (fun cs (x : Value × Nat) => cs.setIfInBounds (off + x.2) x.1) cells) = spliceA cells off v.cells.toList := by
  rw [← Array.foldl_toList, Array.toList_zipIdx, foldl_splice off _ 0, Nat.add_zero]

section
variable {X : Ctx} {B : Nat} {ρg : Env} {gl : AHeap} {ρ : Env} {h h' : AHeap} {w : World} {nt : Nat} {a : Acts} {A : Act} {v : AV} {o : Oper}

def chkParts (X : Ctx) (place : Nat → Option (Nat × Nat)) : List (Nat × Operand) → List (Nat × Nat × MX) → Bool
  | [], [] => true
  | (i, p) :: ps, (off, n, x) :: xs => decide (place i = some (off, n)) && chkX X p x && chkParts X place ps xs
  | _, _ => false

theorem fillA_sound (hst : St B ρg gl X.gid ρ h w) (hG : gl.length = X.G) (ha : AR ρ h.length nt a A) {place : Nat → Option (Nat × Nat)} : ∀ {ps : List (Nat × Operand)} {xs : List (Nat × Nat × MX)} {qs : List (Nat × Nat × AV)} {z cs : List AV} {arr : Array Value},
    chkParts X place ps xs = true → partsOf a xs = some qs → fillA z qs = some cs → Rs ρ z arr.toList → AV.lts h.length z = true → ∃ arr', Instr.fill place arr (ps.map fun (i, x) => (i, A.eval x)) = some arr' ∧ Rs ρ cs arr'.toList ∧ AV.lts h.length cs = true
  | [], [], qs, z, cs, arr, _, hq, hf, hr, hl => by
    simp only [partsOf, Option.some.injEq] at hq; subst hq
    simp only [fillA, Option.some.injEq] at hf; subst hf
    exact ⟨arr, rfl, hr, hl⟩
  | [], _ :: _, _, _, _, _, hc, _, _, _, _ => by simp [chkParts] at hc
  | _ :: _, [], _, _, _, _, hc, _, _, _, _ => by simp [chkParts] at hc
  | (i, p) :: ps, (off, n, x) :: xs, qs, z, cs, arr, hc, hq, hf, hr, hl => by
    simp only [chkParts, Bool.and_eq_true, decide_eq_true_eq] at hc
    obtain ⟨⟨c1, c2⟩, c3⟩ := hc
    simp only [partsOf, Option.bind_eq_some_iff, Option.map_eq_some_iff] at hq
    obtain ⟨v, q1, qs', q2, rfl⟩ := hq
    obtain ⟨e1, e2⟩ := aeval_sound ha (fun i hi => hst.pre i (by omega)) c2 q1
    simp only [fillA] at hf
    split at hf
    case isFalse => cases hf
    rename_i hn
    -- the cells of the part
    have hcs : Rs ρ v.cells (A.eval p).cells.toList := R_cells e2 (by simpa using hn.2.2)
    have hlen := Rs_length hcs
    have hlz := Rs_length hr
    obtain ⟨arr', g1, g2, g3⟩ := fillA_sound hst hG ha c3 q2 hf (Rs_spliceL (off := off) hr hcs) (AV.lts_iff.2 fun y hy => by
      rcases spliceL_mem _ _ _ hy with h1 | h1
      · exact AV.lts_iff.1 hl y h1
      · exact cells_lt e1 y h1)
    refine ⟨arr', ?_, g2, g3⟩
    simp only [List.map_cons, Instr.fill, c1]
    have h1 : (A.eval p).cells.size = n := by have : (A.eval p).cells.toList.length = n := by omega
                                              simpa using this
    have h2 : ¬ (off + (A.eval p).cells.size > arr.size) := by
      have : arr.toList.length = arr.size := by simp
      omega
    simp only [h1, ne_eq, not_true, decide_false, Bool.false_or, decide_eq_true_eq, if_neg (h1 ▸ h2)]
    rw [fill_step]
    exact g1


theorem storeL_lt {n : Nat} {c c' : ACells} {off : Nat} {vs : List AV} (h : storeL c off vs = some c') (hc : c.lt n = true) (hv : ∀ v ∈ vs, v.lt n = true) : c'.lt n = true :=
  ACells.lt_list.2 fun x hx => by
    rcases (storeL_splice h).1.mem hx with h1 | h1
    · exact ACells.lt_list.1 hc x h1
    · exact ⟨hv x h1, (storeL_splice h).2 x h1⟩

theorem fillC_sound (hst : St B ρg gl X.gid ρ h w) (hG : gl.length = X.G) (ha : AR ρ h.length nt a A) {place : Nat → Option (Nat × Nat)} : ∀ {ps : List (Nat × Operand)} {xs : List (Nat × Nat × MX)} {qs : List (Nat × Nat × AV)} {z cs : ACells} {arr : Array Value},
    chkParts X place ps xs = true → partsOf a xs = some qs → fillC z qs = some cs → Rs ρ z.list arr.toList → z.lt h.length = true → ∃ arr', Instr.fill place arr (ps.map fun (i, x) => (i, A.eval x)) = some arr' ∧ Rs ρ cs.list arr'.toList ∧ cs.lt h.length = true
  | [], [], qs, z, cs, arr, _, hq, hf, hr, hl => by
    simp only [partsOf, Option.some.injEq] at hq; subst hq
    simp only [fillC, Option.some.injEq] at hf; subst hf
    exact ⟨arr, rfl, hr, hl⟩
  | [], _ :: _, _, _, _, _, hc, _, _, _, _ => by simp [chkParts] at hc
  | _ :: _, [], _, _, _, _, hc, _, _, _, _ => by simp [chkParts] at hc
  | (i, p) :: ps, (off, n, x) :: xs, qs, z, cs, arr, hc, hq, hf, hr, hl => by
    simp only [chkParts, Bool.and_eq_true, decide_eq_true_eq] at hc
    obtain ⟨⟨c1, c2⟩, c3⟩ := hc
    simp only [partsOf, Option.bind_eq_some_iff, Option.map_eq_some_iff] at hq
    obtain ⟨v, q1, qs', q2, rfl⟩ := hq
    obtain ⟨e1, e2⟩ := aeval_sound ha (fun i hi => hst.pre i (by omega)) c2 q1
    simp only [fillC] at hf
    split at hf
    case isFalse => cases hf
    rename_i hn
    simp only [Option.bind_eq_some_iff] at hf
    obtain ⟨z', hz', hf⟩ := hf
    obtain ⟨sp, hcell⟩ := storeL_splice hz'
    have hcs : Rs ρ v.cells (A.eval p).cells.toList := R_cells e2 hcell
    have hlen := Rs_length hcs
    have hlz := Rs_length hr
    have hzl := ACells.len_list z
    have hsz : (A.eval p).cells.toList.length = (A.eval p).cells.size := by simp
    have hsa : arr.toList.length = arr.size := by simp
    have sp2 := spliceA_spec (A.eval p).cells.toList arr off (fun _ => by omega)
    obtain ⟨arr', g1, g2, g3⟩ := fillC_sound hst hG ha c3 q2 hf (Rs_splice sp sp2 hr hcs) (storeL_lt hz' hl (cells_lt e1))
    refine ⟨arr', ?_, g2, g3⟩
    simp only [List.map_cons, Instr.fill, c1]
    have h1 : (A.eval p).cells.size = n := by omega
    have h2 : ¬ (off + (A.eval p).cells.size > arr.size) := by omega
    simp only [h1, ne_eq, not_true, decide_false, Bool.false_or, decide_eq_true_eq, if_neg (h1 ▸ h2)]
    rw [fill_step]
    exact g1

def placeOf (X : Ctx) (t : Nat) (i : Nat) : Option (Nat × Nat) :=
  match X.P.underlying t with
  | some (.struct fs) => match fs[i]? with
    | some f => ((X.P.info? f.type).map (·.size)).map fun n => (f.offset, n)
    | none => none
  | some (.array _ e) => ((X.P.info? e).map (·.size)).map fun n => (i * n, n)
  | _ => none

theorem mapM_places {P : Program} {w : World} : ∀ (fs : List Field), (∀ f ∈ fs, ∃ n, (P.info? f.type).map (·.size) = some n) →
    (fs.mapM (m := Sem) fun f => do pure (f.offset, ← sizeOf f.type)).run P w = .ok (fs.map fun f => (f.offset, ((P.info? f.type).map (·.size)).getD 0)) w
  | [], _ => rfl
  | f :: fs, h => by
    obtain ⟨n, hn⟩ := h f (by simp)
    simp only [List.mapM_cons, Sem.run_bind, run_sizeOf' hn, Result.andThen_ok, Sem.run_pure]
    rw [mapM_places fs fun g hg => h g (by simp [hg])]
    simp [hn]

theorem s_bld (hst : St B ρg gl X.gid ρ h w) (hG : gl.length = X.G) (ha : AR ρ h.length nt a A) {t : Nat} {ps : Array (Nat × Operand)} {z : List AV} {xs : List (Nat × Nat × MX)} {zv : Value} (ho : o.op = .build t ps)
    (hz : (X.P.info? t).bind (·.zero) = some zv) (hzc : chkVs z zv.cells.toList = true) (hc : chkParts X (placeOf X t) ps.toList xs = true)
    (hk : (match X.P.underlying t with | some (.struct fs) => fs.toList.all (fun f => ((X.P.info? f.type).map (·.size)).isSome) | some (.array _ e) => ((X.P.info? e).map (·.size)).isSome | _ => false) = true)
    {r : AV × AHeap × List Nat} {call : CallT} (hr : aop call (.bld z xs) a h = some r) : Out X B ρg gl ρ h w A o r.1 r.2.1 := by
  simp only [aop, Option.bind_eq_some_iff, Option.map_eq_some_iff] at hr
  obtain ⟨qs, h0, cs, h1, rfl⟩ := hr
  obtain ⟨arr', g1, g2, g3⟩ := fillA_sound hst hG ha hc h0 h1 (chkVs_R ρ _ _ hzc) (AV.lts_mono (Nat.zero_le _) _ (chkVs_lt _ _ hzc))
  rw [Option.bind_eq_some_iff] at hz
  obtain ⟨i, hi, hz⟩ := hz
  have hzr : (zeroValue t).run X.P w = .ok zv w := by simp [zeroValue, run_typeInfo' hi, hz]
  refine out_value hst (x := .agg arr') ?_ (by simpa [AV.lt] using g3) (by simp only [R]; exact ⟨_, rfl, g2⟩)
  have hps : (ps.map fun x => (x.1, A.eval x.2)).toList = ps.toList.map fun x => (x.1, A.eval x.2) := by simp
  split at hk
  · rename_i fs hu
    have hall : ∀ f ∈ fs.toList, ∃ n, (X.P.info? f.type).map (·.size) = some n := by
      intro f hf
      have := List.all_eq_true.1 hk f hf
      exact Option.isSome_iff_exists.1 this
    have hm : (fs.mapM (m := Sem) fun f => do pure (f.offset, ← sizeOf f.type)).run X.P w = .ok (fs.toList.map fun f => (f.offset, ((X.P.info? f.type).map (·.size)).getD 0)).toArray w := by
      rw [Array.mapM_eq_mapM_toList]
      simp only [Sem.run_map, mapM_places fs.toList hall, Result.andThen_ok]
    have hpl : (fun i => (fs.toList.map fun f => (f.offset, ((X.P.info? f.type).map (·.size)).getD 0)).toArray[i]?) = placeOf X t := by
      funext i
      simp only [placeOf, hu, List.getElem?_toArray, List.getElem?_map, Array.getElem?_toList]
      cases hf : fs[i]? with
      | none => rfl
      | some f =>
        obtain ⟨n, hn⟩ := hall f (by rw [← Array.getElem?_toList] at hf; exact List.mem_of_getElem? hf)
        simp [hn]
    simp only [execOp, ho, Instr.build, Sem.run_bind, hzr, run_underlying hu, Result.andThen_ok, hm, hpl]
    rw [hps, g1]
    simp
  · rename_i n e hu
    obtain ⟨m, hm⟩ := Option.isSome_iff_exists.1 hk
    have hpl : (fun i => some (i * m, m)) = placeOf X t := by
      funext i
      simp only [placeOf, hu, hm, Option.map_some]
    simp only [execOp, ho, Instr.build, Sem.run_bind, hzr, run_underlying hu, Result.andThen_ok, run_sizeOf' hm, hpl]
    rw [hps, g1]
    simp
  · cases hk

theorem getElem?_replicate_flatten {α : Type} (l : List α) (hl : 0 < l.length) : ∀ (n j : Nat), ((List.replicate n l).flatten)[j]? = if j < n * l.length then l[j % l.length]? else none
  | 0, j => by simp
  | n + 1, j => by
    rw [List.replicate_succ, List.flatten_cons]
    by_cases hj : j < l.length
    · rw [List.getElem?_append_left hj, if_pos (by rw [Nat.add_mul]; omega), Nat.mod_eq_of_lt hj]
    · rw [List.getElem?_append_right (by omega), getElem?_replicate_flatten l hl n]
      have h1 : (j - l.length) % l.length = j % l.length := (Nat.mod_eq_sub_mod (by omega)).symm
      have h2 : (j - l.length < n * l.length) ↔ (j < (n + 1) * l.length) := by rw [Nat.add_mul]; omega
      by_cases hc : j < (n + 1) * l.length
      · rw [if_pos hc, if_pos (h2.2 hc), h1]
      · rw [if_neg hc, if_neg (fun h => hc (h2.1 h))]

theorem repl_list (z : ACells) (n : Nat) : (repl z n).list = (List.replicate n z.list).flatten := by
  cases z with
  | ints k l => simp [repl, ACells.list, List.map_flatten, List.map_replicate]
  | vals l => rfl

/-- Rows of zeros. -/
theorem Rs_zeros {ρ : Env} {z : ACells} {zv : Value} (hc : chkVs z.list zv.cells.toList = true) {n len : Nat} (hn : z.list.length = n) (h0 : 0 < n) {m : Nat} (hm : m = len * n) :
    Rs ρ (repl z len).list ((Array.range m).map (fun i => zv.cells[i % zv.cells.size]!)).toList := by
  have hr := chkVs_R ρ _ _ hc
  have hl := Rs_length hr
  have hsz : zv.cells.size = n := by have : zv.cells.toList.length = zv.cells.size := by simp
                                     omega
  have hlen : (List.replicate len z.list).flatten.length = len * n := by simp [hn]
  subst hm
  refine Rs_of_get (by rw [repl_list, hlen]; simp) fun i a v hi hj => ?_
  rw [repl_list, getElem?_replicate_flatten _ (by omega)] at hi
  split at hi
  · rename_i hlt
    rw [hn] at hi hlt
    simp only [Array.toList_map, Array.toList_range, List.getElem?_map, List.getElem?_range hlt, Option.map_some, Option.some.injEq] at hj
    obtain ⟨u, h1, h2⟩ := Rs_get hr hi
    have hu : zv.cells[i % zv.cells.size]! = u := by
      rw [hsz]
      have h1' : zv.cells[i % n]? = some u := by simpa using h1
      rw [getElem!_def, h1']
    rw [← hj, hu]; exact h2
  · cases hi

theorem repl_lt {z : ACells} {n m : Nat} (h : z.lt m = true) : (repl z n).lt m = true :=
  ACells.lt_list.2 fun v hv => by
    rw [repl_list, List.mem_flatten] at hv
    obtain ⟨l, h1, h2⟩ := hv
    rw [List.eq_of_mem_replicate h1] at h2
    exact ACells.lt_list.1 h v h2

theorem s_bsl (hst : St B ρg gl X.gid ρ h w) (hG : gl.length = X.G) (ha : AR ρ h.length nt a A) {t e len esz : Nat} {ps : Array (Nat × Operand)} {z : ACells} {xs : List (Nat × Nat × MX)} {zv : Value} (ho : o.op = .buildSlice t len ps)
    (hs : X.P.underlying t = some (.slice e)) (he : szIs X e esz = true) (h0 : 0 < esz) (hmax : len * esz ≤ 2 ^ 24)
    (hz : (X.P.info? e).bind (·.zero) = some zv) (hzc : chkC z zv = true) (hc : chkParts X (fun i => some (i * esz, esz)) ps.toList xs = true)
    {r : AV × AHeap × List Nat} {call : CallT} (hr : aop call (.bsl z len esz xs) a h = some r) : Out X B ρg gl ρ h w A o r.1 r.2.1 := by
  simp only [aop, Option.bind_eq_some_iff] at hr
  obtain ⟨qs, q0, cs, q1, hr⟩ := hr
  split at hr
  case isFalse => cases hr
  rename_i hzl
  simp only [Option.some.injEq] at hr; subst hr
  simp only [chkC, Bool.and_eq_true] at hzc
  rw [Option.bind_eq_some_iff] at hz
  obtain ⟨i, hi, hz⟩ := hz
  have hzr : (zeroValue e).run X.P w = .ok zv w := by simp [zeroValue, run_typeInfo' hi, hz]
  have hsz : (sizeOf e).run X.P w = .ok esz w := run_sizeOf' (by simpa [szIs] using he)
  have hz0 : z.lt h.length = true := chkC_lt (by simpa [chkC] using hzc)
  have hps : (ps.map fun x => (x.1, A.eval x.2)).toList = ps.toList.map fun x => (x.1, A.eval x.2) := by simp
  have key : ∃ zc : Array Value, (len * esz = 0 ∧ zc = #[] ∨ len * esz ≠ 0 ∧ zc = zv.cells) ∧ Rs ρ (repl z len).list ((Array.range (len * esz)).map (fun i => zc[i % zc.size]!)).toList := by
    by_cases hl : len * esz = 0
    · have : len = 0 := by rcases Nat.mul_eq_zero.1 hl with h | h <;> omega
      subst this
      refine ⟨#[], Or.inl ⟨by simp, rfl⟩, ?_⟩
      rw [repl_list]; simp [Rs]
    · exact ⟨zv.cells, Or.inr ⟨hl, rfl⟩, Rs_zeros hzc.1 (by rw [← ACells.len_list]; exact hzl) h0 rfl⟩
  obtain ⟨zc, k1, k2⟩ := key
  obtain ⟨arr', g1, g2, g3⟩ := fillC_sound hst hG ha hc q0 q1 k2 (repl_lt hz0)
  refine ⟨_, .slice (some ⟨w.heap.size, 0, none⟩) len len, World.alloc w (.cells arr' e), ?_, Or.inl rfl, s_new hst g3 g2 rfl ?_ (by simp [AV.lt])⟩
  · have hmax' : ¬ (len * esz > 2 ^ 24) := by omega
    rcases k1 with ⟨kl, rfl⟩ | ⟨kl, rfl⟩
    · simp only [execOp, ho, Instr.buildSlice, Sem.run_bind, run_underlying hs, Result.andThen_ok, hsz, if_neg hmax', if_pos kl, Sem.run_pure]
      rw [hps, g1]
      simp [newRow]
    · simp only [execOp, ho, Instr.buildSlice, Sem.run_bind, run_underlying hs, Result.andThen_ok, hsz, if_neg hmax', if_neg kl, hzr, Sem.run_pure]
      rw [hps, g1]
      simp [newRow]
  · simp only [R]
    exact ⟨_, rfl, fun _ => by simp [Env.upd], Nat.le_refl _⟩

theorem wrap_i64 {n : Int} (h0 : 0 ≤ n) (h1 : n < 9223372036854775808) : IntKind.i64.wrap n = n := by
  have hm : n % (2 ^ IntKind.i64.bits : Int) = n := Int.emod_eq_of_lt h0 (by show n < 18446744073709551616; omega)
  have hc : ¬ (n ≥ (2 ^ (IntKind.i64.bits - 1) : Int)) := by show ¬ (n ≥ 9223372036854775808); omega
  unfold IntKind.wrap
  simp only [hm]
  rw [if_neg (by simp only [Bool.and_eq_true, decide_eq_true_eq]; exact fun h => hc h.2)]

theorem s_mks (hst : St B ρg gl X.gid ρ h w) (hG : gl.length = X.G) (ha : AR ρ h.length nt a A) {t e bytes : Nat} {p q : Operand} {x y : MX} {z : ACells} {zv : Value} (ho : o.op = .makeSlice t p q) (hc : chkX X p x = true) (hd : chkX X q y = true)
    (hs : X.P.underlying t = some (.slice e)) (he : szIs X e z.list.length = true) (h0 : 0 < z.list.length) (hb : bytesIs X e bytes = true) (hz : (X.P.info? e).bind (·.zero) = some zv) (hzc : chkC z zv = true)
    {r : AV × AHeap × List Nat} {call : CallT} (hr : aop call (.mks z bytes x y) a h = some r) : Out X B ρg gl ρ h w A o r.1 r.2.1 := by
  simp only [aop, Option.bind_eq_some_iff] at hr
  obtain ⟨xv, h1, l, h2, yv, h3, c, h4, hr⟩ := hr
  obtain ⟨e1, e2⟩ := aeval_sound ha (fun i hi => hst.pre i (by omega)) hc h1
  obtain ⟨f1, f2⟩ := aeval_sound ha (fun i hi => hst.pre i (by omega)) hd h3
  obtain ⟨k, m, g1, g2, g3⟩ := asN_sound h2 e2
  obtain ⟨k', m', g1', g2', g3'⟩ := asN_sound h4 f2
  split at hr
  case isFalse => cases hr
  rename_i hcond
  obtain ⟨q1, q2, q3⟩ := hcond
  simp only [Option.some.injEq] at hr; subst hr
  simp only [chkC, Bool.and_eq_true] at hzc
  rw [Option.bind_eq_some_iff] at hz
  obtain ⟨i, hi, hz⟩ := hz
  have hzr : (zeroValue e).run X.P w = .ok zv w := by simp [zeroValue, run_typeInfo' hi, hz]
  have hsz : (sizeOf e).run X.P w = .ok z.list.length w := run_sizeOf' (by simpa [szIs] using he)
  have hbi : i.bytes = bytes := by simp only [bytesIs, decide_eq_true_eq, hi, Option.map_some, Option.some.injEq] at hb; exact hb
  have hz0 : z.lt h.length = true := chkC_lt (by simpa [chkC] using hzc)
  have w1 : IntKind.i64.wrap m = l := by rw [wrap_i64 g2 (by omega)]; omega
  have w2 : IntKind.i64.wrap m' = c := by rw [wrap_i64 g2' (by omega)]; omega
  have key : ∃ zc : Array Value, (c * z.list.length = 0 ∧ zc = #[] ∨ c * z.list.length ≠ 0 ∧ zc = zv.cells) ∧ Rs ρ (repl z c).list ((Array.range (c * z.list.length)).map (fun i => zc[i % zc.size]!)).toList := by
    by_cases hl : c * z.list.length = 0
    · have : c = 0 := by rcases Nat.mul_eq_zero.1 hl with h | h <;> omega
      subst this
      refine ⟨#[], Or.inl ⟨by simp, rfl⟩, ?_⟩
      rw [repl_list]; simp [Rs]
    · exact ⟨zv.cells, Or.inr ⟨hl, rfl⟩, Rs_zeros hzc.1 rfl h0 rfl⟩
  obtain ⟨zc, k1, k2⟩ := key
  refine ⟨_, .slice (some ⟨w.heap.size, 0, none⟩) l c, World.alloc w (.cells _ e), ?_, Or.inl rfl, s_new hst (repl_lt hz0) k2 rfl ?_ (by simp [AV.lt])⟩
  · have hbig : ¬ ((bytes : Int) * (c : Int) > 2 ^ 48) := by
      have : (bytes : Int) * (c : Int) = ((bytes * c : Nat) : Int) := by simp
      rw [this]; omega
    simp only [execOp, ho, Instr.makeSlice, Sem.run_bind, run_underlying hs, Result.andThen_ok, asInt, g1, g1', asIntOf, Sem.run_pure, run_typeInfo' hi, w1, w2]
    simp only [Bool.or_eq_true, decide_eq_true_eq]
    rw [if_neg (by rw [hbi]; simp only [not_or]; exact ⟨⟨⟨by omega, hbig⟩, by omega⟩, by omega⟩)]
    rcases k1 with ⟨kl, rfl⟩ | ⟨kl, rfl⟩
    · simp only [Int.toNat_natCast, run_askRoom, Result.andThen_ok, Sem.run_bind, hsz, if_pos kl, newRow]
      simp
    · simp only [Int.toNat_natCast, run_askRoom, Result.andThen_ok, Sem.run_bind, hsz, if_neg kl, hzr, newRow]
      simp
  · simp only [R]
    exact ⟨_, rfl, fun _ => by simp [Env.upd], q1⟩

end
end Go.Proofs.YtdbdmnhnijpdcaaDoorW.AI

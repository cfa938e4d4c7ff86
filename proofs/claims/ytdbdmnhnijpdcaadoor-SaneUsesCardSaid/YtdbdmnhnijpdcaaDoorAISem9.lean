import Derived.Test.YtdbdmnhnijpdcaaDoorAISem8
/-! Appends. -/
namespace Go.Proofs.YtdbdmnhnijpdcaaDoorW.AI
open Go
set_option linter.unusedVariables false
set_option linter.unusedSimpArgs false

theorem growBy_le (n : Nat) : ∀ (r c : Nat), Builtin.growBy n r c ≤ max c (n + (n + 768) / 4)
  | 0, c => by simp only [Builtin.growBy]; omega
  | r + 1, c => by
    simp only [Builtin.growBy]
    split
    · omega
    · have := growBy_le n r (c + (c + 768) / 4)
      omega

theorem nextcap_le {need old : Nat} (h : old < need) : Builtin.nextslicecap need old ≤ 4 * need + 8192 := by
  unfold Builtin.nextslicecap
  split
  · omega
  · split
    · omega
    · have := growBy_le need 4 old
      omega

def World.drew1 (w : World) : World := { w with drawn := w.drawn + 1 }

section
variable {P : Program} {w : World} {ts tx elem size bytes : Nat} {ty : TypeId}

theorem firstCells_slice {p : Option Addr} {n c : Nat} (e m : Nat) : Builtin.firstCells e m (.slice p n c) = (match p with | some a => loadCells a (m * e) | none => pure #[]) := by
  cases p <;> rfl

/-- What is told of an append of a slice's elements: the types. -/
structure AppTy (P : Program) (ts tx elem size bytes : Nat) (zv : Value) : Prop where
  ts : P.underlying ts = some (.slice elem)
  tx : ∃ e, P.underlying tx = some (.slice e)
  size : (P.info? elem).map (·.size) = some size
  bytes : (P.info? elem).map (·.bytes) = some bytes
  zero : (P.info? elem).bind (·.zero) = some zv

theorem append_fits {zv : Value} (T : AppTy P ts tx elem size bytes zv) {base q : Option Addr} {n m cap xc : Nat} {us : List Value} {w' : World} (hfit : n + m ≤ cap)
    (hload : (Builtin.firstCells size m (.slice q m xc)).run P w = .ok us.toArray w) (hstore : (match base with | some a => storeCells (a.add (n * size)) us | none => pure ()).run P w = .ok () w') :
    (Builtin.append_ #[ts, tx] ty #[.slice base n cap, .slice q m xc]).run P w = .ok (.slice base (n + m) cap) w' := by
  obtain ⟨d, h1⟩ := T.tx
  simp only [Builtin.append_, List.getElem?_toArray, List.getElem?_cons_zero, List.getElem?_cons_succ, Sem.run_bind, run_underlying T.ts, Result.andThen_ok, run_sizeOf' T.size, run_underlying h1, Sem.run_pure]
  simp only [Bool.false_eq_true, if_false, Builtin.lenOf, Sem.run_bind, Sem.run_pure, Result.andThen_ok, if_pos hfit, Bool.not_false, if_true, hload]
  cases base with
  | none =>
    simp only [Sem.run_pure, Result.ok.injEq, true_and] at hstore
    subst hstore
    simp
  | some a =>
    simp only at hstore
    simp only [Sem.run_bind, hstore, Result.andThen_ok, Sem.run_pure]

theorem append_grows {zv : Value} (T : AppTy P ts tx elem size bytes zv) {base q : Option Addr} {n m cap xc : Nat} {os us : List Value} (hfit : ¬ n + m ≤ cap) (hroom : room (n + m) bytes = true)
    (hold : ∀ w' : World, w'.heap = w.heap → (Builtin.firstCells size n (.slice base n cap)).run P w' = .ok os.toArray w') (hload : ∀ w' : World, w'.heap = w.heap → (Builtin.firstCells size m (.slice q m xc)).run P w' = .ok us.toArray w') :
    ∃ nc, n + m ≤ nc ∧ (Builtin.append_ #[ts, tx] ty #[.slice base n cap, .slice q m xc]).run P w =
      .ok (.slice (some ⟨w.heap.size, 0, none⟩) (n + m) nc) (World.alloc (World.drew1 w) (.cells (os.toArray ++ us.toArray ++ Builtin.zeroCells zv.cells (nc - (n + m))) elem)) := by
  obtain ⟨d, h1⟩ := T.tx
  have hb := T.bytes
  rw [Option.map_eq_some_iff] at hb
  obtain ⟨i, hi, hb⟩ := hb
  have hzr : ∀ w' : World, (zeroValue elem).run P w' = .ok zv w' := by
    intro w'
    have := T.zero
    rw [hi, Option.bind_some] at this
    simp [zeroValue, run_typeInfo' hi, this]
  simp only [room, decide_eq_true_eq] at hroom
  have hcap : ¬ (Builtin.nextslicecap (n + m) cap * i.bytes > 2 ^ 48) := by
    rw [hb]
    have h3 : Builtin.nextslicecap (n + m) cap ≤ 4 * (n + m) + 8192 := nextcap_le (by omega)
    have := Nat.mul_le_mul_right bytes h3
    omega
  have hneed : ¬ (((n + m : Nat) : Int) > IntKind.i64.max ∧ (False ∨ i.bytes = 0)) := by
    intro hh
    have : ((n + m : Nat) : Int) > 9223372036854775807 := hh.1
    omega
  refine ⟨(Question.appendCap (n + m) cap elem).cut (w.tape w.drawn (.appendCap (n + m) cap elem)), by simp only [Question.cut]; omega, ?_⟩
  simp only [Builtin.append_, List.getElem?_toArray, List.getElem?_cons_zero, List.getElem?_cons_succ, Sem.run_bind, run_underlying T.ts, Result.andThen_ok, run_sizeOf' T.size, run_underlying h1, Sem.run_pure]
  simp only [Bool.false_eq_true, if_false, Builtin.lenOf, Sem.run_bind, Sem.run_pure, Result.andThen_ok, if_neg hfit, Bool.not_false, if_true, run_typeInfo' hi]
  rw [if_neg hneed]
  simp only [Sem.run_bind, run_typeInfo' hi, Result.andThen_ok]
  rw [if_neg hcap]
  simp only [Sem.run_bind, run_choose, Question.forced, Bool.false_eq_true, if_false, Result.andThen_ok, run_typeInfo' hi, run_askRoom]
  have e : ({ w with drawn := w.drawn + 1 } : World) = World.drew1 w := rfl
  rw [e, hold (World.drew1 w) rfl]
  simp only [Result.andThen_ok]
  rw [hload (World.drew1 w) rfl]
  simp only [Result.andThen_ok, hzr, newRow, Sem.run_bind, run_newObj, Sem.run_pure]
  rfl

end

theorem Rep.drew {B : Nat} {ρ : Env} {h : AHeap} {w : World} (r : Rep B ρ h w) : Rep B ρ h (World.drew1 w) := r.same fun _ _ _ _ _ => rfl

theorem Fr.drew (ρ : Env) (h : AHeap) (w : World) : Fr ρ h w ρ h (World.drew1 w) := ⟨rfl, rfl, rfl, Nat.le_refl _, fun _ _ _ => rfl, fun _ h => Or.inr h, fun _ h => Or.inr h⟩

/-- The heap behind an append that may have stayed in place. -/
def superHeap (h : AHeap) (b : Nat) (o : Bool) (c c' : ACells) : AHeap :=
  ((if o then reTip b h.length h else h).set b ⟨.old h.length, c⟩) ++ [⟨.tip true, c'⟩]

theorem reTip_get {b j i : Nat} {h : AHeap} : (reTip b j h)[i]? = (h[i]?).map fun x => if x.st = .old b then { x with st := .old j } else x := by
  simp [reTip]

theorem superHeap_length (h : AHeap) (b : Nat) (o : Bool) (c c' : ACells) : (superHeap h b o c c').length = h.length + 1 := by
  cases o <;> simp [superHeap, reTip]

theorem superHeap_get {h : AHeap} {b : Nat} {o : Bool} {c c' : ACells} (hb : h[b]? = some ⟨.tip o, c⟩) {i : Nat} {x : ABlk} (hx : (superHeap h b o c c')[i]? = some x) :
    (i = h.length ∧ x = ⟨.tip true, c'⟩) ∨ (i = b ∧ x = ⟨.old h.length, c⟩) ∨ (i < h.length ∧ i ≠ b ∧ ∃ y, h[i]? = some y ∧ x.c = y.c ∧ ((x.st = y.st ∧ ¬ (o = true ∧ y.st = .old b)) ∨ (o = true ∧ y.st = .old b ∧ x.st = .old h.length))) := by
  have hlt : b < h.length := (List.getElem?_eq_some_iff.1 hb).1
  have hl : ((if o then reTip b h.length h else h).set b (⟨.old h.length, c⟩ : ABlk)).length = h.length := by cases o <;> simp [reTip]
  rcases getElem?_snoc hx with ⟨h1, h2⟩ | ⟨h1, h2⟩
  · rw [hl] at h1
    by_cases e : i = b
    · subst e
      refine Or.inr (Or.inl ⟨rfl, ?_⟩)
      rw [List.getElem?_set_self (by cases o <;> simp [reTip, hlt])] at h2
      exact (Option.some.inj h2).symm
    · refine Or.inr (Or.inr ⟨h1, e, ?_⟩)
      rw [List.getElem?_set_ne (Ne.symm e)] at h2
      cases o
      · exact ⟨x, by simpa using h2, rfl, Or.inl ⟨rfl, by simp⟩⟩
      · simp only [if_true, reTip_get, Option.map_eq_some_iff] at h2
        obtain ⟨y, h3, rfl⟩ := h2
        refine ⟨y, h3, by split <;> rfl, ?_⟩
        split
        · rename_i hs; exact Or.inr ⟨rfl, hs, rfl⟩
        · rename_i hs; exact Or.inl ⟨rfl, fun hh => hs hh.2⟩
  · rw [hl] at h1
    exact Or.inl ⟨h1, h2⟩

theorem Rep.super {B : Nat} {ρ ρ' : Env} {h : AHeap} {w w' : World} (r : Rep B ρ h w) {b : Nat} {o : Bool} {c c' : ACells} (hb : h[b]? = some ⟨.tip o, c⟩) (ag : Agree h.length ρ ρ')
    (hl : ∀ (i : Nat) (x : ABlk), h[i]? = some x → x.st ≠ .dead → Lies ρ i x.c w') (hl' : Lies ρ' h.length c' w') (hlt : c'.lt h.length = true)
    (hfz : ∀ (i : Nat) (x : ABlk) (o : Bool), h[i]? = some x → x.st = .tip o → ρ.sz i ≠ 0 → ∀ q, ρ.base i ≤ q → q < ρ.base i + ρ.sz i → w'.frozen? ⟨ρ.blk i, q, none⟩ = false)
    (hown : ρ'.sz h.length ≠ 0 → B ≤ ρ'.blk h.length ∧ ∀ q, ρ'.base h.length ≤ q → q < ρ'.base h.length + ρ'.sz h.length → w'.frozen? ⟨ρ'.blk h.length, q, none⟩ = false)
    (hsh : ρ'.sz h.length ≠ 0 → (∀ (i : Nat) (x : ABlk), h[i]? = some x → x.st ≠ .dead → ρ.sz i ≠ 0 → ρ.blk i ≠ ρ'.blk h.length) ∨
      (ρ'.blk h.length = ρ.blk b ∧ ρ.sz b ≠ 0 ∧ ρ.base b + c.len ≤ ρ'.base h.length + c'.len)) :
    Rep B ρ' (superHeap h b o c c') w' := by
  have hblt : b < h.length := (List.getElem?_eq_some_iff.1 hb).1
  constructor
  · intro i x hx hd
    have hm : h.length ≤ (superHeap h b o c c').length := by rw [superHeap_length]; omega
    rcases superHeap_get hb hx with ⟨_, rfl⟩ | ⟨_, rfl⟩ | ⟨_, _, y, hy, hc, hs⟩
    · exact ACells.lt_mono hm hlt
    · exact ACells.lt_mono hm (show c.lt h.length = true from r.wf b _ hb (by simp))
    · rw [hc]
      refine ACells.lt_mono hm (r.wf i y hy ?_)
      rcases hs with ⟨hs, _⟩ | ⟨_, hs, _⟩
      · rw [← hs]; exact hd
      · rw [hs]; simp
  · intro i x t hx ht
    rw [superHeap_length]
    rcases superHeap_get hb hx with ⟨_, rfl⟩ | ⟨_, rfl⟩ | ⟨_, _, y, hy, hc, hs⟩
    · simp at ht
    · simp only [BSt.old.injEq] at ht; omega
    · rcases hs with ⟨hs, _⟩ | ⟨_, _, hs⟩
      · have := r.old i y t hy (hs ▸ ht); omega
      · rw [hs] at ht; simp only [BSt.old.injEq] at ht; omega
  · intro i x hx hd
    have key : ∀ y : ABlk, h[i]? = some y → y.st ≠ .dead → i < h.length → Lies ρ' i y.c w' := by
      intro y hy hyd hi
      obtain ⟨a1, a2, a3⟩ := ag i hi
      have h1 := hl i y hy hyd
      refine ⟨by rw [a3]; exact h1.1, fun hz => ?_⟩
      rw [a3] at hz
      obtain ⟨arr, T, fz, g1, g2, g3⟩ := h1.2 hz
      refine ⟨arr, T, fz, by rw [a1]; exact g1, by rw [a2, a3]; exact g2, fun j v hj => ?_⟩
      obtain ⟨u, q1, q2⟩ := g3 j v hj
      exact ⟨u, by rw [a2]; exact q1, R_agree ag v u (ACells.get_lt (r.wf i y hy hyd) hj) q2⟩
    rcases superHeap_get hb hx with ⟨rfl, rfl⟩ | ⟨rfl, rfl⟩ | ⟨hi, _, y, hy, hc, hs⟩
    · exact hl'
    · exact key ⟨.tip o, c⟩ hb (by simp) hblt
    · rw [hc]
      refine key y hy ?_ hi
      rcases hs with ⟨hs, _⟩ | ⟨_, hs, _⟩
      · rw [← hs]; exact hd
      · rw [hs]; simp
  · intro i x o' hx ht hz
    rcases superHeap_get hb hx with ⟨rfl, rfl⟩ | ⟨rfl, rfl⟩ | ⟨hi, _, y, hy, hc, hs⟩
    · exact hown hz
    · simp at ht
    · rcases hs with ⟨hs, _⟩ | ⟨_, _, hs⟩
      · obtain ⟨a1, a2, a3⟩ := ag i hi
        rw [a3] at hz
        rw [a1, a2, a3]
        exact ⟨(r.own i y o' hy (hs ▸ ht) hz).1, hfz i y o' hy (hs ▸ ht) hz⟩
      · rw [hs] at ht; simp at ht
  · intro i x hx ht hz
    rcases superHeap_get hb hx with ⟨rfl, rfl⟩ | ⟨rfl, rfl⟩ | ⟨hi, _, y, hy, hc, hs⟩
    · simp at ht
    · simp at ht
    · rcases hs with ⟨hs, _⟩ | ⟨_, _, hs⟩
      · obtain ⟨a1, a2, a3⟩ := ag i hi
        rw [a3] at hz
        rw [a1]
        exact r.ext i y hy (hs ▸ ht) hz
      · rw [hs] at ht; simp at ht
  · intro i j x y o' hx hy hij ht hd hz1 hz2 e
    -- what y was
    have hyw : j = h.length ∨ (j < h.length ∧ ∃ y0 : ABlk, h[j]? = some y0 ∧ y0.st ≠ .dead ∧ y.c = y0.c ∧ ((j = b ∧ y.st = .old h.length) ∨ (j ≠ b ∧ o = true ∧ y0.st = .old b ∧ y.st = .old h.length) ∨ (j ≠ b ∧ y.st = y0.st ∧ ¬ (o = true ∧ y0.st = .old b)))) := by
      rcases superHeap_get hb hy with ⟨h1, _⟩ | ⟨rfl, rfl⟩ | ⟨hj, hjb, y0, hy0, hc, hs⟩
      · exact Or.inl h1
      · exact Or.inr ⟨hblt, _, hb, by simp, rfl, Or.inl ⟨rfl, rfl⟩⟩
      · refine Or.inr ⟨hj, y0, hy0, ?_, hc, ?_⟩
        · rcases hs with ⟨hs, _⟩ | ⟨_, hs, _⟩
          · rw [← hs]; exact hd
          · rw [hs]; simp
        · rcases hs with ⟨hs, hn⟩ | ⟨ho, hs, hn⟩
          · exact Or.inr (Or.inr ⟨hjb, hs, hn⟩)
          · exact Or.inr (Or.inl ⟨hjb, ho, hs, hn⟩)
    rcases superHeap_get hb hx with ⟨rfl, rfl⟩ | ⟨rfl, rfl⟩ | ⟨hi, hib, x0, hx0, hc, hs⟩
    · -- the new face
      simp only [BSt.tip.injEq] at ht; subst ht
      rcases hyw with h1 | ⟨hj, y0, hy0, hyd, hyc, hst⟩
      · exact absurd h1.symm hij
      · obtain ⟨a1, a2, a3⟩ := ag j hj
        rw [a3] at hz2; rw [a1] at e
        refine ⟨rfl, ?_⟩
        rcases hsh hz1 with hfr | ⟨hbk, hbz, hle⟩
        · exact absurd e.symm (hfr j y0 hy0 hyd hz2)
        · rw [a2]
          have hbk' : ρ.blk b = ρ.blk j := by rw [← hbk, e]
          rcases hst with ⟨rfl, hst⟩ | ⟨hjb, ho, hs0, hst⟩ | ⟨hjb, hst, hn⟩
          · rw [hb] at hy0; cases hy0
            rw [hyc]; exact ⟨hst, hle⟩
          · obtain ⟨_, _, h3⟩ := r.sep b j _ y0 o hb hy0 (Ne.symm hjb) rfl hyd hbz hz2 hbk'
            rw [hyc]; refine ⟨hst, ?_⟩; simp only at h3 ⊢; omega
          · obtain ⟨h1, h2, _⟩ := r.sep b j _ y0 o hb hy0 (Ne.symm hjb) rfl hyd hbz hz2 hbk'
            exact absurd ⟨h1, h2⟩ hn
    · simp at ht
    · rcases hs with ⟨hs, hn⟩ | ⟨_, _, hs⟩
      · obtain ⟨a1, a2, a3⟩ := ag i hi
        rw [a3] at hz1; rw [a1] at e
        have ht0 : x0.st = .tip o' := hs ▸ ht
        rcases hyw with rfl | ⟨hj, y0, hy0, hyd, hyc, hst⟩
        · rcases hsh hz2 with hfr | ⟨hbk, hbz, _⟩
          · exact absurd e (hfr i x0 hx0 (by rw [ht0]; simp) hz1)
          · rw [hbk] at e
            obtain ⟨_, h2, _⟩ := r.sep i b x0 _ o' hx0 hb hib ht0 (by simp) hz1 hbz e
            simp at h2
        · obtain ⟨b1, b2, b3⟩ := ag j hj
          rw [b3] at hz2; rw [b1] at e
          obtain ⟨h1, h2, h3⟩ := r.sep i j x0 y0 o' hx0 hy0 hij ht0 hyd hz1 hz2 e
          rcases hst with ⟨rfl, hst⟩ | ⟨hjb, ho, hs0, hst⟩ | ⟨hjb, hst, hn'⟩
          · rw [hb] at hy0; cases hy0; simp at h2
          · rw [hs0] at h2; simp only [BSt.old.injEq] at h2; exact absurd h2.symm hib
          · rw [a2, b2, hc, hyc, hst]; exact ⟨h1, h2, h3⟩
      · rw [hs] at ht; simp at ht


section
variable {X : Ctx} {B : Nat} {ρg : Env} {gl : AHeap} {ρ : Env} {h h' : AHeap} {w : World} {nt : Nat} {a : Acts} {A : Act} {v : AV} {o : Oper}

theorem zeroCells_size (z : Array Value) (n : Nat) : (Builtin.zeroCells z n).size = n * z.size := by simp [Builtin.zeroCells]

theorem app_list {x y c : ACells} (h : x.app y = some c) : c.list = x.list ++ y.list := by
  cases x <;> cases y <;> simp only [ACells.app] at h <;> first | (cases h; done) | skip
  · split at h
    · rename_i hk; subst hk
      simp only [Option.some.injEq] at h; subst h
      simp [ACells.list]
    · cases h
  · simp only [Option.map_eq_some_iff] at h
    obtain ⟨m, h1, rfl⟩ := h
    simp [ACells.list, toInts_list h1]
  · simp only [Option.some.injEq] at h; subst h; rfl
  · simp only [Option.some.injEq] at h; subst h; rfl

theorem app_lt {n : Nat} {x y c : ACells} (h : x.app y = some c) (hx : x.lt n = true) (hy : y.lt n = true) : c.lt n = true :=
  ACells.lt_list.2 fun v hv => by
    rw [app_list h, List.mem_append] at hv
    rcases hv with hv | hv
    · exact ACells.lt_list.1 hx v hv
    · exact ACells.lt_list.1 hy v hv

theorem Fr.super {ρ' : Env} {w' : World} {b : Nat} {ob : Bool} {c c' : ACells} (hb : h[b]? = some ⟨.tip ob, c⟩) (ag : Agree h.length ρ ρ') (e1 : w'.os = w.os) (e2 : w'.tape = w.tape) (e3 : w'.output = w.output) (e4 : w.heap.size ≤ w'.heap.size)
    (hk : ∀ x, x < w.heap.size → ¬ Tips ρ h x → w'.heap[x]? = w.heap[x]?) (hn : ρ'.sz h.length ≠ 0 → w.heap.size ≤ ρ'.blk h.length ∨ Tips ρ h (ρ'.blk h.length)) : Fr ρ h w ρ' (superHeap h b ob c c') w' := by
  refine ⟨e1, e2, e3, e4, hk, fun x hx => ?_, fun x hx => ?_⟩
  · obtain ⟨i, y, o', hi, ht, hz, e⟩ := hx
    rcases superHeap_get hb hi with ⟨rfl, rfl⟩ | ⟨_, rfl⟩ | ⟨hil, _, y0, hy0, _, hs⟩
    · rw [← e]; exact hn hz
    · simp at ht
    · obtain ⟨a1, a2, a3⟩ := ag i hil
      rcases hs with ⟨hs, _⟩ | ⟨_, _, hs⟩
      · exact Or.inr ⟨i, y0, o', hy0, hs ▸ ht, by rw [← a3]; exact hz, by rw [← a1]; exact e⟩
      · rw [hs] at ht; simp at ht
  · obtain ⟨i, y, hi, ht, hz, e⟩ := hx
    rcases superHeap_get hb hi with ⟨rfl, rfl⟩ | ⟨hib, rfl⟩ | ⟨hil, _, y0, hy0, _, hs⟩
    · rw [← e]; exact (hn hz).imp id Tips.face
    · subst hib
      obtain ⟨a1, a2, a3⟩ := ag i (List.getElem?_eq_some_iff.1 hb).1
      exact Or.inr ⟨i, _, hb, ⟨by simp, by simp⟩, by rw [← a3]; exact hz, by rw [← a1]; exact e⟩
    · obtain ⟨a1, a2, a3⟩ := ag i hil
      rcases hs with ⟨hs, _⟩ | ⟨_, hs, _⟩
      · exact Or.inr ⟨i, y0, hy0, hs ▸ ht, by rw [← a3]; exact hz, by rw [← a1]; exact e⟩
      · exact Or.inr ⟨i, y0, hy0, ⟨by rw [hs]; simp, by rw [hs]; simp⟩, by rw [← a3]; exact hz, by rw [← a1]; exact e⟩

theorem Rep.void (r : Rep B ρ h w) {c : ACells} (hc : c.len = 0) : Rep B (ρ.upd h.length 0 0 0) (h ++ [.new c]) w := by
  have ag := Env.upd_agree ρ h.length 0 0 0
  have hz0 : (ρ.upd h.length 0 0 0).sz h.length = 0 := by simp [Env.upd]
  have hcl : c.list = [] := List.eq_nil_of_length_eq_zero (by rw [← ACells.len_list]; exact hc)
  generalize ρ.upd h.length 0 0 0 = ρ' at *
  constructor
  · intro i x hx hd
    rcases getElem?_snoc hx with ⟨_, hx⟩ | ⟨_, rfl⟩
    · exact ACells.lt_mono (by simp) (r.wf i x hx hd)
    · exact ACells.lt_list.2 (by simp [hcl])
  · intro i x t hx ht
    rcases getElem?_snoc hx with ⟨_, hx⟩ | ⟨_, rfl⟩
    · have := r.old i x t hx ht; simp; omega
    · simp at ht
  · intro i x hx hd
    rcases getElem?_snoc hx with ⟨hi, hx⟩ | ⟨rfl, rfl⟩
    · obtain ⟨a1, a2, a3⟩ := ag i hi
      have h1 := r.lies i x hx hd
      refine ⟨by rw [a3]; exact h1.1, fun hz => ?_⟩
      rw [a3] at hz
      obtain ⟨arr, T, fz, g1, g2, g3⟩ := h1.2 hz
      refine ⟨arr, T, fz, by rw [a1]; exact g1, by rw [a2, a3]; exact g2, fun j v hj => ?_⟩
      obtain ⟨u, q1, q2⟩ := g3 j v hj
      exact ⟨u, by rw [a2]; exact q1, R_agree ag v u (ACells.get_lt (r.wf i x hx hd) hj) q2⟩
    · exact ⟨by simp only [hc]; omega, fun hz => absurd hz0 hz⟩
  · intro i x o hx ht hz
    rcases getElem?_snoc hx with ⟨hi, hx⟩ | ⟨rfl, rfl⟩
    · obtain ⟨a1, a2, a3⟩ := ag i hi
      rw [a3] at hz; rw [a1, a2, a3]
      exact r.own i x o hx ht hz
    · exact absurd hz0 hz
  · intro i x hx ht hz
    rcases getElem?_snoc hx with ⟨hi, hx⟩ | ⟨rfl, rfl⟩
    · obtain ⟨a1, a2, a3⟩ := ag i hi
      rw [a3] at hz; rw [a1]
      exact r.ext i x hx ht hz
    · simp at ht
  · intro i j x y o hx hy hij ht hd hz1 hz2 e
    rcases getElem?_snoc hx with ⟨hi, hx⟩ | ⟨rfl, rfl⟩
    · rcases getElem?_snoc hy with ⟨hj, hy⟩ | ⟨rfl, rfl⟩
      · obtain ⟨a1, a2, a3⟩ := ag i hi
        obtain ⟨b1, b2, b3⟩ := ag j hj
        rw [a3] at hz1; rw [b3] at hz2; rw [a1, b1] at e
        rw [a2, b2]
        exact r.sep i j x y o hx hy hij ht hd hz1 hz2 e
      · exact absurd hz0 hz2
    · exact absurd hz0 hz1

theorem Fr.void {c : ACells} : Fr ρ h w (ρ.upd h.length 0 0 0) (h ++ [.new c]) w := by
  refine ⟨rfl, rfl, rfl, Nat.le_refl _, fun _ _ _ => rfl, fun x hx => ?_, fun x hx => ?_⟩
  · obtain ⟨i, y, o, hi, ht, hz, e⟩ := hx
    rcases getElem?_snoc hi with ⟨hil, hi⟩ | ⟨rfl, rfl⟩
    · obtain ⟨a1, a2, a3⟩ := Env.upd_agree ρ h.length 0 0 0 i hil
      exact Or.inr ⟨i, y, o, hi, ht, by rw [← a3]; exact hz, by rw [← a1]; exact e⟩
    · simp [Env.upd] at hz
  · obtain ⟨i, y, hi, ht, hz, e⟩ := hx
    rcases getElem?_snoc hi with ⟨hil, hi⟩ | ⟨rfl, rfl⟩
    · obtain ⟨a1, a2, a3⟩ := Env.upd_agree ρ h.length 0 0 0 i hil
      exact Or.inr ⟨i, y, hi, ht, by rw [← a3]; exact hz, by rw [← a1]; exact e⟩
    · simp [Env.upd] at hz

/-- What is appended: its cells, and that the machine reads them, whatever the draws. -/
structure Src (ρ : Env) (h : AHeap) (xs : ACells) (m e : Nat) (us : List Value) : Prop where
  rs : Rs ρ xs.list us
  len : us.length = m * e
  lt : xs.lt h.length = true

theorem Src.one {ρ : Env} {h : AHeap} {xs : ACells} {m e : Nat} {us : List Value} (s : Src ρ h xs m e us) : ∀ v ∈ us, v.oneCell' = true := by
  intro v hv
  obtain ⟨j, hj⟩ := List.mem_iff_getElem?.1 hv
  have hl := Rs_length s.rs
  have hjl : j < xs.list.length := by have := (List.getElem?_eq_some_iff.1 hj).1; omega
  obtain ⟨u, hu1, hu2⟩ := Rs_get s.rs (List.getElem?_eq_getElem hjl)
  rw [hj] at hu1; cases hu1
  exact R_oneCell hu2 (ACells.lt_list.1 s.lt _ (List.getElem_mem hjl)).2

/-- An append, whoever tells what is appended: by what it answers where it stays in place, and where it grows. -/
theorem append_core (hst : St B ρg gl X.gid ρ h w) {z : ACells} {bytes m : Nat} {s xs : AV} {c : ACells} {us : List Value} (src : Src ρ h c m z.len us) (h0 : 0 < z.len) {sv : Value} (hs : R ρ s sv) (hslt : s.lt h.length = true)
    {zv : Value} (hzv : zv.cells.size = z.len) {elem : TypeId} {run : Value → World → Result Value} {r : AV × AHeap × List Nat} (hr : aappend h z bytes s c m = some r)
    (fits : ∀ base n cap w', sv = .slice base n cap → n + m ≤ cap → (match base with | some a => storeCells (a.add (n * z.len)) us | none => pure ()).run X.P w = .ok () w' → run sv w = .ok (.slice base (n + m) cap) w')
    (grows : ∀ base n cap os, sv = .slice base n cap → ¬ n + m ≤ cap → room (n + m) bytes = true → (∀ w' : World, w'.heap = w.heap → (Builtin.firstCells z.len n (.slice base n cap)).run X.P w' = .ok (List.toArray os) w') →
      ∃ nc, n + m ≤ nc ∧ run sv w = .ok (.slice (some ⟨w.heap.size, 0, none⟩) (n + m) nc) (World.alloc (World.drew1 w) (.cells (List.toArray os ++ us.toArray ++ Builtin.zeroCells zv.cells (nc - (n + m))) elem))) :
    ∃ x w', run sv w = .ok x w' ∧ Post X B ρg gl ρ h w r.1 r.2.1 x w' := by
  -- a new block that holds what was there, and what is appended
  have fresh : ∀ (os : List Value) (oc c' : ACells) (n nc : Nat), Rs ρ oc.list os → os.length = n * z.len → oc.lt h.length = true → c'.list = oc.list ++ c.list → n + m ≤ nc →
      ∀ mn, Post X B ρg gl ρ h w (.gsl h.length 0 (n + m) z.len mn) (h ++ [.new c']) (.slice (some ⟨w.heap.size, 0, none⟩) (n + m) nc) (World.alloc (World.drew1 w) (.cells (os.toArray ++ us.toArray ++ Builtin.zeroCells zv.cells (nc - (n + m))) elem)) := by
    intro os oc c' n nc hos hol holt hcl hnc mn
    have hsz : (os.toArray ++ us.toArray ++ Builtin.zeroCells zv.cells (nc - (n + m))).size = nc * z.len := by
      simp only [Array.size_append, List.size_toArray, zeroCells_size, hol, src.len, hzv]
      rw [← Nat.add_mul, ← Nat.add_mul]; congr 1; omega
    have hrs := Rs_append hos src.rs
    rw [← hcl] at hrs
    have hlen := Rs_length hrs
    have hlt' : c'.lt h.length = true := ACells.lt_list.2 fun v hv => by
      rw [hcl, List.mem_append] at hv
      rcases hv with hv | hv
      · exact ACells.lt_list.1 holt v hv
      · exact ACells.lt_list.1 src.lt v hv
    obtain ⟨r1, r2⟩ := (hst.rep.drew).alloc (show B ≤ (World.drew1 w).heap.size from hst.le) (T := elem) (fz := (0, 0)) (arr := os.toArray ++ us.toArray ++ Builtin.zeroCells zv.cells (nc - (n + m))) hlt' (fun q _ hq => by simp at hq)
      (by rw [ACells.len_list, hlen]; simp [Array.size_append]) (fun j v hj => by
        rw [ACells.get_list] at hj
        obtain ⟨y, h1, h2⟩ := Rs_get hrs hj
        refine ⟨y, ?_, h2⟩
        rw [Array.getElem?_append_left (by have := (List.getElem?_eq_some_iff.1 h1).1; simpa using this)]
        simpa using h1)
    refine post_mem hst (Env.upd_agree _ _ _ _ _) ?_ (by simp [AV.lt]) r1 ((Fr.drew ρ h w).trans r2) (by simp)
    simp only [R]
    refine Or.inl ⟨0, nc, by simp [Env.upd]; rfl, hnc, fun _ => ⟨by simp [Env.upd], ?_⟩⟩
    simp only [Env.upd, if_true, hsz]; omega
  cases s <;> simp only [aappend] at hr <;> first | (cases hr; done) | skip
  · -- nil
    simp only [R] at hs
    split at hr
    case isFalse => cases hr
    rename_i hroom
    simp only [Option.some.injEq] at hr; subst hr
    by_cases hm : m = 0
    · subst hm
      have hus : us = [] := List.eq_nil_of_length_eq_zero (by rw [src.len]; simp)
      subst hus
      have hcl : c.len = 0 := by have := Rs_length src.rs; rw [ACells.len_list, this]; rfl
      have := fits none 0 0 w hs (by omega) rfl
      exact ⟨_, w, this, post_mem hst (Env.upd_agree _ _ _ _ _) (by simp [R]) (by simp [AV.lt]) (Rep.void hst.rep hcl) Fr.void (by simp)⟩
    · obtain ⟨nc, g1, g2⟩ := grows none 0 0 [] hs (by omega) (by rw [Nat.zero_add]; exact hroom) (fun w' _ => by simp [Builtin.firstCells])
      have := fresh [] (.vals []) c 0 nc rfl (by simp) rfl (by simp [ACells.list]) g1 (m == 0)
      rw [Nat.zero_add] at this g2
      exact ⟨_, _, g2, this⟩
  · -- a capacity that is known
    rename_i b off n cap
    simp only [R] at hs
    obtain ⟨q, e1, e2, e3⟩ := hs
    split at hr
    · rename_i hfit
      simp only [Option.map_eq_some_iff] at hr
      obtain ⟨h', hch, rfl⟩ := hr
      obtain ⟨w', g1, g2, g3, g4⟩ := hst.rep.change hch (fun c0 c1 hcc => storeL_splice hcc) src.rs (fun v hv => (ACells.lt_list.1 src.lt v hv).1) X.P
      have hstore : (storeCells (q.add (n * z.len)) us).run X.P w = .ok () w' := by
        by_cases hus : us = []
        · subst hus
          simpa [storeCells] using g1
        · have hcap : cap ≠ 0 := by
            rintro rfl
            have : us.length = 0 := by rw [src.len]; have : m = 0 := by omega
                                       rw [this]; simp
            exact hus (List.eq_nil_of_length_eq_zero this)
          rw [e2 hcap, addr_add, Nat.add_assoc]
          exact g1
      exact ⟨_, w', fits _ n cap w' e1 hfit hstore, post_mem hst (Agree.refl _ _) (by simp only [R]; exact ⟨q, rfl, e2, hfit⟩) (by simpa [AV.lt, g4] using hslt) g2 g3 (by show h.length ≤ h'.length; omega)⟩
    · rename_i hfit
      simp only [Option.bind_eq_some_iff] at hr
      obtain ⟨oc, h1, c', h2, hr⟩ := hr
      split at hr
      case isFalse => cases hr
      rename_i hroom
      simp only [Option.some.injEq] at hr; subst hr
      obtain ⟨os, k1, k2, k3, p, cap', k4, k5⟩ := slice_cells hst.rep h1 (n := n) rfl (v := sv) (by simp only [R]; exact ⟨q, e1, e2, e3⟩)
      rw [e1] at k4
      injection k4 with k41 k42 k43
      subst k41; subst k43
      obtain ⟨nc, g1, g2⟩ := grows _ n cap os e1 hfit hroom (fun w' hw => by rw [firstCells_slice]; exact k5 X.P w' hw)
      exact ⟨_, _, g2, fresh os oc c' n nc k1 k2 k3 (app_list h2) g1 false⟩
  · -- a capacity that is not
    rename_i b off n e mn
    split at hr
    case isFalse => cases hr
    rename_i he; subst he
    split at hr
    case h_2 => cases hr
    rename_i ob cb hb
    split at hr
    case isFalse => cases hr
    rename_i hoff
    simp only [Option.bind_eq_some_iff] at hr
    obtain ⟨c', h2, hr⟩ := hr
    split at hr
    case isFalse => cases hr
    rename_i hroom
    simp only [Option.some.injEq] at hr; subst hr
    have hblt : b < h.length := (List.getElem?_eq_some_iff.1 hb).1
    have hlb : Lies ρ b cb w := hst.rep.lies b _ hb (by simp)
    have hsc : sliceCells h z.len (.gsl b off n z.len mn) = some (cb.sub off (n * z.len)) := by
      simp only [sliceCells, if_true, cellsAt, hb, Option.bind_some]
      rw [if_pos (by omega)]
    obtain ⟨os, k1, k2, k3, p, cap, k4, k5⟩ := slice_cells hst.rep hsc (n := n) rfl (v := sv) hs
    have hsub : (cb.sub off (n * z.len)).list = (cb.list.drop off).take (n * z.len) := by
      cases cb with
      | ints k l => simp [ACells.sub, ACells.list, List.map_take, List.map_drop]
      | vals l => rfl
    have hc'l : c'.list = (cb.list.drop off).take (n * z.len) ++ c.list := by rw [app_list h2, hsub]
    have hll := hlb.1
    rw [ACells.len_list cb] at hoff hll
    have hlc : c.list.length = m * z.len := by have := Rs_length src.rs; rw [this, src.len]
    have hdl : ((cb.list.drop off).take (n * z.len)).length = n * z.len := by simp; omega
    have hc'len : c'.list.length = (n + m) * z.len := by rw [hc'l, List.length_append, hdl, hlc, Nat.add_mul]
    have hlt' : c'.lt h.length = true := app_lt h2 k3 src.lt
    have hs' := hs
    simp only [R] at hs'
    have hlow : ∀ (i : Nat) (x : ABlk), h[i]? = some x → x.st ≠ .dead → ρ.sz i ≠ 0 → ρ.blk i < w.heap.size := by
      intro i x hi hd hz
      obtain ⟨a, _, _, h1, _⟩ := (hst.rep.lies i x hi hd).2 hz
      exact (Array.getElem?_eq_some_iff.1 h1).1
    by_cases hfit : n + m ≤ cap
    · -- in place
      obtain ⟨ρ', hρ'⟩ : ∃ ρ', ρ' = ρ.upd h.length (ρ.blk b) (ρ.base b + off) (ρ.sz b - off) := ⟨_, rfl⟩
      have ag : Agree h.length ρ ρ' := by rw [hρ']; exact Env.upd_agree _ _ _ _ _
      have u1 : ρ'.blk h.length = ρ.blk b ∧ ρ'.base h.length = ρ.base b + off ∧ ρ'.sz h.length = ρ.sz b - off := by rw [hρ']; simp [Env.upd]
      clear hρ'
      -- the store
      have hst' : ∃ w', (match p with | some a => storeCells (a.add (n * z.len)) us | none => pure ()).run X.P w = .ok () w' ∧ (w' = w ∧ us = [] ∨
          (us ≠ [] ∧ ∃ arr T fz, w.heap[ρ.blk b]? = some (.cells arr T fz) ∧ ρ.base b + ρ.sz b ≤ arr.size ∧ ρ.sz b ≠ 0 ∧ off + n * z.len + us.length ≤ ρ.sz b ∧
            w' = World.putBlk w (ρ.blk b) (.cells (spliceA arr (ρ.base b + off + n * z.len) us) T fz))) := by
        by_cases hus : us = []
        · subst hus
          refine ⟨w, ?_, Or.inl ⟨rfl, rfl⟩⟩
          cases p <;> simp [storeCells]
        · have hm0 : m ≠ 0 := by rintro rfl; exact hus (List.eq_nil_of_length_eq_zero (by rw [src.len]; simp))
          rcases hs' with ⟨q, cap', e1, e2, e3⟩ | ⟨e1, e2, e3⟩
          · rw [e1] at k4
            injection k4 with k41 k42 k43
            subst k43; subst k41
            obtain ⟨e4, e5⟩ := e3 (by omega)
            have hle : (n + m) * z.len ≤ cap' * z.len := Nat.mul_le_mul_right _ hfit
            have hul : us.length = m * z.len := src.len
            have hpos : 0 < us.length := List.length_pos_iff.2 hus
            rw [Nat.add_mul] at hle
            have hzb : ρ.sz b ≠ 0 := by omega
            obtain ⟨arr, T, fz, h3, h4, h5⟩ := hlb.2 hzb
            have hrun := run_storeCells_env (P := X.P) us (ρ.base b + off + n * z.len) 0 arr w h3 (fun _ => by omega) (fun q q1 q2 => by
              have := (hst.rep.own b _ ob hb rfl hzb).2 q (by omega) (by omega)
              simp only [World.frozen?, h3] at this
              simpa using this) src.one
            rw [Nat.add_zero] at hrun
            refine ⟨_, ?_, Or.inr ⟨hus, arr, T, fz, h3, h4, hzb, by omega, rfl⟩⟩
            simp only [e4, addr_add]
            exact hrun
          · rw [e3] at k4
            injection k4 with k41 k42 k43
            omega
      obtain ⟨w', hrun, hw'⟩ := hst'
      have hos : w'.os = w.os ∧ w'.tape = w.tape ∧ w'.output = w.output ∧ w'.heap.size = w.heap.size := by
        rcases hw' with ⟨rfl, _⟩ | ⟨_, arr, T, fz, _, _, _, _, rfl⟩
        · exact ⟨rfl, rfl, rfl, rfl⟩
        · exact ⟨rfl, rfl, rfl, by simp [World.putBlk]⟩
      have hfz : ∀ ad, w'.frozen? ad = w.frozen? ad := by
        intro ad
        rcases hw' with ⟨rfl, _⟩ | ⟨_, arr, T, fz, h3, _, _, _, rfl⟩
        · rfl
        · exact putBlk_frozen h3 ad
      -- a block below the elder end
      have hlies : ∀ (i : Nat) (cc : ACells), Lies ρ i cc w → (ρ.sz i ≠ 0 → ρ.sz b ≠ 0 → ρ.blk i = ρ.blk b → ρ.base i + cc.len ≤ ρ.base b + off + n * z.len) → Lies ρ i cc w' := by
        intro i cc hl hle
        rcases hw' with ⟨rfl, _⟩ | ⟨hus, arr, T, fz, h3, h4, h5, h6, rfl⟩
        · exact hl
        · refine ⟨hl.1, fun hz => ?_⟩
          obtain ⟨arr', T', fz', g1, g2, g3⟩ := hl.2 hz
          by_cases e : ρ.blk i = ρ.blk b
          · rw [e, h3] at g1
            injection g1 with g1; injection g1 with g11 g12 g13
            subst g11; subst g12; subst g13
            have hs2 := spliceA_spec us arr (ρ.base b + off + n * z.len) (fun _ => by omega)
            have hsz : (spliceA arr (ρ.base b + off + n * z.len) us).size = arr.size := by simpa using hs2.1
            refine ⟨_, T, fz, by rw [e]; exact putBlk_get (Array.getElem?_eq_some_iff.1 h3).1, by omega, fun j v hj => ?_⟩
            obtain ⟨y, hy, hr⟩ := g3 j v hj
            refine ⟨y, ?_, hr⟩
            have := hs2.2.2 (ρ.base i + j)
            simp only [Array.getElem?_toList] at this
            rw [this, if_neg (by have := ACells.get_none hj; have := hle hz h5 e; omega)]
            exact hy
          · exact ⟨arr', T', fz', by rw [putBlk_ne e]; exact g1, g2, g3⟩
      refine ⟨.slice p (n + m) cap, w', fits p n cap w' k4 hfit hrun, post_mem hst ag ?_ (by show AV.lt (superHeap h b ob cb c').length (.gsl h.length 0 (n + m) z.len mn) = true; rw [superHeap_length]; simp [AV.lt]) ?_ ?_ (by show _ ≤ (superHeap h b ob cb c').length; rw [superHeap_length]; omega)⟩
      · simp only [R]
        rcases hs' with ⟨q, cap', e1, e2, e3⟩ | ⟨e1, e2, e3⟩
        · rw [e1] at k4
          injection k4 with k41 k42 k43
          subst k43; subst k41
          refine Or.inl ⟨q, cap', by rw [u1.1], hfit, fun hne => ?_⟩
          obtain ⟨g1, g2⟩ := e3 hne
          rw [u1.2.1, u1.2.2]
          exact ⟨by omega, by omega⟩
        · rw [e3] at k4
          injection k4 with k41 k42 k43
          subst k41; subst k43
          exact Or.inr ⟨e1, by omega, by rw [show n + m = 0 from by omega]⟩
      · refine Rep.super hst.rep hb ag ?_ ?_ hlt' ?_ ?_ ?_
        · intro i x hi hd
          refine hlies i x.c (hst.rep.lies i x hi hd) fun hz hzb e => ?_
          by_cases hib : i = b
          · subst hib; rw [hb] at hi; cases hi; show ρ.base i + cb.len ≤ _; rw [ACells.len_list cb]; omega
          · obtain ⟨_, _, h3⟩ := hst.rep.sep b i _ x ob hb hi (Ne.symm hib) rfl hd hzb hz e.symm
            rw [ACells.len_list] at h3 ⊢
            simp only [ACells.len_list] at h3
            omega
        · -- the new face
          refine ⟨by
            rw [ACells.len_list, hc'len, u1.2.2]
            rcases hw' with ⟨_, hus⟩ | ⟨hus, arr, T, fz, h3, h4, h5, h6, _⟩
            · have : m * z.len = 0 := by rw [← src.len, hus]; rfl
              rw [Nat.add_mul]; omega
            · rw [src.len] at h6; rw [Nat.add_mul]; omega, fun hz => ?_⟩
          rw [u1.2.2] at hz
          have hzb : ρ.sz b ≠ 0 := by omega
          obtain ⟨arr0, T0, fz0, g1, g2, g3⟩ := hlb.2 hzb
          rw [u1.1, u1.2.1, u1.2.2]
          rcases hw' with ⟨rfl, hus⟩ | ⟨hus, arr, T, fz, h3, h4, h5, h6, rfl⟩
          · refine ⟨arr0, T0, fz0, g1, by omega, fun j v hj => ?_⟩
            have hcn : c.list = [] := List.eq_nil_of_length_eq_zero (by rw [hlc, ← src.len, hus]; rfl)
            rw [ACells.get_list, hc'l, hcn, List.append_nil, List.getElem?_take] at hj
            split at hj
            · rw [List.getElem?_drop, ← ACells.get_list] at hj
              obtain ⟨y, hy, hr⟩ := g3 _ v hj
              exact ⟨y, by rw [Nat.add_assoc]; exact hy, R_agree ag v y (ACells.get_lt (hst.rep.wf b _ hb (by simp)) hj) hr⟩
            · cases hj
          · rw [h3] at g1
            injection g1 with g1; injection g1 with g11 g12 g13
            subst g11; subst g12; subst g13
            have hs2 := spliceA_spec us arr (ρ.base b + off + n * z.len) (fun _ => by omega)
            have hsz : (spliceA arr (ρ.base b + off + n * z.len) us).size = arr.size := by simpa using hs2.1
            refine ⟨_, T, fz, putBlk_get (Array.getElem?_eq_some_iff.1 h3).1, by omega, fun j v hj => ?_⟩
            have hget := hs2.2.2 (ρ.base b + off + j)
            simp only [Array.getElem?_toList] at hget
            rw [hget]
            rw [ACells.get_list, hc'l] at hj
            by_cases hjn : j < n * z.len
            · rw [List.getElem?_append_left (by omega), List.getElem?_take, if_pos hjn, List.getElem?_drop, ← ACells.get_list] at hj
              rw [if_neg (by omega)]
              obtain ⟨y, hy, hr⟩ := g3 _ v hj
              exact ⟨y, by rw [Nat.add_assoc]; exact hy, R_agree ag v y (ACells.get_lt (hst.rep.wf b _ hb (by simp)) hj) hr⟩
            · rw [List.getElem?_append_right (by omega), hdl] at hj
              have hjl : j - n * z.len < c.list.length := (List.getElem?_eq_some_iff.1 hj).1
              rw [if_pos (by rw [src.len]; omega)]
              obtain ⟨y, hy, hr⟩ := Rs_get src.rs hj
              refine ⟨y, by rw [show ρ.base b + off + j - (ρ.base b + off + n * z.len) = j - n * z.len from by omega]; exact hy, R_agree ag v y ?_ hr⟩
              exact (ACells.lt_list.1 src.lt v (List.mem_of_getElem? hj)).1
        · intro i x o' hi ht hz q q1 q2
          rw [hfz]; exact (hst.rep.own i x o' hi ht hz).2 q q1 q2
        · intro hz
          rw [u1.2.2] at hz
          have hzb : ρ.sz b ≠ 0 := by omega
          obtain ⟨g1, g2⟩ := hst.rep.own b _ ob hb rfl hzb
          rw [u1.1, u1.2.1, u1.2.2]
          exact ⟨g1, fun q q1 q2 => by rw [hfz]; exact g2 q (by omega) (by omega)⟩
        · intro hz
          rw [u1.2.2] at hz
          refine Or.inr ⟨u1.1, by omega, ?_⟩
          rw [u1.2.1, ACells.len_list, ACells.len_list, hc'len, Nat.add_mul]; omega
      · refine Fr.super hb ag hos.1 hos.2.1 hos.2.2.1 (by omega) (fun x hx ht => ?_) (fun hz => ?_)
        · rcases hw' with ⟨rfl, _⟩ | ⟨_, arr, T, fz, _, _, h5, _, rfl⟩
          · rfl
          · exact putBlk_ne fun e => ht ⟨b, _, ob, hb, rfl, h5, e.symm⟩
        · rw [u1.2.2] at hz
          exact Or.inr ⟨b, _, ob, hb, rfl, by omega, u1.1.symm⟩
    · -- it grows
      obtain ⟨nc, g1, g2⟩ := grows p n cap os k4 hfit hroom (fun w' hw => by rw [firstCells_slice]; exact k5 X.P w' hw)
      obtain ⟨ρ', ag, q2, q3, q4, q5, q6⟩ := fresh os (cb.sub off (n * z.len)) c' n nc k1 k2 k3 (app_list h2) g1 mn
      refine ⟨_, _, g2, post_mem hst ag q2 (by show AV.lt (superHeap h b ob cb c').length (.gsl h.length 0 (n + m) z.len mn) = true; rw [superHeap_length]; simp [AV.lt]) ?_ ?_ (by show _ ≤ (superHeap h b ob cb c').length; rw [superHeap_length]; omega)⟩
      · have hnew : (h ++ [ABlk.new c'])[h.length]? = some (ABlk.new c') := by simp
        refine Rep.super hst.rep hb ag ?_ (q4.rep.lies h.length _ hnew (by simp)) hlt' ?_ (fun hz => q4.rep.own h.length _ false hnew rfl hz) (fun hz => Or.inl ?_)
        · intro i x hi hd
          exact (hst.rep.lies i x hi hd).same fun hz => push_get (w := World.drew1 w) (hlow i x hi hd hz)
        · intro i x o' hi ht hz q r1 r2
          rw [World.frozen_of_block (w := w) (push_get (w := World.drew1 w) (hlow i x hi (by rw [ht]; simp) hz))]
          exact (hst.rep.own i x o' hi ht hz).2 q r1 r2
        · intro i x hi hd hzi e
          have h1 := q5.fresh (ρ'.blk h.length) ⟨h.length, _, false, hnew, rfl, hz, rfl⟩
          have h3 := hlow i x hi hd hzi
          rcases h1 with h1 | ⟨j, y, oj, hj, hjt, hjz, hje⟩
          · omega
          · have hjl : j < h.length := (List.getElem?_eq_some_iff.1 hj).1
            obtain ⟨a1, a2, a3⟩ := ag j hjl
            have hj' : (h ++ [ABlk.new c'])[j]? = some y := by rw [List.getElem?_append_left hjl]; exact hj
            obtain ⟨_, h4, _⟩ := q4.rep.sep j h.length y _ oj hj' hnew (by omega) hjt (by simp) (by rw [a3]; exact hjz) hz (by rw [a1]; exact hje)
            simp at h4
      · refine Fr.super hb ag q5.os q5.tape q5.output q5.size q5.keep (fun hz => ?_)
        exact q5.fresh _ ⟨h.length, ABlk.new c', false, by simp, rfl, hz, rfl⟩

end
end Go.Proofs.YtdbdmnhnijpdcaaDoorW.AI

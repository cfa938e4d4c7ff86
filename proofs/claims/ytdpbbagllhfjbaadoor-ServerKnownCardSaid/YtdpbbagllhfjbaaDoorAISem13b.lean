import Derived.Test.YtdpbbagllhfjbaaDoorAISem13
/-! Values whose addresses lie in a set; allocs that come up early. -/
namespace Go.Proofs.YtdpbbagllhfjbaaDoorW.AI
open Go
set_option linter.unusedVariables false
set_option linter.unusedSimpArgs false

def MOp.alloc : MOp → Bool
  | .al .. => true
  | .bx .. => true
  | .bsl .. => true
  | .mks .. => true
  | _ => false

def MOp.actor (m : MOp) : Bool := m.heap && !m.alloc

theorem MOp.alloc_heap {m : MOp} (h : m.alloc = true) : m.heap = true := by cases m <;> first | rfl | cases h
theorem MOp.actor_heap {m : MOp} (h : m.actor = true) : m.heap = true := by unfold MOp.actor at h; simp only [Bool.and_eq_true] at h; exact h.1
theorem MOp.heap_cases {m : MOp} (h : m.heap = true) : m.alloc = true ∨ m.actor = true := by
  unfold MOp.actor
  cases ha : m.alloc
  · right; rw [h]; rfl
  · left; rfl

mutual
def AV.on (S : Nat → Prop) : AV → Prop
  | .ptr b _ => S b
  | .sl b _ _ _ => S b
  | .gsl b _ _ _ _ => S b
  | .fn _ cs => AV.ons S cs
  | .agg cs => AV.ons S cs
  | .tup cs => AV.ons S cs
  | _ => True
def AV.ons (S : Nat → Prop) : List AV → Prop
  | [] => True
  | x :: xs => AV.on S x ∧ AV.ons S xs
end

theorem AV.ons_iff {S : Nat → Prop} : ∀ {l : List AV}, AV.ons S l ↔ ∀ x ∈ l, x.on S
  | [] => by simp [AV.ons]
  | x :: xs => by simp [AV.ons, AV.ons_iff (l := xs)]

mutual
theorem AV.lt_on {n : Nat} {S : Nat → Prop} (h : ∀ i, i < n → S i) : ∀ v : AV, v.lt n = true → v.on S
  | .int .., _ => trivial
  | .bool .., _ => trivial
  | .str .., _ => trivial
  | .nilp, _ => trivial
  | .ptr b o, hl => by simp only [AV.lt, decide_eq_true_eq] at hl; exact h _ hl
  | .nils, _ => trivial
  | .sl .., hl => by simp only [AV.lt, decide_eq_true_eq] at hl; exact h _ hl
  | .gsl .., hl => by simp only [AV.lt, decide_eq_true_eq] at hl; exact h _ hl
  | .nilf, _ => trivial
  | .fn f cs, hl => by simp only [AV.lt] at hl; exact AV.lts_on h cs hl
  | .agg cs, hl => by simp only [AV.lt] at hl; exact AV.lts_on h cs hl
  | .tup cs, hl => by simp only [AV.lt] at hl; exact AV.lts_on h cs hl
  | .any, _ => trivial
theorem AV.lts_on {n : Nat} {S : Nat → Prop} (h : ∀ i, i < n → S i) : ∀ l : List AV, AV.lts n l = true → AV.ons S l
  | [], _ => trivial
  | x :: xs, hl => by
    simp only [AV.lts, Bool.and_eq_true] at hl
    exact ⟨AV.lt_on h x hl.1, AV.lts_on h xs hl.2⟩
end

mutual
theorem AV.on_lt {n : Nat} {S : Nat → Prop} (h : ∀ i, S i → i < n) : ∀ v : AV, v.on S → v.lt n = true
  | .int .., _ => rfl
  | .bool .., _ => rfl
  | .str .., _ => rfl
  | .nilp, _ => rfl
  | .ptr b o, hl => by simp only [AV.lt, decide_eq_true_eq]; exact h _ hl
  | .nils, _ => rfl
  | .sl .., hl => by simp only [AV.lt, decide_eq_true_eq]; exact h _ hl
  | .gsl .., hl => by simp only [AV.lt, decide_eq_true_eq]; exact h _ hl
  | .nilf, _ => rfl
  | .fn f cs, hl => by simp only [AV.lt]; exact AV.ons_lt h cs hl
  | .agg cs, hl => by simp only [AV.lt]; exact AV.ons_lt h cs hl
  | .tup cs, hl => by simp only [AV.lt]; exact AV.ons_lt h cs hl
  | .any, _ => rfl
theorem AV.ons_lt {n : Nat} {S : Nat → Prop} (h : ∀ i, S i → i < n) : ∀ l : List AV, AV.ons S l → AV.lts n l = true
  | [], _ => rfl
  | x :: xs, hl => by
    simp only [AV.lts, Bool.and_eq_true]
    exact ⟨AV.on_lt h x hl.1, AV.ons_lt h xs hl.2⟩
end

mutual
theorem AV.on_mono {S T : Nat → Prop} (h : ∀ i, S i → T i) : ∀ v : AV, v.on S → v.on T
  | .int .., _ => trivial
  | .bool .., _ => trivial
  | .str .., _ => trivial
  | .nilp, _ => trivial
  | .ptr b o, hl => h _ hl
  | .nils, _ => trivial
  | .sl .., hl => h _ hl
  | .gsl .., hl => h _ hl
  | .nilf, _ => trivial
  | .fn f cs, hl => AV.ons_mono h cs hl
  | .agg cs, hl => AV.ons_mono h cs hl
  | .tup cs, hl => AV.ons_mono h cs hl
  | .any, _ => trivial
theorem AV.ons_mono {S T : Nat → Prop} (h : ∀ i, S i → T i) : ∀ l : List AV, AV.ons S l → AV.ons T l
  | [], _ => trivial
  | x :: xs, hl => ⟨AV.on_mono h x hl.1, AV.ons_mono h xs hl.2⟩
end

def AgreeOn (S : Nat → Prop) (ρ ρ' : Env) : Prop := ∀ i, S i → ρ'.blk i = ρ.blk i ∧ ρ'.base i = ρ.base i ∧ ρ'.sz i = ρ.sz i

mutual
theorem R_on {S : Nat → Prop} {ρ ρ' : Env} (h : AgreeOn S ρ ρ') : ∀ (a : AV) (v : Value), a.on S → R ρ a v → R ρ' a v
  | .int k m, v, _, hr => hr
  | .bool b, v, _, hr => hr
  | .str s, v, _, hr => hr
  | .nilp, v, _, hr => hr
  | .ptr b o, v, hl, hr => by
    obtain ⟨h1, h2, h3⟩ := h b hl
    simp only [R, Env.addr] at hr ⊢
    rw [h1, h2]; exact hr
  | .nils, v, _, hr => hr
  | .sl b o m c, v, hl, hr => by
    obtain ⟨h1, h2, h3⟩ := h b hl
    simp only [R] at hr ⊢
    rw [h1, h2]; exact hr
  | .gsl b o m e mn, v, hl, hr => by
    obtain ⟨h1, h2, h3⟩ := h b hl
    simp only [R] at hr ⊢
    rw [h1, h2, h3]; exact hr
  | .nilf, v, _, hr => hr
  | .fn f cs, v, hl, hr => by
    simp only [R] at hr ⊢
    obtain ⟨vs, e, hr⟩ := hr
    exact ⟨vs, e, Rs_on h cs vs.toList hl hr⟩
  | .agg cs, v, hl, hr => by
    simp only [R] at hr ⊢
    obtain ⟨vs, e, hr⟩ := hr
    exact ⟨vs, e, Rs_on h cs vs.toList hl hr⟩
  | .tup cs, v, hl, hr => by
    simp only [R] at hr ⊢
    obtain ⟨vs, e, hr⟩ := hr
    exact ⟨vs, e, Rs_on h cs vs.toList hl hr⟩
  | .any, v, _, _ => by simp only [R]
theorem Rs_on {S : Nat → Prop} {ρ ρ' : Env} (h : AgreeOn S ρ ρ') : ∀ (as : List AV) (vs : List Value), AV.ons S as → Rs ρ as vs → Rs ρ' as vs
  | [], vs, _, hr => by simpa only [Rs] using hr
  | x :: xs, vs, hl, hr => by
    simp only [Rs] at hr ⊢
    obtain ⟨v, ws, rfl, h1, h2⟩ := hr
    exact ⟨v, ws, rfl, R_on h x v hl.1 h1, Rs_on h xs ws hl.2 h2⟩
end

def ACells.on (S : Nat → Prop) (c : ACells) : Prop := ∀ x ∈ c.list, x.on S

theorem clt_on {n : Nat} {S : Nat → Prop} (h : ∀ i, i < n → S i) {c : ACells} (hc : c.lt n = true) : c.on S := fun x hx => AV.lt_on h x (ACells.lt_list.1 hc x hx).1
theorem on_mono' {S T : Nat → Prop} (h : ∀ i, S i → T i) {c : ACells} (hc : c.on S) : c.on T := fun x hx => AV.on_mono h x (hc x hx)
theorem on_get {S : Nat → Prop} {c : ACells} (hc : c.on S) {j : Nat} {v : AV} (h : c.get? j = some v) : v.on S := by
  rw [ACells.get_list] at h
  exact hc v (List.mem_of_getElem? h)

-- ------------------------------------------------------------------ what an operation answers lies where its operands do

def MX.okx (G : Nat) : MX → Bool
  | .c v => v.lt 0
  | .g i => decide (i < G)
  | _ => true
def okxp (G : Nat) : List (Nat × Nat × MX) → Bool
  | [] => true
  | (_, _, x) :: ps => x.okx G && okxp G ps
def MOp.okx (G : Nat) : MOp → Bool
  | .mv x => x.okx G
  | .pick c x y => x.okx G && y.okx G
  | .ld _ x => x.okx G
  | .cstr x => x.okx G
  | .fa _ x => x.okx G
  | .fld _ _ x => x.okx G
  | .ixa _ _ _ x _ => x.okx G
  | .ia _ _ x _ => x.okx G
  | .slc _ _ x _ _ _ => x.okx G
  | .al z => z.lt 0
  | .bx _ _ x => x.okx G
  | .bld z ps => AV.lts 0 z && okxp G ps
  | .bsl z _ _ ps => z.lt 0 && okxp G ps
  | .mf _ xs => xs.all (MX.okx G)
  | .mks z _ _ _ => z.lt 0
  | .ex _ x => x.okx G
  | .nc x => x.okx G
  | .mnx _ xs => xs.all (MX.okx G)
  | _ => true

section
variable {G : Nat} {S : Nat → Prop} {a : Acts} {h : AHeap}

theorem aeval_on (hG : ∀ i, i < G → S i) {x : MX} (hx : x.okx G = true) (ha : ∀ t ∈ x.rd, ∀ v, look a t = some v → v.on S) {v : AV} (hv : aeval a x = some v) : v.on S := by
  cases x with
  | t i =>
    simp only [aeval] at hv
    split at hv
    · cases hv
    · exact ha i (by simp [MX.rd]) v hv
  | c u =>
    simp only [aeval, Option.some.injEq] at hv; subst hv
    exact AV.lt_on (n := 0) (fun i hi => by omega) _ hx
  | f g => simp only [aeval, Option.some.injEq] at hv; subst hv; trivial
  | g i =>
    simp only [aeval, Option.some.injEq] at hv; subst hv
    simp only [MX.okx, decide_eq_true_eq] at hx
    exact hG i hx

theorem aevals_on (hG : ∀ i, i < G → S i) : ∀ {xs : List MX}, xs.all (MX.okx G) = true → (∀ t ∈ rdL xs, ∀ v, look a t = some v → v.on S) → ∀ {vs : List AV}, aevals a xs = some vs → AV.ons S vs
  | [], _, _, vs, hv => by simp only [aevals, Option.some.injEq] at hv; subst hv; trivial
  | x :: xs, hx, ha, vs, hv => by
    simp only [List.all_cons, Bool.and_eq_true] at hx
    simp only [aevals, Option.bind_eq_some_iff, Option.map_eq_some_iff] at hv
    obtain ⟨v, h1, ws, h2, rfl⟩ := hv
    exact ⟨aeval_on hG hx.1 (fun t ht => ha t (by simp [rdL, ht])) h1, aevals_on hG hx.2 (fun t ht => ha t (by simp [rdL, ht])) h2⟩

theorem partsOf_on (hG : ∀ i, i < G → S i) : ∀ {xs : List (Nat × Nat × MX)}, okxp G xs = true → (∀ t ∈ rdP xs, ∀ v, look a t = some v → v.on S) → ∀ {vs : List (Nat × Nat × AV)}, partsOf a xs = some vs → ∀ p ∈ vs, p.2.2.on S
  | [], _, _, vs, hv => by simp only [partsOf, Option.some.injEq] at hv; subst hv; simp
  | (o, n, x) :: xs, hx, ha, vs, hv => by
    simp only [okxp, Bool.and_eq_true] at hx
    simp only [partsOf, Option.bind_eq_some_iff, Option.map_eq_some_iff] at hv
    obtain ⟨v, h1, ws, h2, rfl⟩ := hv
    intro p hp
    rcases List.mem_cons.1 hp with rfl | hp
    · exact aeval_on hG hx.1 (fun t ht => ha t (by simp [rdP, ht])) h1
    · exact partsOf_on hG hx.2 (fun t ht => ha t (by simp [rdP, ht])) h2 p hp

theorem cells_on {v : AV} (hv : v.on S) : ∀ x ∈ v.cells, x.on S := by
  cases v <;> simp only [AV.cells, List.mem_singleton] <;> first
    | (rintro x rfl; exact hv)
    | exact AV.ons_iff.1 hv

theorem spliceL_mem' : ∀ {vs z : List AV} {off : Nat} {x : AV}, x ∈ spliceL z off vs → x ∈ z ∨ x ∈ vs
  | [], z, off, x, h => Or.inl h
  | v :: vs, z, off, x, h => by
    rw [spliceL] at h
    rcases spliceL_mem' h with h1 | h1
    · rcases List.mem_or_eq_of_mem_set h1 with h2 | h2
      · exact Or.inl h2
      · exact Or.inr (by rw [h2]; exact List.mem_cons_self)
    · exact Or.inr (List.mem_cons_of_mem _ h1)

theorem fillA_on : ∀ {ps : List (Nat × Nat × AV)} {z cs : List AV}, (∀ x ∈ z, x.on S) → (∀ p ∈ ps, p.2.2.on S) → fillA z ps = some cs → ∀ x ∈ cs, x.on S
  | [], z, cs, hz, _, h => by simp only [fillA, Option.some.injEq] at h; subst h; exact hz
  | (o, n, v) :: ps, z, cs, hz, hp, h => by
    simp only [fillA] at h
    split at h
    · refine fillA_on (fun x hx => ?_) (fun p h' => hp p (List.mem_cons_of_mem _ h')) h
      rcases spliceL_mem' hx with h1 | h1
      · exact hz x h1
      · exact cells_on (hp _ List.mem_cons_self) x h1
    · cases h

theorem fillC_on : ∀ {ps : List (Nat × Nat × AV)} {z c : ACells}, z.on S → (∀ p ∈ ps, p.2.2.on S) → fillC z ps = some c → c.on S
  | [], z, c, hz, _, h => by simp only [fillC, Option.some.injEq] at h; subst h; exact hz
  | (o, n, v) :: ps, z, c, hz, hp, h => by
    simp only [fillC] at h
    split at h
    · simp only [Option.bind_eq_some_iff] at h
      obtain ⟨z', h1, h2⟩ := h
      refine fillC_on (fun x hx => ?_) (fun p h' => hp p (List.mem_cons_of_mem _ h')) h2
      rcases (storeL_splice h1).1.mem hx with h3 | h3
      · exact hz x h3
      · exact cells_on (hp _ List.mem_cons_self) x h3
    · cases h

theorem repl_on {z : ACells} (hz : z.on S) (n : Nat) : (repl z n).on S := by
  cases z with
  | ints k l => intro x hx; simp only [repl, ACells.list, List.mem_map] at hx; obtain ⟨_, _, rfl⟩ := hx; trivial
  | vals l =>
    intro x hx
    simp only [repl, ACells.list, List.mem_flatten, List.mem_replicate] at hx
    obtain ⟨l', ⟨_, rfl⟩, hx⟩ := hx
    exact hz x hx

theorem mkCells_on {ik : Option IntKind} {l : List AV} {c : ACells} (hl : ∀ x ∈ l, x.on S) (h : mkCells ik l = some c) : c.on S := by
  unfold mkCells at h
  split at h
  · simp only [Option.map_eq_some_iff] at h
    obtain ⟨_, _, rfl⟩ := h
    intro x hx
    simp only [ACells.list, List.mem_map] at hx
    obtain ⟨_, _, rfl⟩ := hx
    trivial
  · split at h
    · cases h; exact hl
    · cases h

theorem apart_on {cs : List AV} {off : Nat} {g : Option Nat} {v : AV} (hc : ∀ x ∈ cs, x.on S) (h : apart cs off g = some v) : v.on S := by
  unfold apart at h
  split at h
  · exact hc v (List.mem_of_getElem? h)
  · split at h
    · cases h
      exact AV.ons_iff.2 fun x hx => hc x (List.mem_of_mem_drop (List.mem_of_mem_take hx))
    · cases h

theorem loadN_on {c : ACells} (hc : c.on S) : ∀ {n off : Nat} {l : List AV}, loadN c off n = some l → AV.ons S l
  | 0, off, l, h => by simp only [loadN, Option.some.injEq] at h; subst h; trivial
  | n + 1, off, l, h => by
    simp only [loadN, Option.bind_eq_some_iff, Option.map_eq_some_iff] at h
    obtain ⟨v, h1, l', h2, rfl⟩ := h
    exact ⟨on_get hc h1, loadN_on hc h2⟩

theorem loadA_on {c : ACells} (hc : c.on S) {off : Nat} {g : Option Nat} {v : AV} (h : loadA c off g = some v) : v.on S := by
  unfold loadA at h
  split at h
  · exact on_get hc h
  · simp only [Option.map_eq_some_iff] at h
    obtain ⟨l, h1, rfl⟩ := h
    exact loadN_on hc h1

theorem abinInt_on {op : BinOp} {k k' : IntKind} {x y : Int} {r : AV} (h : abinInt op k x k' y = some r) : r.on S := by
  cases op <;> simp only [abinInt] at h
  all_goals (first | (split at h) | skip)
  all_goals (first | (cases h; trivial) | (cases h; done) | skip)
  all_goals (first | (split at h) | skip)
  all_goals (first | (cases h; trivial) | (cases h; done) | skip)

theorem abin_on {op : BinOp} {e : List Nat} {x y r : AV} (h : abin op e x y = some r) : r.on S := by
  unfold abin at h
  split at h
  · exact abinInt_on h
  · cases op <;> simp only [abinStr] at h
    all_goals (first | (split at h) | skip)
    all_goals (first | (cases h; trivial) | (cases h; done) | skip)
  · split at h
    · simp only [Option.map_eq_some_iff] at h; obtain ⟨_, _, rfl⟩ := h; trivial
    · simp only [Option.map_eq_some_iff] at h; obtain ⟨_, _, rfl⟩ := h; trivial
    · cases h

theorem aminmax_on {mx : Bool} : ∀ {vs : List AV} {x r : AV}, x.on S → aminmax mx x vs = some r → r.on S
  | [], x, r, hx, h => by
    have : x = r := by cases x <;> simpa [aminmax] using h
    subst this; exact hx
  | y :: ys, x, r, hx, h => by
    cases x <;> cases y <;> simp only [aminmax] at h <;> first | (cases h; done) | skip
    split at h
    · exact aminmax_on (x := .int _ _) trivial h
    · cases h

/-- What does not change the heap. -/
theorem aop_on {call : CallT} {m : MOp} (hm : m.heap = false) (hk : m.okx G = true) (hG : ∀ i, i < G → S i) (ha : ∀ t ∈ m.rds, ∀ v, look a t = some v → v.on S) (hc : ∀ b c, readB m a = some b → S b → cellsAt h b = some c → c.on S)
    {v : AV} {h' : AHeap} {ws : List Nat} (hr : aop call m a h = some (v, h', ws)) : v.on S := by
  cases m <;> simp only [MOp.heap, Bool.true_eq_false] at hm <;> simp only [aop, Option.bind_eq_some_iff, Option.map_eq_some_iff] at hr <;> simp only [MOp.okx, Bool.and_eq_true] at hk <;> simp only [MOp.rds, List.mem_append] at ha
  case mv => obtain ⟨v, h1, h2⟩ := hr; cases h2; exact aeval_on hG hk ha h1
  case pick =>
    obtain ⟨c, h0, hr⟩ := hr
    split at hr
    · simp only [Option.map_eq_some_iff] at hr; obtain ⟨v, h1, h2⟩ := hr; cases h2; exact aeval_on hG hk.1 (fun t ht => ha t (Or.inl (Or.inr ht))) h1
    · simp only [Option.map_eq_some_iff] at hr; obtain ⟨v, h1, h2⟩ := hr; cases h2; exact aeval_on hG hk.2 (fun t ht => ha t (Or.inr ht)) h1
    · cases hr
  case bin => obtain ⟨x, h1, y, h2, z, h3, h4⟩ := hr; cases h4; exact abin_on h3
  case un =>
    obtain ⟨x, h1, z, h3, h4⟩ := hr; cases h4
    rename_i op _
    cases op <;> cases x <;> simp only [aun] at h3 <;> first | (cases h3; trivial) | (cases h3; done)
  case ci => obtain ⟨x, h1, hr⟩ := hr; split at hr <;> cases hr; trivial
  case cid => obtain ⟨x, h1, hr⟩ := hr; split at hr <;> cases hr; trivial
  case cstr =>
    obtain ⟨x, h1, hr⟩ := hr
    split at hr
    · cases hr; trivial
    · simp only [Option.bind_eq_some_iff, Option.map_eq_some_iff] at hr; obtain ⟨_, _, _, _, h4⟩ := hr; cases h4; trivial
  case ld =>
    obtain ⟨x, h1, hr⟩ := hr
    split at hr
    · simp only [Option.bind_eq_some_iff, Option.map_eq_some_iff] at hr
      obtain ⟨c, h2, s, h3, h4⟩ := hr
      cases h4
      exact loadA_on (hc _ c (by simp only [readB, h1]) (aeval_on hG hk ha h1) h2) h3
    · cases hr
  case fa => obtain ⟨x, h1, hr⟩ := hr; have h9 := aeval_on hG hk ha h1; split at hr <;> cases hr; exact h9
  case fld =>
    obtain ⟨x, h1, hr⟩ := hr
    split at hr
    · simp only [Option.map_eq_some_iff] at hr; obtain ⟨v, h2, h3⟩ := hr; cases h3
      exact apart_on (AV.ons_iff.1 (aeval_on hG hk ha h1)) h2
    · cases hr
  case ixa =>
    obtain ⟨x, h1, y, h2, i, h3, hr⟩ := hr
    split at hr
    · split at hr
      · simp only [Option.map_eq_some_iff] at hr; obtain ⟨v, h4, h5⟩ := hr; cases h5
        exact apart_on (AV.ons_iff.1 (aeval_on hG hk (fun t ht => ha t (Or.inl ht)) h1)) h4
      · cases hr
    · cases hr
  case ixs =>
    obtain ⟨x, h1, y, h2, i, h3, hr⟩ := hr
    split at hr
    · simp only [Option.map_eq_some_iff] at hr; obtain ⟨v, h4, h5⟩ := hr; cases h5; trivial
    · cases hr
  case ia =>
    obtain ⟨x, h1, y, h2, i, h3, hr⟩ := hr
    have := aeval_on hG hk (fun t ht => ha t (Or.inl ht)) h1
    split at hr <;> first | (cases hr; done) | skip
    all_goals (split at hr <;> cases hr; exact this)
  case slc =>
    obtain ⟨x, h1, lo, h2, hi, h3, mx, h4, hr⟩ := hr
    have := aeval_on hG hk (fun t ht => ha t (by simp [ht])) h1
    split at hr <;> first | (cases hr; done) | skip
    · simp only [Option.map_eq_some_iff] at hr; obtain ⟨p, h5, h6⟩ := hr; cases h6; exact this
    · simp only [Option.bind_eq_some_iff] at hr
      obtain ⟨p, h5, hr⟩ := hr
      split at hr
      · cases hr; trivial
      · split at hr <;> cases hr; trivial
    · simp only [Option.map_eq_some_iff] at hr; obtain ⟨p, h5, h6⟩ := hr; cases h6; exact this
    · split at hr
      · split at hr
        · simp only [Option.map_eq_some_iff] at hr; obtain ⟨p, h5, h6⟩ := hr; cases h6; exact this
        · split at hr
          · simp only [Option.map_eq_some_iff] at hr; obtain ⟨p, h5, h6⟩ := hr; cases h6; exact this
          · cases hr
      · cases hr
  case slstr =>
    obtain ⟨x, h1, lo, h2, hi, h3, hr⟩ := hr
    split at hr
    · simp only [Option.map_eq_some_iff] at hr; obtain ⟨p, h5, h6⟩ := hr; cases h6; trivial
    · cases hr
  case bld =>
    obtain ⟨x, h1, z, h3, h4⟩ := hr; cases h4
    exact AV.ons_iff.2 (fillA_on (AV.ons_iff.1 (AV.lts_on (n := 0) (fun i hi => by omega) _ hk.1)) (partsOf_on hG hk.2 ha h1) h3)
  case mf => obtain ⟨x, h1, h4⟩ := hr; cases h4; exact aevals_on hG hk ha h1
  case ex =>
    obtain ⟨x, h1, hr⟩ := hr
    split at hr
    · simp only [Option.map_eq_some_iff] at hr; obtain ⟨v, h2, h3⟩ := hr; cases h3
      exact AV.ons_iff.1 (aeval_on hG hk ha h1) _ (List.mem_of_getElem? h2)
    · cases hr
  case nc =>
    obtain ⟨x, h1, hr⟩ := hr
    have := aeval_on hG hk ha h1
    split at hr <;> cases hr <;> exact this
  case len =>
    obtain ⟨x, h1, hr⟩ := hr
    split at hr
    · cases hr; trivial
    · simp only [Option.map_eq_some_iff] at hr; obtain ⟨v, h1, h2⟩ := hr; cases h2; trivial
  case lens => obtain ⟨x, h1, hr⟩ := hr; split at hr <;> cases hr; trivial
  case mnx =>
    obtain ⟨x, h1, hr⟩ := hr
    have := aevals_on hG hk ha h1
    split at hr
    · cases hr
    · simp only [Option.map_eq_some_iff] at hr; obtain ⟨v, h2, h3⟩ := hr; cases h3
      exact aminmax_on this.1 h2
  case bad => cases hr

/-- What makes a block: the same one, wherever. -/
theorem aop_alloc {call : CallT} {m : MOp} (hm : m.alloc = true) (hk : m.okx G = true) {r : AV × AHeap × List Nat} (hr : aop call m a h = some r) :
    ∃ (mk : Nat → AV) (c : ACells), (mk = (fun n => .ptr n 0) ∨ ∃ l k, mk = fun n => .sl n 0 l k) ∧ r = (mk h.length, h ++ [.new c], []) ∧ (∀ h' : AHeap, aop call m a h' = some (mk h'.length, h' ++ [.new c], [])) ∧
      ∀ S : Nat → Prop, (∀ i, i < G → S i) → (∀ t ∈ m.rds, ∀ v, look a t = some v → v.on S) → c.on S := by
  cases m <;> simp only [MOp.alloc, Bool.false_eq_true] at hm <;> simp only [aop, Option.bind_eq_some_iff] at hr <;> simp only [MOp.okx, Bool.and_eq_true] at hk <;> simp only [MOp.rds, List.mem_append]
  case al z => cases hr; exact ⟨_, z, Or.inl rfl, rfl, fun h' => rfl, fun S _ _ => clt_on (n := 0) (fun i hi => by omega) hk⟩
  case bx =>
    obtain ⟨x, h1, c, h2, hr⟩ := hr
    split at hr <;> cases hr
    rename_i hn
    exact ⟨_, c, Or.inl rfl, rfl, fun h' => by simp only [aop, h1, Option.bind_some, h2, if_pos hn], fun S hG ha => mkCells_on (cells_on (aeval_on hG hk ha h1)) h2⟩
  case bsl =>
    obtain ⟨ps, h1, c, h2, hr⟩ := hr
    split at hr <;> cases hr
    rename_i hn
    exact ⟨fun n => .sl n 0 _ _, c, Or.inr ⟨_, _, rfl⟩, rfl, fun h' => by simp only [aop, h1, Option.bind_some, h2, if_pos hn], fun S hG ha => fillC_on (repl_on (clt_on (n := 0) (fun i hi => by omega) hk.1) _) (partsOf_on hG hk.2 ha h1) h2⟩
  case mks =>
    obtain ⟨x, h1, l, h2, y, h3, c, h4, hr⟩ := hr
    split at hr <;> cases hr
    rename_i hn
    exact ⟨fun n => .sl n 0 _ _, _, Or.inr ⟨_, _, rfl⟩, rfl, fun h' => by simp only [aop, h1, h2, h3, h4, Option.bind_some, if_pos hn], fun S hG ha => repl_on (clt_on (n := 0) (fun i hi => by omega) hk) _⟩
end

-- ------------------------------------------------------------------ surgery
section
variable {B : Nat} {ρg ρ ρ' : Env} {gl : AHeap} {gid : Nat → Nat} {h V : AHeap} {w w' : World}

def deadB : ABlk := ⟨.dead, .vals []⟩

/-- What a heap says of itself. -/
def WFh (h : AHeap) : Prop := (∀ (i : Nat) (x : ABlk), h[i]? = some x → x.st ≠ .dead → x.c.lt h.length = true) ∧ ∀ (i : Nat) (x : ABlk) (t : Nat), h[i]? = some x → x.st = .old t → t < h.length

theorem Rep.wfh (r : Rep B ρ h w) : WFh h := ⟨r.wf, r.old⟩

/-- The lower part. -/
theorem St.low (st : St B ρg gl gid ρ V w) (hl : ∀ i, i < h.length → V[i]? = h[i]?) (wf : WFh h) (hg : gl.length ≤ h.length) : St B ρg gl gid ρ h w := by
  have up : ∀ (i : Nat) (x : ABlk), h[i]? = some x → V[i]? = some x := fun i x hi => by rw [hl i (List.getElem?_eq_some_iff.1 hi).1]; exact hi
  exact ⟨⟨wf.1, wf.2, fun i x hi => st.rep.lies i x (up i x hi), fun i x o hi => st.rep.own i x o (up i x hi), fun i x hi => st.rep.ext i x (up i x hi), fun i j x y o hi hj => st.rep.sep i j x y o (up i x hi) (up j y hj)⟩,
    st.grep, st.gext, st.le, fun i hi => ⟨by omega, (st.pre i hi).2⟩, st.gpre⟩

/-- Dead blocks behind. -/
theorem St.pad (st : St B ρg gl gid ρ h w) (k : Nat) : St B ρg gl gid ρ (h ++ List.replicate k deadB) w := by
  have dn : ∀ (i : Nat) (x : ABlk), (h ++ List.replicate k deadB)[i]? = some x → x.st ≠ .dead → h[i]? = some x := by
    intro i x hi hd
    by_cases hlt : i < h.length
    · rw [List.getElem?_append_left hlt] at hi; exact hi
    · rw [List.getElem?_append_right (by omega)] at hi
      have := List.mem_of_getElem? hi
      rw [List.mem_replicate] at this
      exact absurd (by rw [this.2]; rfl) hd
  have hm : h.length ≤ (h ++ List.replicate k deadB).length := by simp
  refine ⟨⟨fun i x hi hd => ACells.lt_mono hm (st.rep.wf i x (dn i x hi hd) hd), fun i x t hi ht => ?_, fun i x hi hd => st.rep.lies i x (dn i x hi hd) hd, fun i x o hi ht => st.rep.own i x o (dn i x hi (by rw [ht]; simp)) ht,
    fun i x hi ht => st.rep.ext i x (dn i x hi (by rw [ht]; simp)) ht, fun i j x y o hi hj hij ht hd => st.rep.sep i j x y o (dn i x hi (by rw [ht]; simp)) (dn j y hj hd) hij ht hd⟩,
    st.grep, st.gext, st.le, fun i hi => ⟨Nat.lt_of_lt_of_le (st.pre i hi).1 hm, (st.pre i hi).2⟩, st.gpre⟩
  have := st.rep.old i x t (dn i x hi (by rw [ht]; simp)) ht
  omega

theorem Fr.pad (k : Nat) : Fr ρ h w ρ (h ++ List.replicate k deadB) w := by
  have dn : ∀ (i : Nat) (x : ABlk), (h ++ List.replicate k deadB)[i]? = some x → x.st ≠ .dead → h[i]? = some x := by
    intro i x hi hd
    by_cases hlt : i < h.length
    · rw [List.getElem?_append_left hlt] at hi; exact hi
    · rw [List.getElem?_append_right (by omega)] at hi
      have := List.mem_of_getElem? hi
      rw [List.mem_replicate] at this
      exact absurd (by rw [this.2]; rfl) hd
  refine ⟨rfl, rfl, rfl, Nat.le_refl _, fun _ _ _ => rfl, fun x hx => Or.inr ?_, fun x hx => Or.inr ?_⟩
  · obtain ⟨i, y, o, h1, h2, h3, h4⟩ := hx
    exact ⟨i, y, o, dn i y h1 (by rw [h2]; simp), h2, h3, h4⟩
  · obtain ⟨i, y, h1, h2, h3, h4⟩ := hx
    exact ⟨i, y, dn i y h1 h2.1, h2, h3, h4⟩

/-- An Env that tells of b what ρ tells of n. -/
def Env.mv (ρ : Env) (b n : Nat) : Env := ρ.upd b (ρ.blk n) (ρ.base n) (ρ.sz n)
theorem Env.mv_ne {ρ : Env} {b n i : Nat} (h : i ≠ b) : (ρ.mv b n).blk i = ρ.blk i ∧ (ρ.mv b n).base i = ρ.base i ∧ (ρ.mv b n).sz i = ρ.sz i := by simp [Env.mv, Env.upd, h]
theorem Env.mv_at {ρ : Env} {b n : Nat} : (ρ.mv b n).blk b = ρ.blk n ∧ (ρ.mv b n).base b = ρ.base n ∧ (ρ.mv b n).sz b = ρ.sz n := by simp [Env.mv, Env.upd]

theorem getElem?_set_cases {α : Type} {l : List α} {b i : Nat} {x y : α} (h : (l.set b x)[i]? = some y) : (i = b ∧ y = x) ∨ (i ≠ b ∧ l[i]? = some y) := by
  by_cases e : i = b
  · subst e
    have := (List.getElem?_eq_some_iff.1 h).1
    rw [List.length_set] at this
    rw [List.getElem?_set_self this] at h
    cases h; exact Or.inl ⟨rfl, rfl⟩
  · rw [List.getElem?_set_ne (Ne.symm e)] at h
    exact Or.inr ⟨e, h⟩

/-- The new block at the end is laid in the place of a dead one. -/
theorem St.settle {c : ACells} {b : Nat} {S : Nat → Prop} (st : St B ρg gl gid ρ (V ++ [.new c]) w) (hb : b < V.length) (hd : ∀ x, V[b]? = some x → x.st = .dead) (hgb : gl.length ≤ b)
    (hS : ¬ S b) (hSn : ¬ S V.length) (hon : ∀ (i : Nat) (x : ABlk), V[i]? = some x → x.st ≠ .dead → x.c.on S) (hlt : ∀ (i : Nat) (x : ABlk), V[i]? = some x → x.st ≠ .dead → x.c.lt V.length = true)
    (hold : ∀ (i : Nat) (x : ABlk) (t : Nat), V[i]? = some x → x.st = .old t → t < V.length) (hc : c.on S) (hcl : c.lt V.length = true) : St B ρg gl gid (ρ.mv b V.length) (V.set b (.new c)) w := by
  have ag : AgreeOn S ρ (ρ.mv b V.length) := fun i hi => Env.mv_ne (fun e => hS (e ▸ hi))
  have old : ∀ {i : Nat} {x : ABlk}, V[i]? = some x → (V ++ [ABlk.new c])[i]? = some x := fun {i x} hi => by rw [List.getElem?_append_left (List.getElem?_eq_some_iff.1 hi).1]; exact hi
  have new : (V ++ [ABlk.new c])[V.length]? = some (.new c) := by simp
  have lies : ∀ (i j : Nat) (cc : ACells), cc.on S → ((ρ.mv b V.length).blk i = ρ.blk j ∧ (ρ.mv b V.length).base i = ρ.base j ∧ (ρ.mv b V.length).sz i = ρ.sz j) → Lies ρ j cc w → Lies (ρ.mv b V.length) i cc w := by
    rintro i j cc hcc ⟨e1, e2, e3⟩ hl
    refine ⟨by rw [e3]; exact hl.1, fun hz => ?_⟩
    rw [e3] at hz
    obtain ⟨arr, T, fz, h1, h2, h3⟩ := hl.2 hz
    refine ⟨arr, T, fz, by rw [e1]; exact h1, by rw [e2, e3]; exact h2, fun k v hv => ?_⟩
    obtain ⟨y, hy, hr⟩ := h3 k v hv
    exact ⟨y, by rw [e2]; exact hy, R_on ag v y (on_get hcc hv) hr⟩
  refine ⟨⟨fun i x hi hdx => ?_, fun i x t hi ht => ?_, fun i x hi hdx => ?_, fun i x o hi ht hz => ?_, fun i x hi ht hz => ?_, fun i j x y o hi hj hij ht hdy hz1 hz2 e => ?_⟩, st.grep, st.gext, st.le, fun i hi => ?_, st.gpre⟩
  · rw [List.length_set]
    rcases getElem?_set_cases hi with ⟨_, rfl⟩ | ⟨_, h1⟩
    · exact hcl
    · exact hlt i x h1 hdx
  · rw [List.length_set]
    rcases getElem?_set_cases hi with ⟨_, rfl⟩ | ⟨_, h1⟩
    · cases ht
    · exact hold i x t h1 ht
  · rcases getElem?_set_cases hi with ⟨rfl, rfl⟩ | ⟨hne, h1⟩
    · exact lies _ V.length c hc Env.mv_at (st.rep.lies _ _ new (by simp))
    · exact lies i i x.c (hon i x h1 hdx) (Env.mv_ne hne) (st.rep.lies i x (old h1) hdx)
  · rcases getElem?_set_cases hi with ⟨rfl, rfl⟩ | ⟨hne, h1⟩
    · obtain ⟨e1, e2, e3⟩ := Env.mv_at (ρ := ρ) (b := i) (n := V.length)
      rw [e3] at hz; rw [e1, e2, e3]
      exact st.rep.own V.length _ o new ht hz
    · obtain ⟨e1, e2, e3⟩ := Env.mv_ne (ρ := ρ) (n := V.length) hne
      rw [e3] at hz; rw [e1, e2, e3]
      exact st.rep.own i x o (old h1) ht hz
  · rcases getElem?_set_cases hi with ⟨rfl, rfl⟩ | ⟨hne, h1⟩
    · cases ht
    · obtain ⟨e1, e2, e3⟩ := Env.mv_ne (ρ := ρ) (n := V.length) hne
      rw [e3] at hz; rw [e1]
      exact st.rep.ext i x (old h1) ht hz
  · rcases getElem?_set_cases hi with ⟨rfl, rfl⟩ | ⟨hne, h1⟩
    · rcases getElem?_set_cases hj with ⟨rfl, _⟩ | ⟨hne2, h2⟩
      · exact absurd rfl hij
      · obtain ⟨e1, e2, e3⟩ := Env.mv_at (ρ := ρ) (b := i) (n := V.length)
        obtain ⟨f1, f2, f3⟩ := Env.mv_ne (ρ := ρ) (n := V.length) hne2
        rw [e3] at hz1; rw [f3] at hz2; rw [e1, f1] at e
        have hjl := (List.getElem?_eq_some_iff.1 h2).1
        obtain ⟨q1, q2, q3⟩ := st.rep.sep V.length j _ y o new (old h2) (by omega) ht hdy hz1 hz2 e
        subst q1; simp at ht
    · rcases getElem?_set_cases hj with ⟨rfl, rfl⟩ | ⟨hne2, h2⟩
      · obtain ⟨e1, e2, e3⟩ := Env.mv_at (ρ := ρ) (b := j) (n := V.length)
        obtain ⟨f1, f2, f3⟩ := Env.mv_ne (ρ := ρ) (n := V.length) hne
        rw [e3] at hz2; rw [f3] at hz1; rw [f1, e1] at e
        have hil := (List.getElem?_eq_some_iff.1 h1).1
        obtain ⟨_, q2, _⟩ := st.rep.sep i V.length x _ o (old h1) new (by omega) ht (by simp) hz1 hz2 e
        simp at q2
      · obtain ⟨e1, e2, e3⟩ := Env.mv_ne (ρ := ρ) (n := V.length) hne
        obtain ⟨f1, f2, f3⟩ := Env.mv_ne (ρ := ρ) (n := V.length) hne2
        rw [e3] at hz1; rw [f3] at hz2; rw [e1, f1] at e
        rw [e2, f2]
        exact st.rep.sep i j x y o (old h1) (old h2) hij ht hdy hz1 hz2 e
  · obtain ⟨e1, e2, e3⟩ := Env.mv_ne (ρ := ρ) (n := V.length) (show i ≠ b by omega)
    rw [e1, e2, List.length_set]
    have := st.pre i hi
    exact ⟨by omega, this.2⟩

theorem Fr.settle {c : ACells} {b : Nat} {ρ₀ : Env} {h₀ : AHeap} {w₀ : World} (hb : b < V.length) (hd : ∀ x, V[b]? = some x → x.st = .dead) (fr : Fr ρ₀ h₀ w₀ ρ (V ++ [.new c]) w) : Fr ρ₀ h₀ w₀ (ρ.mv b V.length) (V.set b (.new c)) w := by
  have old : ∀ {i : Nat} {x : ABlk}, V[i]? = some x → (V ++ [ABlk.new c])[i]? = some x := fun {i x} hi => by rw [List.getElem?_append_left (List.getElem?_eq_some_iff.1 hi).1]; exact hi
  have new : (V ++ [ABlk.new c])[V.length]? = some (.new c) := by simp
  refine ⟨fr.os, fr.tape, fr.output, fr.size, fr.keep, fun x hx => fr.fresh x ?_, fun x hx => fr.face x ?_⟩
  · obtain ⟨i, y, o, h1, h2, h3, h4⟩ := hx
    rcases getElem?_set_cases h1 with ⟨rfl, rfl⟩ | ⟨hne, h1⟩
    · obtain ⟨e1, e2, e3⟩ := Env.mv_at (ρ := ρ) (b := i) (n := V.length)
      exact ⟨V.length, _, o, new, h2, by rw [← e3]; exact h3, by rw [← e1]; exact h4⟩
    · obtain ⟨e1, e2, e3⟩ := Env.mv_ne (ρ := ρ) (n := V.length) hne
      exact ⟨i, y, o, old h1, h2, by rw [← e3]; exact h3, by rw [← e1]; exact h4⟩
  · obtain ⟨i, y, h1, h2, h3, h4⟩ := hx
    rcases getElem?_set_cases h1 with ⟨rfl, rfl⟩ | ⟨hne, h1⟩
    · obtain ⟨e1, e2, e3⟩ := Env.mv_at (ρ := ρ) (b := i) (n := V.length)
      exact ⟨V.length, _, new, h2, by rw [← e3]; exact h3, by rw [← e1]; exact h4⟩
    · obtain ⟨e1, e2, e3⟩ := Env.mv_ne (ρ := ρ) (n := V.length) hne
      exact ⟨i, y, old h1, h2, by rw [← e3]; exact h3, by rw [← e1]; exact h4⟩

/-- Two Envs, one below n. -/
def Env.cut (ρ ρ' : Env) (n : Nat) : Env := { blk := fun i => if i < n then ρ'.blk i else ρ.blk i, base := fun i => if i < n then ρ'.base i else ρ.base i, sz := fun i => if i < n then ρ'.sz i else ρ.sz i }
theorem Env.cut_lt {ρ ρ' : Env} {n i : Nat} (h : i < n) : (ρ.cut ρ' n).blk i = ρ'.blk i ∧ (ρ.cut ρ' n).base i = ρ'.base i ∧ (ρ.cut ρ' n).sz i = ρ'.sz i := by simp [Env.cut, h]
theorem Env.cut_ge {ρ ρ' : Env} {n i : Nat} (h : n ≤ i) : (ρ.cut ρ' n).blk i = ρ.blk i ∧ (ρ.cut ρ' n).base i = ρ.base i ∧ (ρ.cut ρ' n).sz i = ρ.sz i := by simp [Env.cut, Nat.not_lt.2 h]

/-- A step below, while blocks lie ready above. -/
theorem St.join {h₁ V' : AHeap} {ρ₁ : Env} {w₁ : World} {S : Nat → Prop} (st : St B ρg gl gid ρ V w) (hl : ∀ i, i < h.length → V[i]? = h[i]?) (hg : gl.length ≤ h.length) (ag : Agree h.length ρ ρ₁) (st₁ : St B ρg gl gid ρ₁ h₁ w₁) (fr : Fr ρ h w ρ₁ h₁ w₁) (hle : h.length ≤ h₁.length)
    (hl' : ∀ i, i < h₁.length → V'[i]? = h₁[i]?) (hh' : ∀ i, h₁.length ≤ i → V'[i]? = V[i]?) (hlen : V'.length = V.length) (hle' : h₁.length ≤ V.length)
    (htip : ∀ (i : Nat) (x : ABlk), h₁.length ≤ i → V[i]? = some x → x.st ≠ .dead → x.st = .tip false ∧ x.c.on S ∧ x.c.lt V.length = true)
    (hS : ∀ i, S i → i < h.length ∨ h₁.length ≤ i) : St B ρg gl gid (ρ.cut ρ₁ h₁.length) V' w₁ ∧ (∀ {ρ₀ : Env} {h₀ : AHeap} {w₀ : World}, Fr ρ₀ h₀ w₀ ρ V w → Fr ρ₀ h₀ w₀ (ρ.cut ρ₁ h₁.length) V' w₁) := by
  have agL : AgreeOn (· < h₁.length) ρ₁ (ρ.cut ρ₁ h₁.length) := fun i hi => Env.cut_lt hi
  have agS : AgreeOn S ρ (ρ.cut ρ₁ h₁.length) := fun i hi => by
    rcases hS i hi with h1 | h1
    · obtain ⟨a1, a2, a3⟩ := ag i h1
      obtain ⟨e1, e2, e3⟩ := Env.cut_lt (ρ := ρ) (ρ' := ρ₁) (show i < h₁.length by omega)
      exact ⟨e1.trans a1, e2.trans a2, e3.trans a3⟩
    · exact Env.cut_ge h1
  have up : ∀ {i : Nat} {x : ABlk}, h[i]? = some x → V[i]? = some x := fun {i x} hi => by rw [hl i (List.getElem?_eq_some_iff.1 hi).1]; exact hi
  have cs : ∀ {i : Nat} {x : ABlk}, V'[i]? = some x → (i < h₁.length ∧ h₁[i]? = some x) ∨ (h₁.length ≤ i ∧ V[i]? = some x) := by
    intro i x hi
    by_cases hlt : i < h₁.length
    · rw [hl' i hlt] at hi; exact Or.inl ⟨hlt, hi⟩
    · rw [hh' i (by omega)] at hi; exact Or.inr ⟨by omega, hi⟩
  -- a block above is nobody's below
  have hsz : ∀ {i : Nat} {x : ABlk}, V[i]? = some x → x.st ≠ .dead → ρ.sz i ≠ 0 → ρ.blk i < w.heap.size := by
    intro i x hi hd hz
    obtain ⟨a, _, _, h1, _⟩ := (st.rep.lies i x hi hd).2 hz
    exact (Array.getElem?_eq_some_iff.1 h1).1
  have nface : ∀ {i : Nat} {x : ABlk}, h₁.length ≤ i → V[i]? = some x → x.st ≠ .dead → ρ.sz i ≠ 0 → ¬ Face ρ h (ρ.blk i) := by
    rintro i x hi hx hd hz ⟨j, y, h1, ⟨h2, h3⟩, h4, h5⟩
    have hj := (List.getElem?_eq_some_iff.1 h1).1
    obtain ⟨t, _, _⟩ := htip i x hi hx hd
    obtain ⟨q1, _, _⟩ := st.rep.sep i j x y false hx (up h1) (by omega) t h2 hz h4 h5.symm
    cases q1
  have keep : ∀ {i : Nat} {x : ABlk}, h₁.length ≤ i → V[i]? = some x → x.st ≠ .dead → ρ.sz i ≠ 0 → w₁.heap[ρ.blk i]? = w.heap[ρ.blk i]? := fun {i x} hi hx hd hz =>
    fr.keep _ (hsz hx hd hz) fun ht => nface hi hx hd hz ht.face
  have nface₁ : ∀ {i : Nat} {x : ABlk}, h₁.length ≤ i → V[i]? = some x → x.st ≠ .dead → ρ.sz i ≠ 0 → ¬ Face ρ₁ h₁ (ρ.blk i) := by
    intro i x hi hx hd hz hf
    rcases fr.face _ hf with h1 | h1
    · have := hsz hx hd hz; omega
    · exact nface hi hx hd hz h1
  refine ⟨⟨⟨fun i x hi hd => ?_, fun i x t hi ht => ?_, fun i x hi hd => ?_, fun i x o hi ht hz => ?_, fun i x hi ht hz => ?_, fun i j x y o hi hj hij ht hdy hz1 hz2 e => ?_⟩, st₁.grep, st₁.gext, st₁.le, fun i hi => ?_, st₁.gpre⟩, fun {ρ₀ h₀ w₀} f0 => ?_⟩
  · rw [hlen]
    rcases cs hi with ⟨_, h1⟩ | ⟨h0, h1⟩
    · exact ACells.lt_mono hle' (st₁.rep.wf i x h1 hd)
    · exact (htip i x h0 h1 hd).2.2
  · rw [hlen]
    rcases cs hi with ⟨_, h1⟩ | ⟨h0, h1⟩
    · have := st₁.rep.old i x t h1 ht; omega
    · have := (htip i x h0 h1 (by rw [ht]; simp)).1; rw [this] at ht; cases ht
  · rcases cs hi with ⟨h0, h1⟩ | ⟨h0, h1⟩
    · obtain ⟨e1, e2, e3⟩ := agL i h0
      have hl2 := st₁.rep.lies i x h1 hd
      refine ⟨by rw [e3]; exact hl2.1, fun hz => ?_⟩
      rw [e3] at hz
      obtain ⟨arr, T, fz, g1, g2, g3⟩ := hl2.2 hz
      refine ⟨arr, T, fz, by rw [e1]; exact g1, by rw [e2, e3]; exact g2, fun k v hv => ?_⟩
      obtain ⟨y, hy, hr⟩ := g3 k v hv
      exact ⟨y, by rw [e2]; exact hy, R_on agL v y (AV.lt_on (fun _ h => h) _ (ACells.get_lt (st₁.rep.wf i x h1 hd) hv)) hr⟩
    · obtain ⟨e1, e2, e3⟩ := Env.cut_ge (ρ := ρ) (ρ' := ρ₁) h0
      have hl2 := st.rep.lies i x h1 hd
      refine ⟨by rw [e3]; exact hl2.1, fun hz => ?_⟩
      rw [e3] at hz
      obtain ⟨arr, T, fz, g1, g2, g3⟩ := hl2.2 hz
      refine ⟨arr, T, fz, by rw [e1, keep h0 h1 hd hz]; exact g1, by rw [e2, e3]; exact g2, fun k v hv => ?_⟩
      obtain ⟨y, hy, hr⟩ := g3 k v hv
      exact ⟨y, by rw [e2]; exact hy, R_on agS v y (on_get (htip i x h0 h1 hd).2.1 hv) hr⟩
  · rcases cs hi with ⟨h0, h1⟩ | ⟨h0, h1⟩
    · obtain ⟨e1, e2, e3⟩ := agL i h0
      rw [e3] at hz; rw [e1, e2, e3]
      exact st₁.rep.own i x o h1 ht hz
    · obtain ⟨e1, e2, e3⟩ := Env.cut_ge (ρ := ρ) (ρ' := ρ₁) h0
      rw [e3] at hz; rw [e1, e2, e3]
      obtain ⟨g1, g2⟩ := st.rep.own i x o h1 ht hz
      exact ⟨g1, fun q q1 q2 => by rw [World.frozen_of_block (w := w) (keep h0 h1 (by rw [ht]; simp) hz)]; exact g2 q q1 q2⟩
  · rcases cs hi with ⟨h0, h1⟩ | ⟨h0, h1⟩
    · obtain ⟨e1, e2, e3⟩ := agL i h0
      rw [e3] at hz; rw [e1]
      exact st₁.rep.ext i x h1 ht hz
    · have := (htip i x h0 h1 (by rw [ht]; simp)).1; rw [this] at ht; cases ht
  · have clash : ∀ {i j : Nat} {x y : ABlk}, h₁.length ≤ i → V[i]? = some x → x.st ≠ .dead → j < h₁.length → h₁[j]? = some y → y.st ≠ .dead → ρ.sz i ≠ 0 → ρ₁.sz j ≠ 0 → ρ.blk i = ρ₁.blk j → False := by
      intro i j x y hi hx hd hj hy hdy hz1 hz2 e
      by_cases hext : y.st = .ext
      · have h2 := st₁.rep.ext j y hy hext hz2
        have h3 := (st.rep.own i x false hx (htip i x hi hx hd).1 hz1).1
        omega
      · exact nface₁ hi hx hd hz1 ⟨j, y, hy, ⟨hdy, hext⟩, hz2, e.symm⟩
    rcases cs hi with ⟨h0, h1⟩ | ⟨h0, h1⟩
    · rcases cs hj with ⟨k0, k1⟩ | ⟨k0, k1⟩
      · obtain ⟨e1, e2, e3⟩ := agL i h0
        obtain ⟨f1, f2, f3⟩ := agL j k0
        rw [e3] at hz1; rw [f3] at hz2; rw [e1, f1] at e
        rw [e2, f2]
        exact st₁.rep.sep i j x y o h1 k1 hij ht hdy hz1 hz2 e
      · obtain ⟨e1, e2, e3⟩ := agL i h0
        obtain ⟨f1, f2, f3⟩ := Env.cut_ge (ρ := ρ) (ρ' := ρ₁) k0
        rw [e3] at hz1; rw [f3] at hz2; rw [e1, f1] at e
        exact (clash k0 k1 hdy h0 h1 (by rw [ht]; simp) hz2 hz1 e.symm).elim
    · rcases cs hj with ⟨k0, k1⟩ | ⟨k0, k1⟩
      · obtain ⟨e1, e2, e3⟩ := Env.cut_ge (ρ := ρ) (ρ' := ρ₁) h0
        obtain ⟨f1, f2, f3⟩ := agL j k0
        rw [e3] at hz1; rw [f3] at hz2; rw [e1, f1] at e
        exact (clash h0 h1 (by rw [ht]; simp) k0 k1 hdy hz1 hz2 e).elim
      · obtain ⟨e1, e2, e3⟩ := Env.cut_ge (ρ := ρ) (ρ' := ρ₁) h0
        obtain ⟨f1, f2, f3⟩ := Env.cut_ge (ρ := ρ) (ρ' := ρ₁) k0
        rw [e3] at hz1; rw [f3] at hz2; rw [e1, f1] at e
        rw [e2, f2]
        exact st.rep.sep i j x y o h1 k1 hij ht hdy hz1 hz2 e
  · obtain ⟨g1, g2⟩ := st₁.pre i hi
    obtain ⟨e1, e2, _⟩ := agL i (by omega)
    rw [e1, e2, hlen]
    exact ⟨by omega, g2⟩
  · refine ⟨fr.os.trans f0.os, fr.tape.trans f0.tape, fr.output.trans f0.output, Nat.le_trans f0.size fr.size, fun x hx ht => ?_, fun x hx => ?_, fun x hx => ?_⟩
    · have h1 := f0.keep x hx ht
      rw [← h1]
      refine fr.keep x (Nat.lt_of_lt_of_le hx f0.size) fun ht' => ?_
      obtain ⟨i, y, o, g1, g2, g3, g4⟩ := ht'
      rcases f0.fresh x ⟨i, y, o, up g1, g2, g3, g4⟩ with g5 | g5
      · omega
      · exact ht g5
    · obtain ⟨i, y, o, g1, g2, g3, g4⟩ := hx
      rcases cs g1 with ⟨k0, k1⟩ | ⟨k0, k1⟩
      · obtain ⟨e1, e2, e3⟩ := agL i k0
        rcases fr.fresh x ⟨i, y, o, k1, g2, by rw [← e3]; exact g3, by rw [← e1]; exact g4⟩ with q | ⟨j, z, o', q1, q2, q3, q4⟩
        · exact Or.inl (Nat.le_trans f0.size q)
        · exact f0.fresh x ⟨j, z, o', up q1, q2, q3, q4⟩
      · obtain ⟨e1, e2, e3⟩ := Env.cut_ge (ρ := ρ) (ρ' := ρ₁) k0
        exact f0.fresh x ⟨i, y, o, k1, g2, by rw [← e3]; exact g3, by rw [← e1]; exact g4⟩
    · obtain ⟨i, y, g1, g2, g3, g4⟩ := hx
      rcases cs g1 with ⟨k0, k1⟩ | ⟨k0, k1⟩
      · obtain ⟨e1, e2, e3⟩ := agL i k0
        rcases fr.face x ⟨i, y, k1, g2, by rw [← e3]; exact g3, by rw [← e1]; exact g4⟩ with q | ⟨j, z, q1, q2, q3, q4⟩
        · exact Or.inl (Nat.le_trans f0.size q)
        · exact f0.face x ⟨j, z, up q1, q2, q3, q4⟩
      · obtain ⟨e1, e2, e3⟩ := Env.cut_ge (ρ := ρ) (ρ' := ρ₁) k0
        exact f0.face x ⟨i, y, k1, g2, by rw [← e3]; exact g3, by rw [← e1]; exact g4⟩
end
end Go.Proofs.YtdpbbagllhfjbaaDoorW.AI

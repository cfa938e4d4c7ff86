import Derived.Test.YtdbdmnhnijpdcaaDoorAICore
/-! What an abstract heap says of the world. -/
namespace Go.Proofs.YtdbdmnhnijpdcaaDoorW.AI
open Go
set_option linter.unusedVariables false
set_option linter.unusedSimpArgs false

structure Env where
  blk : Nat → Nat
  base : Nat → Nat
  sz : Nat → Nat

def Env.addr (ρ : Env) (b off : Nat) : Addr := ⟨ρ.blk b, ρ.base b + off, none⟩

mutual
def R (ρ : Env) : AV → Value → Prop
  | .int k n, v => v = .int k n
  | .bool b, v => v = .bool b
  | .str s, v => v = .string s
  | .nilp, v => v = .pointer none
  | .ptr b o, v => v = .pointer (some (ρ.addr b o))
  | .nils, v => v = .slice none 0 0
  | .sl b o n c, v => ∃ q, v = .slice (some q) n c ∧ (c ≠ 0 → q = ⟨ρ.blk b, ρ.base b + o, none⟩) ∧ n ≤ c
  | .gsl b o n e mn, v => (∃ q c, v = .slice (some ⟨ρ.blk b, q, none⟩) n c ∧ n ≤ c ∧ (c ≠ 0 → q = ρ.base b + o ∧ o + c * e ≤ ρ.sz b)) ∨ (mn = true ∧ n = 0 ∧ v = .slice none 0 0)
  | .nilf, v => v = .nilFunc
  | .fn f cs, v => ∃ vs, v = .func (.func f) #[] vs ∧ Rs ρ cs vs.toList
  | .agg cs, v => ∃ vs, v = .agg vs ∧ Rs ρ cs vs.toList
  | .tup cs, v => ∃ vs, v = .tuple vs ∧ Rs ρ cs vs.toList
  | .any, _ => True
def Rs (ρ : Env) : List AV → List Value → Prop
  | [], l => l = []
  | x :: xs, l => ∃ v vs, l = v :: vs ∧ R ρ x v ∧ Rs ρ xs vs
end

def Agree (n : Nat) (ρ ρ' : Env) : Prop := ∀ i, i < n → ρ'.blk i = ρ.blk i ∧ ρ'.base i = ρ.base i ∧ ρ'.sz i = ρ.sz i

theorem Agree.refl (n : Nat) (ρ : Env) : Agree n ρ ρ := fun _ _ => ⟨rfl, rfl, rfl⟩
theorem Agree.trans {n m : Nat} {a b c : Env} (h : Agree n a b) (k : Agree m b c) (hm : n ≤ m) : Agree n a c :=
  fun i hi => ⟨(k i (by omega)).1.trans (h i hi).1, (k i (by omega)).2.1.trans (h i hi).2.1, (k i (by omega)).2.2.trans (h i hi).2.2⟩
theorem Agree.mono {n m : Nat} {a b : Env} (h : Agree n a b) (hm : m ≤ n) : Agree m a b := fun i hi => h i (by omega)

mutual
theorem R_agree {n : Nat} {ρ ρ' : Env} (h : Agree n ρ ρ') : ∀ (a : AV) (v : Value), a.lt n = true → R ρ a v → R ρ' a v
  | .int k m, v, _, hr => hr
  | .bool b, v, _, hr => hr
  | .str s, v, _, hr => hr
  | .nilp, v, _, hr => hr
  | .ptr b o, v, hl, hr => by
    simp only [AV.lt, decide_eq_true_eq] at hl
    obtain ⟨h1, h2, h3⟩ := h b hl
    simp only [R, Env.addr] at hr ⊢
    rw [h1, h2]; exact hr
  | .nils, v, _, hr => hr
  | .sl b o m c, v, hl, hr => by
    simp only [AV.lt, decide_eq_true_eq] at hl
    obtain ⟨h1, h2, h3⟩ := h b hl
    simp only [R] at hr ⊢
    rw [h1, h2]; exact hr
  | .gsl b o m e mn, v, hl, hr => by
    simp only [AV.lt, decide_eq_true_eq] at hl
    obtain ⟨h1, h2, h3⟩ := h b hl
    simp only [R] at hr ⊢
    rw [h1, h2, h3]; exact hr
  | .nilf, v, _, hr => hr
  | .fn f cs, v, hl, hr => by
    simp only [R] at hr ⊢
    obtain ⟨vs, e, hr⟩ := hr
    exact ⟨vs, e, Rs_agree h cs vs.toList (by simpa [AV.lt] using hl) hr⟩
  | .agg cs, v, hl, hr => by
    simp only [R] at hr ⊢
    obtain ⟨vs, e, hr⟩ := hr
    exact ⟨vs, e, Rs_agree h cs vs.toList (by simpa [AV.lt] using hl) hr⟩
  | .tup cs, v, hl, hr => by
    simp only [R] at hr ⊢
    obtain ⟨vs, e, hr⟩ := hr
    exact ⟨vs, e, Rs_agree h cs vs.toList (by simpa [AV.lt] using hl) hr⟩
  | .any, v, _, _ => by simp only [R]
theorem Rs_agree {n : Nat} {ρ ρ' : Env} (h : Agree n ρ ρ') : ∀ (as : List AV) (vs : List Value), AV.lts n as = true → Rs ρ as vs → Rs ρ' as vs
  | [], vs, _, hr => by simpa only [Rs] using hr
  | x :: xs, vs, hl, hr => by
    simp only [Rs] at hr ⊢
    simp only [AV.lts, Bool.and_eq_true] at hl
    obtain ⟨v, ws, rfl, h1, h2⟩ := hr
    exact ⟨v, ws, rfl, R_agree h x v hl.1 h1, Rs_agree h xs ws hl.2 h2⟩
end

mutual
theorem AV.lt_mono {n m : Nat} (h : n ≤ m) : ∀ a : AV, a.lt n = true → a.lt m = true
  | .int .., _ => rfl
  | .bool .., _ => rfl
  | .str .., _ => rfl
  | .nilp, _ => rfl
  | .ptr b o, hl => by simp only [AV.lt, decide_eq_true_eq] at hl ⊢; omega
  | .nils, _ => rfl
  | .sl .., hl => by simp only [AV.lt, decide_eq_true_eq] at hl ⊢; omega
  | .gsl .., hl => by simp only [AV.lt, decide_eq_true_eq] at hl ⊢; omega
  | .nilf, _ => rfl
  | .fn f cs, hl => by simp only [AV.lt] at hl ⊢; exact AV.lts_mono h cs hl
  | .agg cs, hl => by simp only [AV.lt] at hl ⊢; exact AV.lts_mono h cs hl
  | .tup cs, hl => by simp only [AV.lt] at hl ⊢; exact AV.lts_mono h cs hl
  | .any, _ => rfl
theorem AV.lts_mono {n m : Nat} (h : n ≤ m) : ∀ as : List AV, AV.lts n as = true → AV.lts m as = true
  | [], _ => rfl
  | x :: xs, hl => by
    simp only [AV.lts, Bool.and_eq_true] at hl ⊢
    exact ⟨AV.lt_mono h x hl.1, AV.lts_mono h xs hl.2⟩
end

theorem AV.lts_iff {n : Nat} : ∀ {as : List AV}, AV.lts n as = true ↔ ∀ x ∈ as, x.lt n = true
  | [] => by simp [AV.lts]
  | x :: xs => by simp [AV.lts, AV.lts_iff (as := xs)]

theorem Rs_length {ρ : Env} : ∀ {as : List AV} {vs : List Value}, Rs ρ as vs → as.length = vs.length
  | [], vs, h => by simp only [Rs] at h; simp [h]
  | x :: xs, vs, h => by
    simp only [Rs] at h
    obtain ⟨v, ws, rfl, _, h2⟩ := h
    simp [Rs_length h2]

theorem Rs_get {ρ : Env} : ∀ {as : List AV} {vs : List Value} {i : Nat} {a : AV}, Rs ρ as vs → as[i]? = some a → ∃ v, vs[i]? = some v ∧ R ρ a v
  | [], _, _, _, _, h => by simp at h
  | x :: xs, vs, i, a, h, hi => by
    simp only [Rs] at h
    obtain ⟨v, ws, rfl, h1, h2⟩ := h
    cases i with
    | zero => simp at hi; subst hi; exact ⟨v, rfl, h1⟩
    | succ i => simpa using Rs_get h2 (by simpa using hi)

theorem Rs_of_get {ρ : Env} : ∀ {as : List AV} {vs : List Value}, as.length = vs.length → (∀ (i : Nat) (a : AV) (v : Value), as[i]? = some a → vs[i]? = some v → R ρ a v) → Rs ρ as vs
  | [], [], _, _ => rfl
  | [], _ :: _, h, _ => by simp at h
  | _ :: _, [], h, _ => by simp at h
  | x :: xs, v :: vs, h, hg => by
    simp only [Rs]
    exact ⟨v, vs, rfl, hg 0 x v rfl rfl, Rs_of_get (by simpa using h) fun i a u ha hu => hg (i + 1) a u (by simpa using ha) (by simpa using hu)⟩

theorem Rs_append {ρ : Env} : ∀ {as bs : List AV} {vs ws : List Value}, Rs ρ as vs → Rs ρ bs ws → Rs ρ (as ++ bs) (vs ++ ws)
  | [], bs, vs, ws, h, k => by simp only [Rs] at h; subst h; simpa using k
  | x :: xs, bs, vs, ws, h, k => by
    simp only [Rs] at h
    obtain ⟨v, us, rfl, h1, h2⟩ := h
    simp only [List.cons_append, Rs]
    exact ⟨v, us ++ ws, rfl, h1, Rs_append h2 k⟩

theorem Rs_drop {ρ : Env} : ∀ {as : List AV} {vs : List Value} (n : Nat), Rs ρ as vs → Rs ρ (as.drop n) (vs.drop n)
  | [], vs, n, h => by simp only [Rs] at h; subst h; simp [Rs]
  | x :: xs, vs, 0, h => h
  | x :: xs, vs, n + 1, h => by
    simp only [Rs] at h
    obtain ⟨v, us, rfl, h1, h2⟩ := h
    exact Rs_drop n h2

theorem Rs_take {ρ : Env} : ∀ {as : List AV} {vs : List Value} (n : Nat), Rs ρ as vs → Rs ρ (as.take n) (vs.take n)
  | [], vs, n, h => by simp only [Rs] at h; subst h; simp [Rs]
  | x :: xs, vs, 0, h => by simp [Rs]
  | x :: xs, vs, n + 1, h => by
    simp only [Rs] at h
    obtain ⟨v, us, rfl, h1, h2⟩ := h
    simp only [List.take_succ_cons, Rs]
    exact ⟨v, us.take n, rfl, h1, Rs_take n h2⟩

/-- A value of one cell, in its two forms. -/
theorem R_oneCell {ρ : Env} {a : AV} {v : Value} (h : R ρ a v) (hc : a.isCell = true) : v.oneCell' = true := by
  cases a <;> simp only [AV.isCell, Bool.false_eq_true] at hc <;> simp only [R] at h
  all_goals first
    | (subst h; rfl)
    | (obtain ⟨q, rfl, _⟩ := h; rfl)
    | (rcases h with ⟨q, c, rfl, _⟩ | ⟨_, _, rfl⟩ <;> rfl)

theorem R_cells {ρ : Env} {a : AV} {v : Value} (h : R ρ a v) (hc : ∀ x ∈ a.cells, x.isCell = true) : Rs ρ a.cells v.cells.toList := by
  cases a with
  | agg cs => simp only [R] at h; obtain ⟨vs, rfl, h⟩ := h; exact h
  | tup vs => simp [AV.cells, AV.isCell] at hc
  | any => simp [AV.cells, AV.isCell] at hc
  | _ =>
    have h1 := R_oneCell h rfl
    have : v.cells = #[v] := by cases v <;> simp [Value.oneCell', Value.cells] at h1 ⊢
    simp only [AV.cells, this, Rs]
    exact ⟨v, [], rfl, h, rfl⟩

-- ------------------------------------------------------------------ heaps

/-- Block i of an abstract heap lies in the world. -/
def Lies (ρ : Env) (i : Nat) (c : ACells) (w : World) : Prop :=
  c.len ≤ ρ.sz i ∧ (ρ.sz i ≠ 0 → ∃ arr T fz, w.heap[ρ.blk i]? = some (.cells arr T fz) ∧ ρ.base i + ρ.sz i ≤ arr.size ∧
    ∀ j v, c.get? j = some v → ∃ y, arr[ρ.base i + j]? = some y ∧ R ρ v y)

structure Rep (B : Nat) (ρ : Env) (h : AHeap) (w : World) : Prop where
  wf : ∀ (i : Nat) (x : ABlk), h[i]? = some x → x.st ≠ .dead → x.c.lt h.length = true
  old : ∀ (i : Nat) (x : ABlk) (t : Nat), h[i]? = some x → x.st = .old t → t < h.length
  lies : ∀ (i : Nat) (x : ABlk), h[i]? = some x → x.st ≠ .dead → Lies ρ i x.c w
  own : ∀ (i : Nat) (x : ABlk) (o : Bool), h[i]? = some x → x.st = .tip o → ρ.sz i ≠ 0 → B ≤ ρ.blk i ∧ ∀ q, ρ.base i ≤ q → q < ρ.base i + ρ.sz i → w.frozen? ⟨ρ.blk i, q, none⟩ = false
  ext : ∀ (i : Nat) (x : ABlk), h[i]? = some x → x.st = .ext → ρ.sz i ≠ 0 → ρ.blk i < B
  sep : ∀ (i j : Nat) (x y : ABlk) (o : Bool), h[i]? = some x → h[j]? = some y → i ≠ j → x.st = .tip o → y.st ≠ .dead → ρ.sz i ≠ 0 → ρ.sz j ≠ 0 → ρ.blk i = ρ.blk j →
    o = true ∧ y.st = .old i ∧ ρ.base j + y.c.len ≤ ρ.base i + x.c.len

def Tips (ρ : Env) (h : AHeap) (x : Nat) : Prop := ∃ (i : Nat) (y : ABlk) (o : Bool), h[i]? = some y ∧ y.st = .tip o ∧ ρ.sz i ≠ 0 ∧ ρ.blk i = x

/-- What the call may have changed, in whatever face. -/
def Face (ρ : Env) (h : AHeap) (x : Nat) : Prop := ∃ (i : Nat) (y : ABlk), h[i]? = some y ∧ (y.st ≠ .dead ∧ y.st ≠ .ext) ∧ ρ.sz i ≠ 0 ∧ ρ.blk i = x

theorem Tips.face {ρ : Env} {h : AHeap} {x : Nat} (t : Tips ρ h x) : Face ρ h x := by
  obtain ⟨i, y, o, h1, h2, h3, h4⟩ := t
  exact ⟨i, y, h1, ⟨by rw [h2]; simp, by rw [h2]; simp⟩, h3, h4⟩

structure Fr (ρ : Env) (h : AHeap) (w : World) (ρ' : Env) (h' : AHeap) (w' : World) : Prop where
  os : w'.os = w.os
  tape : w'.tape = w.tape
  output : w'.output = w.output
  size : w.heap.size ≤ w'.heap.size
  keep : ∀ x, x < w.heap.size → ¬ Tips ρ h x → w'.heap[x]? = w.heap[x]?
  fresh : ∀ x, Tips ρ' h' x → w.heap.size ≤ x ∨ Tips ρ h x
  face : ∀ x, Face ρ' h' x → w.heap.size ≤ x ∨ Face ρ h x

theorem Fr.refl (ρ : Env) (h : AHeap) (w : World) : Fr ρ h w ρ h w := ⟨rfl, rfl, rfl, Nat.le_refl _, fun _ _ _ => rfl, fun _ h => Or.inr h, fun _ h => Or.inr h⟩

theorem Fr.trans {ρ ρ₁ ρ₂ : Env} {h h₁ h₂ : AHeap} {w w₁ w₂ : World} (a : Fr ρ h w ρ₁ h₁ w₁) (b : Fr ρ₁ h₁ w₁ ρ₂ h₂ w₂) : Fr ρ h w ρ₂ h₂ w₂ where
  os := b.os.trans a.os
  tape := b.tape.trans a.tape
  output := b.output.trans a.output
  size := Nat.le_trans a.size b.size
  keep x hx ht := by
    rw [b.keep x (Nat.lt_of_lt_of_le hx a.size) ?_, a.keep x hx ht]
    intro h1
    rcases a.fresh x h1 with h2 | h2
    · omega
    · exact ht h2
  fresh x hx := by
    rcases b.fresh x hx with h1 | h1
    · exact Or.inl (Nat.le_trans a.size h1)
    · exact a.fresh x h1
  face x hx := by
    rcases b.face x hx with h1 | h1
    · exact Or.inl (Nat.le_trans a.size h1)
    · exact a.face x h1

/-- All that is kept along a run: the heap, the globals' own heap, the base. -/
structure St (B : Nat) (ρg : Env) (gl : AHeap) (gid : Nat → Nat) (ρ : Env) (h : AHeap) (w : World) : Prop where
  rep : Rep B ρ h w
  grep : Rep B ρg gl w
  gext : ∀ (i : Nat) (x : ABlk), gl[i]? = some x → x.st = .ext ∨ x.st = .dead
  le : B ≤ w.heap.size
  pre : ∀ i, i < gl.length → i < h.length ∧ ρ.blk i = gid i ∧ ρ.base i = 0
  gpre : ∀ i, i < gl.length → ρg.blk i = gid i ∧ ρg.base i = 0

theorem World.frozen_of_block {w w' : World} {a : Addr} (h : w'.heap[a.block]? = w.heap[a.block]?) : w'.frozen? a = w.frozen? a := by
  simp only [World.frozen?, h]

/-- What lies below a base that nothing touched. -/
theorem Lies.same {ρ : Env} {i : Nat} {c : ACells} {w w' : World} (hl : Lies ρ i c w) (h : ρ.sz i ≠ 0 → w'.heap[ρ.blk i]? = w.heap[ρ.blk i]?) : Lies ρ i c w' :=
  ⟨hl.1, fun hz => by obtain ⟨arr, T, fz, h1, h2⟩ := hl.2 hz; exact ⟨arr, T, fz, by rw [h hz]; exact h1, h2⟩⟩

theorem Rep.same {B : Nat} {ρ : Env} {h : AHeap} {w w' : World} (r : Rep B ρ h w) (hs : ∀ (i : Nat) (x : ABlk), h[i]? = some x → x.st ≠ .dead → ρ.sz i ≠ 0 → w'.heap[ρ.blk i]? = w.heap[ρ.blk i]?) : Rep B ρ h w' where
  wf := r.wf
  old := r.old
  lies i x hi hd := (r.lies i x hi hd).same (hs i x hi hd)
  own i x o hi ht hz := ⟨(r.own i x o hi ht hz).1, fun q h1 h2 => by rw [World.frozen_of_block (hs i x hi (by rw [ht]; simp) hz)]; exact (r.own i x o hi ht hz).2 q h1 h2⟩
  ext := r.ext
  sep := r.sep

/-- The globals' heap lies on where the call's own blocks alone were touched. -/
theorem Rep.globals {B : Nat} {ρg ρ ρ' : Env} {gl h h' : AHeap} {w w' : World} (r : Rep B ρg gl w) (hg : ∀ (i : Nat) (x : ABlk), gl[i]? = some x → x.st = .ext ∨ x.st = .dead)
    (hr : Rep B ρ h w) (hB : B ≤ w.heap.size) (f : Fr ρ h w ρ' h' w') : Rep B ρg gl w' :=
  r.same fun i x hi hd hz => by
    have hlt := r.ext i x hi ((hg i x hi).resolve_right hd) hz
    refine f.keep _ (by omega) ?_
    rintro ⟨j, y, o, hj, ht, hz', e⟩
    have := (hr.own j y o hj ht hz').1
    omega

theorem ACells.lt_mono {n m : Nat} (h : n ≤ m) {c : ACells} (hc : c.lt n = true) : c.lt m = true := by
  cases c with
  | ints => rfl
  | vals l => simp only [ACells.lt, Bool.and_eq_true] at hc ⊢; exact ⟨AV.lts_mono h l hc.1, hc.2⟩

theorem ACells.get_lt {n : Nat} {c : ACells} (hc : c.lt n = true) {j : Nat} {v : AV} (h : c.get? j = some v) : v.lt n = true := by
  cases c with
  | ints k l => simp only [ACells.get?, Option.map_eq_some_iff] at h; obtain ⟨x, _, rfl⟩ := h; rfl
  | vals l => simp only [ACells.get?] at h; simp only [ACells.lt, Bool.and_eq_true] at hc; exact AV.lts_iff.1 hc.1 v (List.mem_of_getElem? h)

theorem ACells.get_some {c : ACells} {j : Nat} (h : j < c.len) : ∃ v, c.get? j = some v := by
  cases c with
  | ints k l => simp only [ACells.len] at h; exact ⟨_, by simp [ACells.get?, List.getElem?_eq_getElem h]; rfl⟩
  | vals l => simp only [ACells.len] at h; exact ⟨_, by simp [ACells.get?, List.getElem?_eq_getElem h]; rfl⟩

theorem ACells.get_none {c : ACells} {j : Nat} {v : AV} (h : c.get? j = some v) : j < c.len := by
  cases c with
  | ints k l => simp only [ACells.get?, Option.map_eq_some_iff] at h; obtain ⟨x, h, _⟩ := h; exact (List.getElem?_eq_some_iff.1 h).1
  | vals l => simp only [ACells.get?] at h; exact (List.getElem?_eq_some_iff.1 h).1

/-- A cell of a block is in the world. -/
theorem Lies.cell {ρ : Env} {i : Nat} {c : ACells} {w : World} (hl : Lies ρ i c w) {j : Nat} {v : AV} (h : c.get? j = some v) : ∃ y, w.cell? (ρ.addr i j) = some y ∧ R ρ v y := by
  have hj := ACells.get_none h
  have hz : ρ.sz i ≠ 0 := by have := hl.1; omega
  obtain ⟨arr, T, fz, h1, h2, h3⟩ := hl.2 hz
  obtain ⟨y, hy, hr⟩ := h3 j v h
  exact ⟨y, by simp only [World.cell?, Env.addr, h1, Option.isSome_none, Bool.false_eq_true, if_false, hy], hr⟩

theorem cellsAt_some {h : AHeap} {b : Nat} {c : ACells} (hc : cellsAt h b = some c) : ∃ x : ABlk, h[b]? = some x ∧ x.st ≠ .dead ∧ x.c = c := by
  unfold cellsAt at hc
  split at hc
  · cases hc
  · rename_i st c' hne he
    cases hc
    exact ⟨_, he, fun hd => hne hd, rfl⟩
  · cases hc

end Go.Proofs.YtdbdmnhnijpdcaaDoorW.AI

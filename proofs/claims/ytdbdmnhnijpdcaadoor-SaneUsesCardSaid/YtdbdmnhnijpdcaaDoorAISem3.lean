import Derived.Test.YtdbdmnhnijpdcaaDoorAISem2
/-! Memory: what loads, stores and new blocks do to an abstract heap's image. -/
namespace Go.Proofs.YtdbdmnhnijpdcaaDoorW.AI
open Go
set_option linter.unusedVariables false
set_option linter.unusedSimpArgs false

theorem ACells.get_list (c : ACells) (j : Nat) : c.get? j = c.list[j]? := by
  cases c with
  | ints k l => simp [ACells.get?, ACells.list]
  | vals l => rfl

theorem ACells.len_list (c : ACells) : c.len = c.list.length := by
  cases c with
  | ints k l => simp [ACells.len, ACells.list]
  | vals l => rfl

/-- b is a, but for vs from off on. -/
def Splice {α : Type} (a b : List α) (off : Nat) (vs : List α) : Prop :=
  b.length = a.length ∧ (vs ≠ [] → off + vs.length ≤ a.length) ∧ ∀ j, b[j]? = if off ≤ j ∧ j < off + vs.length then vs[j - off]? else a[j]?

theorem Splice.nil {α : Type} (a : List α) (off : Nat) : Splice a a off [] := ⟨rfl, fun h => absurd rfl h, fun j => by rw [if_neg (by simp only [List.length_nil]; omega)]⟩

theorem Splice.cons {α : Type} {a b : List α} {off : Nat} {v : α} {vs : List α} (hoff : off < a.length) (h : Splice (a.set off v) b (off + 1) vs) : Splice a b off (v :: vs) := by
  obtain ⟨h1, h2, h3⟩ := h
  refine ⟨by simpa using h1, fun _ => ?_, fun j => ?_⟩
  · by_cases hv : vs = []
    · subst hv; simp; omega
    · have := h2 hv; simp at this ⊢; omega
  · rw [h3 j]
    by_cases hj : j = off
    · subst hj
      rw [if_neg (by omega), if_pos (by simp)]
      simp [List.getElem?_set, hoff]
    · by_cases h4 : off + 1 ≤ j ∧ j < off + 1 + vs.length
      · rw [if_pos h4, if_pos (by simp; omega)]
        obtain ⟨k, rfl⟩ : ∃ k, j = off + 1 + k := ⟨j - (off + 1), by omega⟩
        rw [show off + 1 + k - off = k + 1 from by omega, show off + 1 + k - (off + 1) = k from by omega]
        simp
      · rw [if_neg h4, if_neg (by simp; omega), List.getElem?_set_ne (by omega)]

theorem ACells.set_list {c c' : ACells} {i : Nat} {v : AV} (h : c.set? i v = some c') : c'.list = c.list.set i v ∧ i < c.list.length ∧ v.isCell = true := by
  cases c with
  | ints k l =>
    cases v <;> simp only [ACells.set?] at h <;> first | (cases h; done) | skip
    split at h
    · rename_i hk
      simp only [Option.some.injEq] at h; subst h
      obtain ⟨rfl, hi⟩ := hk
      exact ⟨by simp [ACells.list, List.map_set], by simpa [ACells.list] using hi, rfl⟩
    · cases h
  | vals l =>
    simp only [ACells.set?] at h
    split at h
    · rename_i hk
      simp only [Option.some.injEq] at h; subst h
      exact ⟨rfl, hk.1, hk.2⟩
    · cases h

theorem storeL_splice : ∀ {vs : List AV} {c c' : ACells} {off : Nat}, storeL c off vs = some c' → Splice c.list c'.list off vs ∧ ∀ v ∈ vs, v.isCell = true
  | [], c, c', off, h => by simp only [storeL, Option.some.injEq] at h; subst h; exact ⟨Splice.nil _ _, by simp⟩
  | v :: vs, c, c', off, h => by
    simp only [storeL, Option.bind_eq_some_iff] at h
    obtain ⟨c1, h1, h2⟩ := h
    obtain ⟨e1, e2, e3⟩ := ACells.set_list h1
    obtain ⟨s1, s2⟩ := storeL_splice h2
    rw [e1] at s1
    exact ⟨Splice.cons e2 s1, by simpa [e3] using s2⟩

theorem ACells.lt_list {n : Nat} {c : ACells} : c.lt n = true ↔ ∀ v ∈ c.list, v.lt n = true ∧ v.isCell = true := by
  cases c with
  | ints k l => simp [ACells.lt, ACells.list, AV.lt, AV.isCell]
  | vals l =>
    simp only [ACells.lt, ACells.list, Bool.and_eq_true, List.all_eq_true]
    exact ⟨fun h v hv => ⟨AV.lts_iff.1 h.1 v hv, h.2 v hv⟩, fun h => ⟨AV.lts_iff.2 fun v hv => (h v hv).1, fun v hv => (h v hv).2⟩⟩

theorem Splice.mem {α : Type} {a b : List α} {off : Nat} {vs : List α} (h : Splice a b off vs) {x : α} (hx : x ∈ b) : x ∈ a ∨ x ∈ vs := by
  obtain ⟨j, hj⟩ := List.mem_iff_getElem?.1 hx
  rw [h.2.2 j] at hj
  split at hj
  · exact Or.inr (List.mem_of_getElem? hj)
  · exact Or.inl (List.mem_of_getElem? hj)

theorem loadN_get : ∀ {n : Nat} {c : ACells} {off : Nat} {vs : List AV}, loadN c off n = some vs → vs.length = n ∧ ∀ j, j < n → vs[j]? = c.get? (off + j)
  | 0, c, off, vs, h => by simp only [loadN, Option.some.injEq] at h; subst h; exact ⟨rfl, fun j hj => by omega⟩
  | n + 1, c, off, vs, h => by
    simp only [loadN, Option.bind_eq_some_iff, Option.map_eq_some_iff] at h
    obtain ⟨v, h1, ws, h2, rfl⟩ := h
    obtain ⟨e1, e2⟩ := loadN_get h2
    refine ⟨by simp [e1], fun j hj => ?_⟩
    cases j with
    | zero => simp [h1]
    | succ j => simp only [List.getElem?_cons_succ]; rw [e2 j (by omega)]; congr 1; omega

-- ------------------------------------------------------------------ loads

theorem addr_add (b o n : Nat) : (⟨b, o, none⟩ : Addr).add n = ⟨b, o + n, none⟩ := by
  unfold Addr.add; split
  · rename_i h; subst h; rfl
  · rfl

theorem Env.addr_add (ρ : Env) (b o n : Nat) : (ρ.addr b o).add n = ρ.addr b (o + n) := by
  simp only [Env.addr, Go.Proofs.YtdbdmnhnijpdcaaDoorW.AI.addr_add, Nat.add_assoc]

theorem run_load_cell {P : Program} {w : World} {a : Addr} {v : Value} (h : w.cell? a = some v) : (load a).run P w = .ok v w := by
  rw [run_load, h]

theorem run_loadFrom {P : Program} {w : World} {ρ : Env} {b off : Nat} : ∀ (n i : Nat) (vs : List Value) (acc : Array Value), vs.length = n → (∀ j v, vs[j]? = some v → w.cell? (ρ.addr b (off + i + j)) = some v) →
    (loadCellsFrom (ρ.addr b off) i n acc).run P w = .ok (acc ++ vs.toArray) w
  | 0, i, vs, acc, hl, hc => by
    have : vs = [] := List.eq_nil_of_length_eq_zero hl
    subst this
    simp [loadCellsFrom]
  | n + 1, i, [], acc, hl, hc => by simp at hl
  | n + 1, i, v :: vs, acc, hl, hc => by
    have h0 := hc 0 v rfl
    simp only [loadCellsFrom, Sem.run_bind, Env.addr_add]
    rw [run_load_cell (by simpa using h0)]
    simp only [Result.andThen_ok]
    rw [run_loadFrom n (i + 1) vs (acc.push v) (by simpa using hl) fun j u hj => by
      have := hc (j + 1) u (by simpa using hj)
      rw [← this]; congr 2; omega]
    simp

theorem run_loadCells_env {P : Program} {w : World} {ρ : Env} {b off : Nat} {n : Nat} {vs : List Value} (hl : vs.length = n) (hc : ∀ j v, vs[j]? = some v → w.cell? (ρ.addr b (off + j)) = some v) :
    (loadCells (ρ.addr b off) n).run P w = .ok vs.toArray w := by
  unfold loadCells
  rw [run_loadFrom n 0 vs #[] hl (by simpa using hc)]
  simp

theorem run_typeInfo' {P : Program} {w : World} {t : TypeId} {i : TypeInfo} (h : P.info? t = some i) : (typeInfo t).run P w = .ok i w := by
  simp [typeInfo, h]

theorem run_sizeOf' {P : Program} {w : World} {t n : Nat} (h : (P.info? t).map (·.size) = some n) : (sizeOf t).run P w = .ok n w := by
  rw [Option.map_eq_some_iff] at h
  obtain ⟨i, h1, rfl⟩ := h
  simp [sizeOf, run_typeInfo' h1]

theorem run_isAgg {X : Ctx} {w : World} {t : Nat} {b : Bool} (h : aggIs X t b = true) : (isAgg t).run X.P w = .ok b w := by
  unfold aggIs at h
  unfold isAgg
  split at h <;> rename_i hu
  · subst h; simp [run_underlying hu]
  · subst h; simp [run_underlying hu]
  · rename_i d h1 h2
    simp only [Bool.not_eq_true'] at h; subst h
    simp only [Sem.run_bind, run_underlying hu, Result.andThen_ok]
    cases d with
    | struct f => exact (h1 f rfl).elim
    | array n e => exact (h2 n e rfl).elim
    | _ => rfl
  · cases h

/-- A variable read: one cell, or all of an aggregate. -/
theorem run_loadVar_env {X : Ctx} {w : World} {ρ : Env} {b off : Nat} {c : ACells} (hl : Lies ρ b c w) {t : Nat} {agg : Option Nat} (ht : chkAgg X t agg = true)
    {v : AV} (hv : loadA c off agg = some v) : ∃ u, (loadVar t (ρ.addr b off)).run X.P w = .ok u w ∧ R ρ v u := by
  cases agg with
  | none =>
    simp only [chkAgg] at ht
    simp only [loadA] at hv
    obtain ⟨y, h1, h2⟩ := hl.cell hv
    exact ⟨y, by simp [loadVar, run_isAgg ht, h1], h2⟩
  | some n =>
    simp only [chkAgg, Bool.and_eq_true, szIs, decide_eq_true_eq] at ht
    simp only [loadA, Option.map_eq_some_iff] at hv
    obtain ⟨vs, h1, rfl⟩ := hv
    obtain ⟨e1, e2⟩ := loadN_get h1
    have key : ∀ m, m ≤ n → ∃ us : List Value, us.length = m ∧ ∀ j u, us[j]? = some u → w.cell? (ρ.addr b (off + j)) = some u ∧ ∃ a, vs[j]? = some a ∧ R ρ a u := by
      intro m
      induction m with
      | zero => exact fun _ => ⟨[], rfl, fun j u hj => by simp at hj⟩
      | succ m ih =>
        intro hm
        obtain ⟨us, hu1, hu2⟩ := ih (by omega)
        have hvm : ∃ a, vs[m]? = some a := ⟨vs[m]'(by omega), List.getElem?_eq_getElem (by omega)⟩
        obtain ⟨a, ha⟩ := hvm
        obtain ⟨y, h3, h4⟩ := hl.cell ((e2 m (by omega)).symm.trans ha)
        refine ⟨us ++ [y], by simp [hu1], fun j u hj => ?_⟩
        by_cases hjm : j < m
        · rw [List.getElem?_append_left (by omega)] at hj
          exact hu2 j u hj
        · have : j = m := by
            have := (List.getElem?_eq_some_iff.1 hj).1
            simp [hu1] at this; omega
          subst this
          rw [List.getElem?_append_right (by omega)] at hj
          simp [hu1] at hj
          subst hj
          exact ⟨h3, a, ha, h4⟩
    obtain ⟨us, hu1, hu2⟩ := key n (Nat.le_refl _)
    refine ⟨.agg us.toArray, ?_, ?_⟩
    · simp only [loadVar, Sem.run_bind, run_isAgg ht.1, Result.andThen_ok, if_true, run_sizeOf' ht.2, run_loadCells_env hu1 fun j u hj => (hu2 j u hj).1, Sem.run_pure]
    · simp only [R]
      refine ⟨us.toArray, rfl, ?_⟩
      simp only
      refine Rs_of_get (by omega) fun j a u ha hu => ?_
      obtain ⟨_, a', ha', hr⟩ := hu2 j u hu
      rw [ha] at ha'; cases ha'
      exact hr

-- ------------------------------------------------------------------ stores

def spliceA (arr : Array Value) (off : Nat) : List Value → Array Value
  | [] => arr
  | v :: vs => spliceA (arr.setIfInBounds off v) (off + 1) vs

theorem spliceA_spec : ∀ (vs : List Value) (arr : Array Value) (off : Nat), (vs ≠ [] → off + vs.length ≤ arr.size) → Splice arr.toList (spliceA arr off vs).toList off vs
  | [], arr, off, h => Splice.nil _ _
  | v :: vs, arr, off, h => by
    have h := h (by simp)
    simp only [List.length_cons] at h
    refine Splice.cons (by simp; omega) ?_
    have := spliceA_spec vs (arr.setIfInBounds off v) (off + 1) (fun _ => by simp; omega)
    simpa [spliceA] using this

def World.putBlk (w : World) (g : Nat) (o : Obj) : World := { w with heap := w.heap.setIfInBounds g o }

theorem setCell_putBlk {w : World} {g o : Nat} {arr : Array Value} {T : TypeId} {fz : Nat × Nat} (h : w.heap[g]? = some (.cells arr T fz)) (v : Value) :
    w.setCell ⟨g, o, none⟩ v = World.putBlk w g (.cells (arr.setIfInBounds o v) T fz) := by
  have hg : g < w.heap.size := (Array.getElem?_eq_some_iff.1 h).1
  have he : w.heap[g] = .cells arr T fz := (Array.getElem?_eq_some_iff.1 h).2
  simp only [World.setCell, World.putBlk]
  congr 1
  apply Array.ext_getElem?
  intro i
  rw [Array.getElem?_modify, Array.getElem?_setIfInBounds]
  by_cases e : g = i
  · subst e; simp [h, hg, he]
  · rw [if_neg e, if_neg e]

theorem putBlk_get {w : World} {g : Nat} {o : Obj} (hg : g < w.heap.size) : (World.putBlk w g o).heap[g]? = some o := by
  simp [World.putBlk, hg]

theorem putBlk_ne {w : World} {g x : Nat} {o : Obj} (hx : x ≠ g) : (World.putBlk w g o).heap[x]? = w.heap[x]? := by
  simp only [World.putBlk]
  rw [Array.getElem?_setIfInBounds_ne (Ne.symm hx)]

theorem putBlk_put {w : World} {g : Nat} {o o' : Obj} : World.putBlk (World.putBlk w g o) g o' = World.putBlk w g o' := by
  simp [World.putBlk]

theorem putBlk_self {w : World} {g : Nat} {o : Obj} (h : w.heap[g]? = some o) : World.putBlk w g o = w := by
  have hg : g < w.heap.size := (Array.getElem?_eq_some_iff.1 h).1
  have he : w.heap[g] = o := (Array.getElem?_eq_some_iff.1 h).2
  simp only [World.putBlk]
  have : w.heap.setIfInBounds g o = w.heap := by
    apply Array.ext_getElem?
    intro i
    rw [Array.getElem?_setIfInBounds]
    by_cases e : g = i
    · subst e; simp [h, hg, he]
    · rw [if_neg e]
  rw [this]

theorem run_storeCells_env {P : Program} {g : Nat} {T : TypeId} {fz : Nat × Nat} : ∀ (vs : List Value) (off i : Nat) (arr : Array Value) (w : World), w.heap[g]? = some (.cells arr T fz) → (vs ≠ [] → off + i + vs.length ≤ arr.size) →
    (∀ q, off + i ≤ q → q < off + i + vs.length → ¬ (fz.1 ≤ q ∧ q < fz.2)) → (∀ v ∈ vs, v.oneCell' = true) →
    (storeCells ⟨g, off, none⟩ vs i).run P w = .ok () (World.putBlk w g (.cells (spliceA arr (off + i) vs) T fz))
  | [], off, i, arr, w, h, hs, hf, ho => by
    simp [storeCells, spliceA, putBlk_self h]
  | v :: vs, off, i, arr, w, h, hs, hf, ho => by
    have hs := hs (by simp)
    simp only [List.length_cons] at hs hf
    have hc : w.cell? ⟨g, off + i, none⟩ = some (arr[off + i]'(by omega)) := by
      simp [World.cell?, h, Array.getElem?_eq_getElem (show off + i < arr.size by omega)]
    have hz : w.frozen? ⟨g, off + i, none⟩ = false := by
      have := hf (off + i) (by omega) (by omega)
      simp only [World.frozen?, h]
      simpa using this
    simp only [storeCells, Sem.run_bind, addr_add]
    rw [run_store P w _ v _ (ho v (by simp)), hc]
    simp only [hz, Bool.false_eq_true, if_false, Result.andThen_ok]
    rw [setCell_putBlk h]
    have hg : g < w.heap.size := (Array.getElem?_eq_some_iff.1 h).1
    rw [run_storeCells_env vs off (i + 1) (arr.setIfInBounds (off + i) v) _ (putBlk_get hg) (fun _ => by simp; omega) (fun q h1 h2 => hf q (by omega) (by omega)) (fun u hu => ho u (by simp [hu]))]
    rw [putBlk_put]
    rfl

theorem putBlk_frozen {w : World} {g : Nat} {arr arr' : Array Value} {T : TypeId} {fz : Nat × Nat} (h : w.heap[g]? = some (.cells arr T fz)) (a : Addr) :
    (World.putBlk w g (.cells arr' T fz)).frozen? a = w.frozen? a := by
  have hg : g < w.heap.size := (Array.getElem?_eq_some_iff.1 h).1
  by_cases e : a.block = g
  · simp only [World.frozen?, e, putBlk_get hg, h]
  · simp only [World.frozen?, putBlk_ne e]

theorem kill_get {b i : Nat} {h : AHeap} : (kill b h)[i]? = (h[i]?).map fun x => if x.st = .old b then { x with st := .dead } else x := by
  simp [kill]

theorem kill_length (b : Nat) (h : AHeap) : (kill b h).length = h.length := by simp [kill]

theorem change_spec {h h' : AHeap} {b : Nat} {f : ACells → Option ACells} (hc : change h b f = some h') :
    ∃ o c c', h[b]? = some ⟨.tip o, c⟩ ∧ f c = some c' ∧ h' = (if o then kill b h else h).set b ⟨.tip o, c'⟩ := by
  unfold change at hc
  split at hc
  · rename_i o c he
    simp only [Option.map_eq_some_iff] at hc
    obtain ⟨c', h1, h2⟩ := hc
    exact ⟨o, c, c', he, h1, h2.symm⟩
  · cases hc

theorem change_get {h : AHeap} {b : Nat} {o : Bool} {c c' : ACells} (hb : h[b]? = some ⟨.tip o, c⟩) (i : Nat) :
    ((if o then kill b h else h).set b ⟨.tip o, c'⟩)[i]? = if i = b then some ⟨.tip o, c'⟩ else (h[i]?).map fun x => if o = true ∧ x.st = .old b then { x with st := .dead } else x := by
  have hlt : b < h.length := (List.getElem?_eq_some_iff.1 hb).1
  by_cases e : i = b
  · subst e
    rw [if_pos rfl]
    cases o <;> simp [List.getElem?_set, hlt, kill_length]
  · rw [if_neg e, List.getElem?_set_ne (Ne.symm e)]
    cases o
    · simp
    · simp [kill_get]

/-- A block of the call's own is changed: cells from off on. -/
theorem Rep.change {B : Nat} {ρ : Env} {h h' : AHeap} {w : World} (r : Rep B ρ h w) {b : Nat} {f : ACells → Option ACells} (hc : change h b f = some h') {off : Nat} {vs : List AV} {us : List Value}
    (hf : ∀ c c', f c = some c' → Splice c.list c'.list off vs ∧ ∀ v ∈ vs, v.isCell = true) (hu : Rs ρ vs us) (hlt : ∀ v ∈ vs, v.lt h.length = true) (P : Program) :
    ∃ w', (storeCells (ρ.addr b off) us).run P w = .ok () w' ∧ Rep B ρ h' w' ∧ Fr ρ h w ρ h' w' ∧ h'.length = h.length := by
  obtain ⟨o, c, c', hb, hcc, rfl⟩ := change_spec hc
  obtain ⟨sp, hcell⟩ := hf c c' hcc
  have hlen : ((if o then kill b h else h).set b (⟨.tip o, c'⟩ : ABlk)).length = h.length := by cases o <;> simp [kill_length]
  have hll := Rs_length hu
  have hget := change_get (c' := c') hb
  have hl : Lies ρ b c w := r.lies b _ hb (by simp)
  have hone : ∀ v ∈ us, v.oneCell' = true := by
    intro v hv
    obtain ⟨j, hj⟩ := List.mem_iff_getElem?.1 hv
    have hjl : j < vs.length := by have := (List.getElem?_eq_some_iff.1 hj).1; omega
    obtain ⟨u, hu1, hu2⟩ := Rs_get hu (List.getElem?_eq_getElem hjl)
    rw [hj] at hu1; cases hu1
    exact R_oneCell hu2 (hcell _ (List.getElem_mem hjl))
  -- the abstract side, whatever became of the world
  have abs : ∀ w' : World, (∀ x, x ≠ ρ.blk b ∨ ρ.sz b = 0 → w'.heap[x]? = w.heap[x]?) → (∀ a, w'.frozen? a = w.frozen? a) → Lies ρ b c' w' → Rep B ρ ((if o then kill b h else h).set b ⟨.tip o, c'⟩) w' := by
    intro w' hw hfz hl'
    have hne : ∀ i x, i ≠ b → h[i]? = some x → x.st ≠ .dead → ¬ (o = true ∧ x.st = .old b) → ρ.sz i ≠ 0 → ρ.blk i ≠ ρ.blk b ∨ ρ.sz b = 0 := by
      intro i x hi hx hd ho hz
      by_cases hzb : ρ.sz b = 0
      · exact Or.inr hzb
      · refine Or.inl fun e => ?_
        obtain ⟨h1, h2, _⟩ := r.sep b i _ x o hb hx (Ne.symm hi) rfl hd hzb hz e.symm
        exact ho ⟨h1, h2⟩
    constructor
    · intro i x hx hd
      rw [hget i] at hx
      rw [hlen]
      split at hx
      · cases hx
        refine ACells.lt_list.2 fun v hv => ?_
        rcases sp.mem hv with h1 | h1
        · exact ACells.lt_list.1 (r.wf b _ hb (by simp)) v h1
        · exact ⟨hlt v h1, hcell v h1⟩
      · simp only [Option.map_eq_some_iff] at hx
        obtain ⟨y, hy, rfl⟩ := hx
        split at hd <;> rename_i hc'
        · simp at hd
        · rw [if_neg hc']; exact r.wf i y hy hd
    · intro i x t hx ht
      rw [hget i] at hx
      rw [hlen]
      split at hx
      · cases hx; simp at ht
      · simp only [Option.map_eq_some_iff] at hx
        obtain ⟨y, hy, rfl⟩ := hx
        split at ht
        · simp at ht
        · exact r.old i y t hy ht
    · intro i x hx hd
      rw [hget i] at hx
      split at hx
      · rename_i e; subst e; cases hx; exact hl'
      · rename_i hi
        simp only [Option.map_eq_some_iff] at hx
        obtain ⟨y, hy, rfl⟩ := hx
        split at hd <;> rename_i hc'
        · simp at hd
        · rw [if_neg hc']; exact (r.lies i y hy hd).same fun hz => hw _ (hne i y hi hy hd hc' hz)
    · intro i x o' hx ht hz
      rw [hget i] at hx
      have key : ∀ y, h[i]? = some y → y.st = .tip o' → B ≤ ρ.blk i ∧ ∀ q, ρ.base i ≤ q → q < ρ.base i + ρ.sz i → w'.frozen? ⟨ρ.blk i, q, none⟩ = false := fun y hy hyt =>
        ⟨(r.own i y o' hy hyt hz).1, fun q h1 h2 => by rw [hfz]; exact (r.own i y o' hy hyt hz).2 q h1 h2⟩
      split at hx
      · rename_i e; subst e; cases hx; simp only [BSt.tip.injEq] at ht; subst ht; exact key _ hb rfl
      · simp only [Option.map_eq_some_iff] at hx
        obtain ⟨y, hy, rfl⟩ := hx
        split at ht
        · simp at ht
        · exact key y hy ht
    · intro i x hx ht hz
      rw [hget i] at hx
      split at hx
      · cases hx; simp at ht
      · simp only [Option.map_eq_some_iff] at hx
        obtain ⟨y, hy, rfl⟩ := hx
        split at ht
        · simp at ht
        · exact r.ext i y hy ht hz
    · intro i j x y o' hx hy hij ht hd hz1 hz2 e
      rw [hget i] at hx
      rw [hget j] at hy
      by_cases hi : i = b
      · subst hi
        rw [if_pos rfl] at hx; cases hx
        simp only [BSt.tip.injEq] at ht; subst ht
        rw [if_neg (Ne.symm hij)] at hy
        simp only [Option.map_eq_some_iff] at hy
        obtain ⟨y', hy', rfl⟩ := hy
        split at hd <;> rename_i hc'
        · simp at hd
        · obtain ⟨h1, h2, h3⟩ := r.sep i j _ y' o hb hy' hij rfl hd hz1 hz2 e
          exact absurd ⟨h1, h2⟩ hc'
      · rw [if_neg hi] at hx
        simp only [Option.map_eq_some_iff] at hx
        obtain ⟨x', hx', rfl⟩ := hx
        split at ht
        · simp at ht
        rename_i hcx
        rw [if_neg hcx]
        by_cases hj : j = b
        · subst hj
          obtain ⟨h1, h2, h3⟩ := r.sep i j x' _ o' hx' hb hij ht (by simp) hz1 hz2 e
          simp at h2
        · rw [if_neg hj] at hy
          simp only [Option.map_eq_some_iff] at hy
          obtain ⟨y', hy', rfl⟩ := hy
          split at hd <;> rename_i hc'
          · simp at hd
          · rw [if_neg hc']; exact r.sep i j x' y' o' hx' hy' hij ht hd hz1 hz2 e
  have fr : ∀ w' : World, w'.os = w.os → w'.tape = w.tape → w'.output = w.output → w'.heap.size = w.heap.size → (∀ x, x ≠ ρ.blk b ∨ ρ.sz b = 0 → w'.heap[x]? = w.heap[x]?) →
      Fr ρ h w ρ ((if o then kill b h else h).set b ⟨.tip o, c'⟩) w' := by
    intro w' e1 e2 e3 e4 hw
    refine ⟨e1, e2, e3, by omega, fun x hx ht => hw x ?_, fun x hx => ?_, fun x hx => ?_⟩
    · by_cases hz : ρ.sz b = 0
      · exact Or.inr hz
      · exact Or.inl fun e => ht ⟨b, _, o, hb, rfl, hz, e.symm⟩
    · obtain ⟨i, y, o', hi, ht, hz, e⟩ := hx
      refine Or.inr ?_
      rw [hget i] at hi
      split at hi
      · rename_i e'; subst e'; exact ⟨i, _, o, hb, rfl, hz, e⟩
      · simp only [Option.map_eq_some_iff] at hi
        obtain ⟨y', hy', rfl⟩ := hi
        split at ht
        · simp at ht
        · exact ⟨i, y', o', hy', ht, hz, e⟩
    · obtain ⟨i, y, hi, ⟨hd, hx'⟩, hz, e⟩ := hx
      refine Or.inr ?_
      rw [hget i] at hi
      split at hi
      · rename_i e'; subst e'; exact ⟨i, _, hb, ⟨by simp, by simp⟩, hz, e⟩
      · simp only [Option.map_eq_some_iff] at hi
        obtain ⟨y', hy', rfl⟩ := hi
        split at hd <;> rename_i hc'
        · simp at hd
        · rw [if_neg hc'] at hx'; exact ⟨i, y', hy', ⟨hd, hx'⟩, hz, e⟩
  by_cases hv : vs = []
  · subst hv
    have : us = [] := by simpa [Rs] using hu
    subst this
    have hcl : c'.list = c.list := List.ext_getElem? fun j => by rw [sp.2.2 j, if_neg (by simp only [List.length_nil]; omega)]
    refine ⟨w, by simp [storeCells], abs w (fun _ _ => rfl) (fun _ => rfl) ?_, fr w rfl rfl rfl rfl (fun _ _ => rfl), hlen⟩
    refine ⟨by rw [ACells.len_list, hcl, ← ACells.len_list]; exact hl.1, fun hz => ?_⟩
    obtain ⟨arr, T, fz, h1, h2, h3⟩ := hl.2 hz
    exact ⟨arr, T, fz, h1, h2, fun j v hj => h3 j v (by rw [ACells.get_list] at hj ⊢; rw [← hcl]; exact hj)⟩
  · have hle := sp.2.1 hv
    have hz : ρ.sz b ≠ 0 := by
      have := hl.1; rw [ACells.len_list] at this
      have : 0 < vs.length := List.length_pos_iff.2 hv
      omega
    obtain ⟨arr, T, fz, h1, h2, h3⟩ := hl.2 hz
    have hcl : c.list.length ≤ ρ.sz b := by rw [← ACells.len_list]; exact hl.1
    have hg : ρ.blk b < w.heap.size := (Array.getElem?_eq_some_iff.1 h1).1
    have hrun := run_storeCells_env (P := P) us (ρ.base b + off) 0 arr w h1 (fun _ => by omega) (fun q q1 q2 => by
      have := (r.own b _ o hb rfl hz).2 q (by omega) (by omega)
      simp only [World.frozen?, h1] at this
      simpa using this) hone
    rw [Nat.add_zero] at hrun
    have hs := spliceA_spec us arr (ρ.base b + off) (fun _ => by omega)
    have hsz : (spliceA arr (ρ.base b + off) us).size = arr.size := by simpa using hs.1
    refine ⟨_, hrun, abs _ (fun x hx => ?_) (putBlk_frozen h1) ?_, fr _ rfl rfl rfl (by simp [World.putBlk]) (fun x hx => ?_), hlen⟩
    · exact putBlk_ne (hx.resolve_right hz)
    · refine ⟨by rw [ACells.len_list, sp.1]; exact hcl, fun _ => ⟨_, T, fz, putBlk_get hg, by omega, fun j v hj => ?_⟩⟩
      rw [ACells.get_list, sp.2.2 j] at hj
      have hsj : (spliceA arr (ρ.base b + off) us)[ρ.base b + j]? = if off ≤ j ∧ j < off + us.length then us[j - off]? else arr[ρ.base b + j]? := by
        have := hs.2.2 (ρ.base b + j)
        simp only [Array.getElem?_toList] at this
        rw [this]
        by_cases hj' : off ≤ j ∧ j < off + us.length
        · rw [if_pos hj', if_pos (by omega), show ρ.base b + j - (ρ.base b + off) = j - off from by omega]
        · rw [if_neg hj', if_neg (by omega)]
      rw [hsj]
      by_cases hj' : off ≤ j ∧ j < off + vs.length
      · rw [if_pos hj'] at hj
        rw [if_pos (by omega)]
        exact Rs_get hu hj
      · rw [if_neg hj'] at hj
        rw [if_neg (by omega)]
        exact h3 j v (by rw [ACells.get_list]; exact hj)
    · exact putBlk_ne (hx.resolve_right hz)

-- ------------------------------------------------------------------ new blocks

def Env.upd (ρ : Env) (i b o s : Nat) : Env :=
  { blk := fun j => if j = i then b else ρ.blk j, base := fun j => if j = i then o else ρ.base j, sz := fun j => if j = i then s else ρ.sz j }

theorem Env.upd_agree (ρ : Env) (i b o s : Nat) : Agree i ρ (ρ.upd i b o s) := fun j hj => by
  simp only [Env.upd, if_neg (show j ≠ i by omega), and_self]

theorem getElem?_snoc {α : Type} {l : List α} {x y : α} {i : Nat} (h : (l ++ [x])[i]? = some y) : (i < l.length ∧ l[i]? = some y) ∨ (i = l.length ∧ y = x) := by
  by_cases hi : i < l.length
  · rw [List.getElem?_append_left hi] at h; exact Or.inl ⟨hi, h⟩
  · rw [List.getElem?_append_right (by omega)] at h
    have : i - l.length = 0 := by
      have := (List.getElem?_eq_some_iff.1 h).1; simp at this; omega
    rw [this] at h; simp at h
    exact Or.inr ⟨by omega, h.symm⟩

theorem push_get {w : World} {o : Obj} {x : Nat} (h : x < w.heap.size) : (World.alloc w o).heap[x]? = w.heap[x]? := by
  show (w.heap.push o)[x]? = _
  rw [Array.getElem?_push, if_neg (by omega)]

theorem push_new {w : World} {o : Obj} : (World.alloc w o).heap[w.heap.size]? = some o := by
  show (w.heap.push o)[w.heap.size]? = _
  rw [Array.getElem?_push, if_pos rfl]

/-- A new block, all of whose cells are known, or those at its begin. -/
theorem Rep.alloc {B : Nat} {ρ : Env} {h : AHeap} {w : World} (r : Rep B ρ h w) (hB : B ≤ w.heap.size) {c : ACells} {arr : Array Value} {T : TypeId} {fz : Nat × Nat} (hlt : c.lt h.length = true)
    (hfz : ∀ q, q < arr.size → ¬ (fz.1 ≤ q ∧ q < fz.2)) (hsz : c.len ≤ arr.size) (hc : ∀ j v, c.get? j = some v → ∃ y, arr[j]? = some y ∧ R ρ v y) :
    Rep B (ρ.upd h.length w.heap.size 0 arr.size) (h ++ [.new c]) (World.alloc w (.cells arr T fz)) ∧
    Fr ρ h w (ρ.upd h.length w.heap.size 0 arr.size) (h ++ [.new c]) (World.alloc w (.cells arr T fz)) := by
  have ag := Env.upd_agree ρ h.length w.heap.size 0 arr.size
  have hup : (ρ.upd h.length w.heap.size 0 arr.size).blk h.length = w.heap.size ∧ (ρ.upd h.length w.heap.size 0 arr.size).base h.length = 0 ∧ (ρ.upd h.length w.heap.size 0 arr.size).sz h.length = arr.size := by simp [Env.upd]
  generalize ρ.upd h.length w.heap.size 0 arr.size = ρ' at *
  have hlow : ∀ i x, h[i]? = some x → x.st ≠ .dead → ρ.sz i ≠ 0 → ρ.blk i < w.heap.size := by
    intro i x hi hd hz
    obtain ⟨a, _, _, h1, _⟩ := (r.lies i x hi hd).2 hz
    exact (Array.getElem?_eq_some_iff.1 h1).1
  constructor
  · constructor
    · intro i x hx hd
      have hm : h.length ≤ (h ++ [ABlk.new c]).length := by simp
      rcases getElem?_snoc hx with ⟨_, hx⟩ | ⟨_, rfl⟩
      · exact ACells.lt_mono hm (r.wf i x hx hd)
      · exact ACells.lt_mono hm hlt
    · intro i x t hx ht
      rcases getElem?_snoc hx with ⟨_, hx⟩ | ⟨_, rfl⟩
      · have := r.old i x t hx ht; simp; omega
      · simp at ht
    · intro i x hx hd
      rcases getElem?_snoc hx with ⟨hi, hx⟩ | ⟨rfl, rfl⟩
      · obtain ⟨a1, a2, a3⟩ := ag i hi
        have hl := r.lies i x hx hd
        refine ⟨by rw [a3]; exact hl.1, fun hz => ?_⟩
        rw [a3] at hz
        obtain ⟨arr', T', fz', h1, h2, h3⟩ := hl.2 hz
        refine ⟨arr', T', fz', by rw [a1, push_get (hlow i x hx hd hz)]; exact h1, by rw [a2, a3]; exact h2, fun j v hj => ?_⟩
        obtain ⟨y, hy, hr⟩ := h3 j v hj
        exact ⟨y, by rw [a2]; exact hy, R_agree ag v y (ACells.get_lt (r.wf i x hx hd) hj) hr⟩
      · refine ⟨by rw [hup.2.2]; exact hsz, fun hz => ⟨arr, T, fz, by rw [hup.1]; exact push_new, by rw [hup.2.1, hup.2.2]; omega, fun j v hj => ?_⟩⟩
        obtain ⟨y, hy, hr⟩ := hc j v hj
        exact ⟨y, by rw [hup.2.1, Nat.zero_add]; exact hy, R_agree ag v y (ACells.get_lt hlt hj) hr⟩
    · intro i x o hx ht hz
      rcases getElem?_snoc hx with ⟨hi, hx⟩ | ⟨rfl, rfl⟩
      · obtain ⟨a1, a2, a3⟩ := ag i hi
        rw [a3] at hz
        have := r.own i x o hx ht hz
        refine ⟨by rw [a1]; exact this.1, fun q h1 h2 => ?_⟩
        rw [a2] at h1; rw [a2, a3] at h2
        rw [a1, World.frozen_of_block (w := w) (push_get (hlow i x hx (by rw [ht]; simp) hz))]
        exact this.2 q h1 h2
      · refine ⟨by rw [hup.1]; exact hB, fun q h1 h2 => ?_⟩
        rw [hup.2.1, hup.2.2] at h2
        rw [hup.1]
        simp only [World.frozen?, push_new]
        have := hfz q (by omega)
        simpa using this
    · intro i x hx ht hz
      rcases getElem?_snoc hx with ⟨hi, hx⟩ | ⟨rfl, rfl⟩
      · obtain ⟨a1, a2, a3⟩ := ag i hi
        rw [a3] at hz; rw [a1]
        exact r.ext i x hx ht hz
      · simp at ht
    · intro i j x y o hx hy hij ht hd hz1 hz2 e
      rcases getElem?_snoc hx with ⟨hi, hx⟩ | ⟨rfl, rfl⟩
      · obtain ⟨a1, a2, a3⟩ := ag i hi
        rw [a3] at hz1; rw [a1] at e
        rcases getElem?_snoc hy with ⟨hj, hy⟩ | ⟨rfl, rfl⟩
        · obtain ⟨b1, b2, b3⟩ := ag j hj
          rw [b3] at hz2; rw [b1] at e
          rw [a2, b2]
          exact r.sep i j x y o hx hy hij ht hd hz1 hz2 e
        · rw [hup.1] at e
          have := hlow i x hx (by rw [ht]; simp) hz1
          omega
      · rcases getElem?_snoc hy with ⟨hj, hy⟩ | ⟨rfl, rfl⟩
        · obtain ⟨b1, b2, b3⟩ := ag j hj
          rw [b3] at hz2; rw [b1, hup.1] at e
          have := hlow j y hy hd hz2
          omega
        · exact absurd rfl hij
  · refine ⟨rfl, rfl, rfl, by show _ ≤ (w.heap.push _).size; simp, fun x hx _ => push_get hx, fun x hx => ?_, fun x hx => ?_⟩
    · obtain ⟨i, y, o, hi, ht, hz, e⟩ := hx
      rcases getElem?_snoc hi with ⟨hil, hi⟩ | ⟨rfl, rfl⟩
      · obtain ⟨a1, a2, a3⟩ := ag i hil
        rw [a3] at hz; rw [a1] at e
        exact Or.inr ⟨i, y, o, hi, ht, hz, e⟩
      · rw [hup.1] at e; omega
    · obtain ⟨i, y, hi, ht, hz, e⟩ := hx
      rcases getElem?_snoc hi with ⟨hil, hi⟩ | ⟨rfl, rfl⟩
      · obtain ⟨a1, a2, a3⟩ := ag i hil
        rw [a3] at hz; rw [a1] at e
        exact Or.inr ⟨i, y, hi, ht, hz, e⟩
      · rw [hup.1] at e; omega

end Go.Proofs.YtdbdmnhnijpdcaaDoorW.AI

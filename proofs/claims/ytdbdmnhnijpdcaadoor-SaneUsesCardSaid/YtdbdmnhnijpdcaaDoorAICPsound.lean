import Derived.Test.YtdbdmnhnijpdcaaDoorAICPvalue
import Derived.Test.YtdbdmnhnijpdcaaDoorAISem18
import Derived.Test.YtdbdmnhnijpdcaaDoorAIC
namespace Go.Proofs.YtdbdmnhnijpdcaaDoorW.AI.C
open Go Go.Proofs Go.RowKit Go.Proofs.YtdbdmnhnijpdcaaDoorW.AI
set_option linter.unusedVariables false
set_option linter.unusedSimpArgs false

def digA (v : Int) (m k : Nat) : AV := .int .u8 (v / 2 ^ min (8 * (m - 1 - k)) 64 % 256)

/-- octet.write. -/
def bytesAt : AV → Option (Nat × Nat × Nat)
  | .sl b off n _ => some (b, off, n)
  | .gsl b off n e _ => if e = 1 then some (b, off, n) else none
  | _ => none

def primWrite (h : AHeap) (x : AV) (v : Int) : Option (AV × AHeap × List Nat) :=
  match bytesAt x with
  | some (b, off, n) => if 0 < n ∧ n ≤ 1000000 then (change h b fun c => storeL c off ((List.range n).map (digA v n))).map fun h' => (.tup [], h', [b]) else none
  | none => none

def intAt : AV → Int
  | .int _ n => n
  | _ => 0

def isU8 : AV → Bool
  | .int .u8 _ => true
  | _ => false

/-- octet.value. -/
def primValue (h : AHeap) (x : AV) : Option (AV × AHeap × List Nat) :=
  match slen x with
  | some n => if 0 < n ∧ n ≤ 1000000 then (sliceCells h 1 x).bind fun c => if c.list.all isU8 then some (.int .u64 (accN (fun k => intAt (c.list.getD k .any)) n (List.range n)), h, []) else none else none
  | none => none

def prim (f : Nat) (xs : List AV) (h : AHeap) : Option (Option (AV × AHeap × List Nat)) :=
  if f = 91 then match xs with
    | [x, .int .u64 v] => some (primWrite h x v)
    | _ => some none
  else if f = 79 then match xs with
    | [x] => some (primValue h x)
    | _ => some none
  else none

theorem prim_steady : ∀ f vs h r, prim f vs h = some (some r) → Steady h r.2.1 r.2.2 := by
  intro f vs h r hr
  unfold prim at hr
  split at hr
  · split at hr
    · simp only [Option.some.injEq] at hr
      unfold primWrite at hr
      split at hr
      · split at hr
        · simp only [Option.map_eq_some_iff] at hr
          obtain ⟨h', h1, rfl⟩ := hr
          exact change_steady h1
        · cases hr
      · cases hr
    · cases hr
  · split at hr
    · split at hr
      · simp only [Option.some.injEq] at hr
        unfold primValue at hr
        split at hr
        · split at hr
          · simp only [Option.bind_eq_some_iff] at hr
            obtain ⟨c, _, hr⟩ := hr
            split at hr
            · cases hr; exact Steady.refl _ _
            · cases hr
          · cases hr
        · cases hr
      · cases hr
    · cases hr

theorem spliceA_laid (g : Nat → Value) (q : Nat) : ∀ (l : Nat) (s : Nat) (arr : Array Value), spliceA arr (q + s) ((List.range' s l).map g) = laidN g q arr (List.range' s l)
  | 0, s, arr => rfl
  | l + 1, s, arr => by
    simp only [List.range'_succ, List.map_cons, spliceA, laidN, List.foldl_cons]
    have := spliceA_laid g q l (s + 1) (arr.setIfInBounds (q + s) (g s))
    simp only [laidN] at this
    rw [← this]
    rfl

def F0 : Fence := { fn := fun _ => True }

section
variable {B : Nat} {ρg : Env} {gl : AHeap} {ρ : Env} {h h' : AHeap} {w : World}

theorem write_sound (hst : St B ρg gl X.gid ρ h w) {x : AV} {v : Int} {r : AV × AHeap × List Nat} (hr : primWrite h x v = some r) {sv : Value} (hx : R ρ x sv) :
    Calls X.P 91 #[sv, .int .u64 v] w fun e w' => ∃ y, e = .returned y ∧ Post X B ρg gl ρ h w r.1 r.2.1 y w' := by
  unfold primWrite at hr
  split at hr
  case h_2 => cases hr
  rename_i b off n hx0
  split at hr
  case isFalse => cases hr
  rename_i hn
  simp only [Option.map_eq_some_iff] at hr
  obtain ⟨h', hch, rfl⟩ := hr
  obtain ⟨cap, rfl⟩ : ∃ cap, sv = .slice (some ⟨ρ.blk b, ρ.base b + off, none⟩) n cap := by
    unfold bytesAt at hx0
    split at hx0
    · cases hx0
      simp only [R] at hx
      obtain ⟨q, e, hq, hcap⟩ := hx
      exact ⟨_, by rw [e, hq (by omega)]⟩
    · split at hx0
      · rename_i he
        cases hx0
        subst he
        simp only [R] at hx
        rcases hx with ⟨q, cap, e, hcap, hq⟩ | ⟨_, h0, _⟩
        · exact ⟨_, by rw [e, (hq (by omega)).1]⟩
        · omega
      · cases hx0
    · cases hx0
  have hrs : Rs ρ ((List.range n).map (digA v n)) ((List.range n).map (digit v n)) := by
    generalize List.range n = l
    induction l with
    | nil => rfl
    | cons k l ih => simp only [List.map_cons, Rs]; exact ⟨_, _, rfl, rfl, ih⟩
  obtain ⟨o, c, c', hb, hcc, he⟩ := change_spec hch
  obtain ⟨w'', r1, r2, r3, r4⟩ := hst.rep.change hch (fun c0 c1 hcc => storeL_splice hcc) hrs (by intro u hu; obtain ⟨k, _, rfl⟩ := List.mem_map.1 hu; rfl) X.P
  obtain ⟨sp, _⟩ := storeL_splice hcc
  have hlies : Lies ρ b c w := hst.rep.lies b _ hb (by simp)
  have hcsz : c.len ≤ ρ.sz b := hlies.1
  have hol : off + n ≤ c.len := by
    have := sp.2.1 (by intro e; have := congrArg List.length e; simp at this; omega)
    rw [ACells.len_list c]
    simpa using this
  have hsz0 : ρ.sz b ≠ 0 := by omega
  obtain ⟨arr, T, fz, g1, g2, g3⟩ := hlies.2 hsz0
  have hle : ρ.base b + off + n ≤ arr.size := by omega
  have hfr := (hst.rep.own b _ o hb rfl hsz0).2
  have hw := write_in F0 10 trivial trivial trivial rfl (by omega) (ρ.blk b) (ρ.base b + off) n cap hn.2 v arr T fz w g1 hle (fun j hj => hfr _ (by omega) (by omega))
  refine Calls.mono (hw.calls (fun k d hd => by cases hd)) fun e W' hpost => ?_
  obtain ⟨rfl, ho, hblk⟩ := hpost
  -- the world of the stores, one by one
  have hw'' : w'' = World.putBlk w (ρ.blk b) (.cells (spliceA arr (ρ.base b + off) ((List.range n).map (digit v n))) T fz) := by
    have := run_storeCells_env (P := X.P) (g := ρ.blk b) (T := T) (fz := fz) ((List.range n).map (digit v n)) (ρ.base b + off) 0 arr w g1 (fun _ => by simpa using hle) (fun p hp1 hp2 => by
      have := hfr p (by omega) (by simp at hp2; omega)
      simp only [World.frozen?, g1] at this
      simpa using this) (by intro u hu; obtain ⟨k, _, rfl⟩ := List.mem_map.1 hu; rfl)
    rw [Nat.add_zero] at this
    rw [show (ρ.addr b off) = (⟨ρ.blk b, ρ.base b + off, none⟩ : Addr) from rfl, this] at r1
    cases r1; rfl
  have hlt : ρ.blk b < w.heap.size := (Array.getElem?_eq_some_iff.1 g1).1
  have heq : ∀ k, k < w.heap.size → W'.heap[k]? = w''.heap[k]? := by
    intro k hk
    rw [hw'']
    by_cases hkb : k = ρ.blk b
    · subst hkb
      rw [hblk]
      have := spliceA_laid (digit v n) (ρ.base b + off) n 0 arr
      rw [Nat.add_zero, ← List.range_eq_range'] at this
      rw [this]
      simp [World.putBlk, hlt]
    · rw [ho.block k hk hkb]
      simp only [World.putBlk]
      rw [Array.getElem?_setIfInBounds_ne (fun e => hkb e.symm)]
  have hsz'' : w''.heap.size = w.heap.size := by rw [hw'']; simp [World.putBlk]
  have hal : ∀ (i : Nat) (y : ABlk), h'[i]? = some y → y.st ≠ .dead → ρ.sz i ≠ 0 → ρ.blk i < w.heap.size := by
    intro i y hi hd hz
    obtain ⟨arr', T', fz', k1, _⟩ := (r2.lies i y hi hd).2 hz
    have := (Array.getElem?_eq_some_iff.1 k1).1
    omega
  refine ⟨.tuple #[], rfl, post_mem hst (Agree.refl _ _) (by simp only [R]; exact ⟨#[], rfl, rfl⟩) rfl (r2.same fun i y hi hd hz => heq _ (hal i y hi hd hz)) ⟨ho.os, ho.tape, ho.output, ho.size, fun k hk ht => (heq k hk).trans (r3.keep k hk ht), fun k hk => Or.inr ?_, fun k hk => Or.inr ?_⟩ (by show h.length ≤ h'.length; omega)⟩
  · rcases r3.fresh k hk with h1 | h1
    · exfalso
      obtain ⟨i, y, o', k1, k2, k3, k4⟩ := hk
      have := hal i y k1 (by rw [k2]; simp) k3
      omega
    · exact h1
  · rcases r3.face k hk with h1 | h1
    · exfalso
      obtain ⟨i, y, k1, k2, k3, k4⟩ := hk
      have := hal i y k1 k2.1 k3
      omega
    · exact h1

theorem sub_get (c : ACells) (off n j : Nat) (hj : j < n) : (c.sub off n).list[j]? = c.get? (off + j) := by
  cases c with
  | ints k l => simp [ACells.sub, ACells.list, ACells.get?, List.getElem?_take, hj]
  | vals l => simp [ACells.sub, ACells.list, ACells.get?, List.getElem?_take, hj]

theorem value_sound (hst : St B ρg gl X.gid ρ h w) {x : AV} {r : AV × AHeap × List Nat} (hr : primValue h x = some r) {sv : Value} (hx : R ρ x sv) :
    Calls X.P 79 #[sv] w fun e w' => ∃ y, e = .returned y ∧ Post X B ρg gl ρ h w r.1 r.2.1 y w' := by
  unfold primValue at hr
  split at hr
  case h_2 => cases hr
  rename_i n hn
  split at hr
  case isFalse => cases hr
  rename_i hn1
  simp only [Option.bind_eq_some_iff] at hr
  obtain ⟨c, hc, hr⟩ := hr
  split at hr
  case isFalse => cases hr
  rename_i hu8
  cases hr
  have go : ∀ (b off cap : Nat) (cc : ACells), cellsAt h b = some cc → off + n * 1 ≤ cc.len → c = cc.sub off (n * 1) → sv = .slice (some ⟨ρ.blk b, ρ.base b + off, none⟩) n cap →
      Calls X.P 79 #[sv] w fun e w' => ∃ y, e = .returned y ∧ Post X B ρg gl ρ h w (.int .u64 (accN (fun k => intAt (c.list.getD k .any)) n (List.range n))) h y w' := by
    intro b off cap cc hcc hle hsub hsv
    subst hsv
    obtain ⟨blk, hb1, hb2, rfl⟩ := cellsAt_some hcc
    have hl := hst.rep.lies b blk hb1 hb2
    have hsz0 : ρ.sz b ≠ 0 := by have := hl.1; omega
    obtain ⟨arr, T, fz, g1, _⟩ := hl.2 hsz0
    have hlt : ρ.blk b < w.heap.size := (Array.getElem?_eq_some_iff.1 g1).1
    have hcell : ∀ j, j < n → w.cell? ⟨ρ.blk b, ρ.base b + off + j, none⟩ = some (.int .u8 (intAt (c.list.getD j .any))) := by
      intro j hj
      obtain ⟨u, hu⟩ := ACells.get_some (c := blk.c) (j := off + j) (by omega)
      obtain ⟨y, h1, h2⟩ := hl.cell hu
      have hcj : c.list[j]? = some u := by rw [hsub, sub_get _ _ _ _ (by omega)]; exact hu
      have h8 := List.all_eq_true.1 hu8 u (List.mem_of_getElem? hcj)
      have hgd : c.list.getD j .any = u := by rw [List.getD_eq_getElem?_getD, hcj]; rfl
      rw [hgd]
      unfold isU8 at h8
      split at h8
      · simp only [R] at h2
        subst h2
        rw [show (⟨ρ.blk b, ρ.base b + off + j, none⟩ : Addr) = ρ.addr b (off + j) from by simp [Env.addr, Nat.add_assoc]]
        exact h1
      · cases h8
    have hw := value_in F0 10 trivial trivial trivial rfl (by omega) (ρ.blk b) (ρ.base b + off) n cap hn1.2 _ w hlt hcell
    refine Calls.mono (hw.calls (fun k d hd => by cases hd)) fun e W' hpost => ?_
    obtain ⟨rfl, hbel⟩ := hpost
    refine ⟨_, rfl, post_mem hst (Agree.refl _ _) (by simp only [R]) rfl (hst.rep.same fun i y hi hd hz => ?_) ⟨hbel.os, hbel.tape, hbel.output, hbel.size, fun k hk _ => hbel.block k hk, fun k hk => Or.inr hk, fun k hk => Or.inr hk⟩ (Nat.le_refl _)⟩
    obtain ⟨arr', T', fz', k1, _⟩ := (hst.rep.lies i y hi hd).2 hz
    exact hbel.block _ (Array.getElem?_eq_some_iff.1 k1).1
  cases x <;> simp only [slen] at hn <;> first | (cases hn; done) | skip
  · simp [sliceCells] at hc
  · rename_i b off n' cap
    cases hn
    simp only [sliceCells, Option.bind_eq_some_iff] at hc
    obtain ⟨cc, h1, h2⟩ := hc
    split at h2
    · cases h2
      simp only [R] at hx
      obtain ⟨q, e, hq, hcap⟩ := hx
      exact go b off cap cc h1 (by assumption) rfl (by rw [e, hq (by omega)])
    · cases h2
  · rename_i b off n' e mn
    cases hn
    simp only [sliceCells] at hc
    split at hc
    case isFalse => cases hc
    rename_i he; subst he
    simp only [Option.bind_eq_some_iff] at hc
    obtain ⟨cc, h1, h2⟩ := hc
    split at h2
    · cases h2
      simp only [R] at hx
      rcases hx with ⟨q, cap, e, hcap, hq⟩ | ⟨_, h0, _⟩
      · exact go b off cap cc h1 (by assumption) rfl (by rw [e, (hq (by omega)).1])
      · omega
    · cases h2

theorem prim_sound : ∀ f vs h r, prim f vs h = some (some r) → chkCallee X f = true ∧ ∀ (ρ : Env) (w : World) (xs : Array Value), St B ρg gl X.gid ρ h w → AV.lts h.length vs = true → Rs ρ vs xs.toList →
      Calls X.P f xs w fun e w' => ∃ x, e = .returned x ∧ Post X B ρg gl ρ h w r.1 r.2.1 x w' := by
  intro f vs h r hr
  unfold prim at hr
  split at hr
  · rename_i hf; subst hf
    split at hr
    · rename_i x v
      simp only [Option.some.injEq] at hr
      refine ⟨by decide +kernel, fun ρ w xs hst _ hrs => ?_⟩
      simp only [Rs] at hrs
      obtain ⟨sv, vs', e, h1, nv, vs'', rfl, h2, rfl⟩ := hrs
      simp only [R] at h2; subst h2
      obtain rfl : xs = #[sv, .int .u64 v] := by cases xs; simp at e; rw [e]
      exact write_sound hst hr h1
    · cases hr
  · split at hr
    · rename_i hf; subst hf
      split at hr
      · rename_i x
        simp only [Option.some.injEq] at hr
        refine ⟨by decide +kernel, fun ρ w xs hst _ hrs => ?_⟩
        simp only [Rs] at hrs
        obtain ⟨sv, vs', e, h1, rfl⟩ := hrs
        obtain rfl : xs = #[sv] := by cases xs; simp at e; rw [e]
        exact value_sound hst hr h1
      · cases hr
    · cases hr

end
end Go.Proofs.YtdbdmnhnijpdcaaDoorW.AI.C

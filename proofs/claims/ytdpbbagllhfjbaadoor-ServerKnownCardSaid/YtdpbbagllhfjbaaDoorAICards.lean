import Derived.Test.YtdpbbagllhfjbaaDoorAIWO
import Derived.OpenShut
import Derived.FnData
import Derived.ChangeSame
import Derived.LaidMore
import Derived.LaidHandle
/-! Package-level variables that hold what the row lists. -/
namespace Go.Proofs.YtdpbbagllhfjbaaDoorW.AI
open Go Go.RowKit
set_option linter.unusedVariables false
set_option linter.unusedSimpArgs false
set_option linter.unusedSectionVars false

/-- The variables' blocks lie in the world. -/
def Laid (gl : AHeap) (gid : Nat → Nat) (w : World) : Prop :=
  ∀ (i : Nat) (x : ABlk), gl[i]? = some x → x.st = .dead ∨ (x.st = .ext ∧ x.c.lt gl.length = true ∧ ∃ arr T fz, w.heap[gid i]? = some (.cells arr T fz) ∧ x.c.len ≤ arr.size ∧ ∀ j v, x.c.get? j = some v → ∃ y, arr[j]? = some y ∧ ∀ ρ, R ρ v y)

def glEnv (gl : AHeap) (gid : Nat → Nat) : Env := ⟨gid, fun _ => 0, fun i => match gl[i]? with | some x => x.c.len | none => 0⟩

theorem Laid.rep {gl : AHeap} {gid : Nat → Nat} {w : World} (h : Laid gl gid w) : Rep w.heap.size (glEnv gl gid) gl w := by
  have sz : ∀ (i : Nat) (x : ABlk), gl[i]? = some x → (glEnv gl gid).sz i = x.c.len := fun i x hi => by simp [glEnv, hi]
  refine ⟨fun i x hi hn => ?_, fun i x t hi ht => ?_, fun i x hi hn => ?_, fun i x o hi ht => ?_, fun i x hi ht hz => ?_, fun i j x y o hi _ _ ht => ?_⟩
  · rcases h i x hi with h1 | ⟨_, h1, _⟩
    · exact absurd h1 hn
    · exact h1
  · rcases h i x hi with h1 | ⟨h1, _⟩ <;> rw [h1] at ht <;> cases ht
  · rcases h i x hi with h1 | ⟨_, _, arr, T, fz, h2, h3, h4⟩
    · exact absurd h1 hn
    · refine ⟨by rw [sz i x hi]; exact Nat.le_refl _, fun _ => ⟨arr, T, fz, h2, by rw [sz i x hi]; simp only [glEnv]; omega, fun j v hj => ?_⟩⟩
      obtain ⟨y, hy, hr⟩ := h4 j v hj
      exact ⟨y, by simp only [glEnv, Nat.zero_add]; exact hy, hr _⟩
  · rcases h i x hi with h1 | ⟨h1, _⟩ <;> rw [h1] at ht <;> cases ht
  · rcases h i x hi with h1 | ⟨_, _, arr, T, fz, h2, _⟩
    · rw [h1] at ht; cases ht
    · exact (Array.getElem?_eq_some_iff.1 h2).1
  · rcases h i x hi with h1 | ⟨h1, _⟩ <;> rw [h1] at ht <;> cases ht

theorem Laid.ext {gl : AHeap} {gid : Nat → Nat} {w : World} (h : Laid gl gid w) : ∀ (i : Nat) (x : ABlk), gl[i]? = some x → x.st = .ext ∨ x.st = .dead := fun i x hi => by
  rcases h i x hi with h1 | ⟨h1, _⟩
  · exact Or.inr h1
  · exact Or.inl h1

/-- No argument. -/
theorem closed_laid {X : Ctx} (C : Cfg) (hm : X.P.follows .mixedOrders = true) (hG : C.gl.length = X.G) (hmp : ∀ f m, C.mp f = some m → chkFunc X f m = true) (hp : PrimOk X C) {n f : Nat} (hr : isTrue (acall C n f [] C.gl) = true) (w : World) (hl : Laid C.gl X.gid w) :
    Calls X.P f #[] w fun e w' => e = .returned (.bool true) ∧ Below w.heap.size w w' := by
  obtain ⟨h', ws, hr⟩ := isTrue_elim hr
  have hok := acall_sound C (B := w.heap.size) (ρg := glEnv C.gl X.gid) hm hG hmp hp.1 (hp.2 _ _) n f [] C.gl _ hr
  have hst : St w.heap.size (glEnv C.gl X.gid) C.gl X.gid (glEnv C.gl X.gid) C.gl w :=
    ⟨hl.rep, hl.rep, hl.ext, Nat.le_refl _, fun i hi => ⟨hi, rfl, rfl⟩, fun i hi => ⟨rfl, rfl⟩⟩
  refine Calls.mono (hok.2 _ w #[] hst rfl rfl) fun e w' he => ?_
  obtain ⟨x, rfl, ρ', ag, hx, _, _, fr, _⟩ := he
  simp only [R] at hx
  subst hx
  exact ⟨rfl, fr.os, fr.tape, fr.output, fr.size, fun k hk => fr.keep k hk (by rintro ⟨i, y, o, hi, ht, _⟩; rcases hl.ext i y hi with h1 | h1 <;> rw [h1] at ht <;> cases ht)⟩

theorem law_laid {X : Ctx} (C : Cfg) (hm : X.P.follows .mixedOrders = true) (hG : C.gl.length = X.G) (hmp : ∀ f m, C.mp f = some m → chkFunc X f m = true) (hp : PrimOk X C) {f n base : Nat} {aks : List AK}
    (hlaw : ∀ (js : AHeap) (avs : List AV), Ext js → TyA (C.gl ++ js) aks avs → ∃ h' ws, W C f avs (C.gl ++ js) = some (.bool true, h', ws))
    {H : Type} {enc : TypeId × Value → H} {w : World} (hl : Laid C.gl X.gid w) {ts : List TypeId} {args : Array Value} {ds : List (DataW H)} {ps : List MemPlace} (hk : aksOf X.P n ts = some aks)
    (ht : DataW.TrodAll enc X.P w 0 (fun _ => true) true ts args.toList ds ps) (hw : ∀ (j : Nat) t v, ts[j]? = some t → args.toList[j]? = some v → Value.okWide X.P w .any base t v) :
    Calls X.P f args w fun e w' => e = .returned (.bool true) ∧ Below w.heap.size w w' := by
  have hop : Opened w (glEnv C.gl X.gid) C.gl := ⟨hl.rep, fun x hx => by obtain ⟨i, hi⟩ := List.getElem?_of_mem hx; exact hl.ext i x hi⟩
  obtain ⟨ρ, js, avs, ag, o, hr, hty⟩ := open_args ht hw hk _ _ hop
  have hext : Ext js := fun x hx => o.ext x (List.mem_append_right _ hx)
  obtain ⟨h', ws, e⟩ := hlaw js avs hext hty
  obtain ⟨fuel, e⟩ := W_eq.1 e
  have hok := acall_sound C (B := w.heap.size) (ρg := glEnv C.gl X.gid) hm hG hmp hp.1 (hp.2 _ _) fuel f avs (C.gl ++ js) _ e
  have hst : St w.heap.size (glEnv C.gl X.gid) C.gl X.gid ρ (C.gl ++ js) w :=
    ⟨o.rep, hl.rep, hl.ext, Nat.le_refl _, fun i hi => ⟨by simp; omega, (ag i hi).1, (ag i hi).2.1⟩, fun i hi => ⟨rfl, rfl⟩⟩
  refine Calls.mono (hok.2 ρ w args hst (TyA_lt hty) hr) fun e w' he => ?_
  obtain ⟨x, rfl, ρ', ag', hx, _, _, fr, _⟩ := he
  simp only [R] at hx
  subst hx
  refine ⟨rfl, fr.os, fr.tape, fr.output, fr.size, fun k hk => fr.keep k hk ?_⟩
  rintro ⟨i, y, t, hi, ht, _⟩
  rcases o.ext y (List.mem_of_getElem? hi) with h1 | h1 <;> rw [h1] at ht <;> cases ht

/-- A variable's block. -/
theorem var_block {P : Program} {w : World} {n : String} {g : Nat} {cs : Array Value} (hg : P.globalNamed n = some g) (h : w.var? P n = some cs) : ∃ T fz, w.heap[g]? = some (.cells cs T fz) := by
  simp only [World.var?, hg, Option.bind_some] at h
  split at h
  · rename_i he; cases h; exact ⟨_, _, he⟩
  · cases h

/-- An array of whole numbers that is listed. -/
theorem ints_of_trod {P : Program} {H : Type} {enc : TypeId × Value → H} {w : World} {base : Nat} {spare : Nat → Bool} {held : Bool} {fuel t e : Nat} {k : IntKind} {l : List Int} {cs : List Value} {ps : List MemPlace} (ht : P.underlying t = some (.array l.length e)) (he : P.underlying e = some (.int k)) (hc : P.cellsOf e = 1)
    (hct : P.cellsOf t = l.length) (h : DataW.trod enc P w base spare held fuel t cs = some (.agg (l.map fun n => .lit (.int k n)), ps)) : cs = l.map (Value.int k) := by
  obtain ⟨xs, m, rfl, hx, hlen, hn, hel⟩ := DataW.trod_array ht h
  simp only [Prod.mk.injEq, DataW.agg.injEq] at hx
  refine List.ext_getElem? fun i => ?_
  by_cases hi : i < l.length
  · have h1 := hel i hi
    rw [hc, Nat.mul_one, List.getElem?_eq_getElem (show i < xs.length by omega)] at h1
    obtain ⟨v, e1, e2, _⟩ := DataW.trod_int he h1
    have h2 : (xs.map (·.1))[i]? = (l.map fun n => DataW.lit (.int k n))[i]? := by rw [hx.1]
    rw [List.getElem?_map, List.getElem?_map, List.getElem?_eq_getElem (show i < xs.length by omega), List.getElem?_eq_getElem hi] at h2
    simp only [Option.map_some, Option.some.injEq] at h2
    rw [e2] at h2
    have h3 : v = l[i] := by simpa using h2
    have h4 : cs[i]? = some (.int k v) := by
      have := congrArg (·[0]?) e1
      simp only [List.getElem?_take, List.getElem?_drop, List.getElem?_cons_zero] at this
      simpa using this
    rw [h4, List.getElem?_map, List.getElem?_eq_getElem hi, h3]; rfl
  · rw [List.getElem?_eq_none (by omega), List.getElem?_eq_none (by simp; omega)]

/-- Its block. -/
theorem laid_ints {P : Program} {w : World} {n : String} {g t e : Nat} {cs : Array Value} {k : IntKind} {l : List Int} {fuel base : Nat} {spare : Nat → Bool} {held : Bool} {ps : List MemPlace} {H : Type} {enc : TypeId × Value → H} (hg : P.globalNamed n = some g) (hv : w.var? P n = some cs)
    (ht : P.underlying t = some (.array l.length e)) (he : P.underlying e = some (.int k)) (hc : P.cellsOf e = 1) (hct : P.cellsOf t = l.length) (h : DataW.trod enc P w base spare held fuel t cs.toList = some (.agg (l.map fun n => .lit (.int k n)), ps)) :
    ∃ arr T fz, w.heap[g]? = some (.cells arr T fz) ∧ (ACells.ints k l).len ≤ arr.size ∧ ∀ j v, (ACells.ints k l).get? j = some v → ∃ y, arr[j]? = some y ∧ ∀ ρ, R ρ v y := by
  obtain ⟨T, fz, hb⟩ := var_block hg hv
  have e1 := ints_of_trod ht he hc hct h
  refine ⟨cs, T, fz, hb, ?_, fun j v hj => ?_⟩
  · have := congrArg List.length e1
    simp at this
    simp only [ACells.len]; omega
  · simp only [ACells.get?, Option.map_eq_some_iff] at hj
    obtain ⟨x, hx, rfl⟩ := hj
    refine ⟨.int k x, ?_, fun ρ => by simp only [R]⟩
    have : cs.toList[j]? = some (.int k x) := by rw [e1, List.getElem?_map, hx]; rfl
    simpa using this
end Go.Proofs.YtdpbbagllhfjbaaDoorW.AI
/-! A listed table of numbers and functions. -/
namespace Go.Proofs.YtdpbbagllhfjbaaDoorW.AI
open Go Go.RowKit
set_option linter.unusedVariables false
/-- A struct of a whole number and a function by its name. -/
theorem test_cell {P : Program} {w : World} {base : Nat} {sp : Nat → Bool} {fuel tS tE tF F : Nat} {f0 f1 : Field} {ps rs : Array TypeId} {va : Bool} {cs : List Value} {n : Int} {b : UInt8} {r : List UInt8} {q : List MemPlace}
    (hs : P.underlying tS = some (.struct #[f0, f1])) (h0 : f0.type = tE ∧ f0.offset = 0) (h1 : f1.type = tF ∧ f1.offset = 1) (hE : P.underlying tE = some (.int .i64)) (hF : P.underlying tF = some (.func ps rs va)) (cS : P.cellsOf tS = 2) (cE : P.cellsOf tE = 1) (cF : P.cellsOf tF = 1)
    (hone : ((List.range P.funcs.size).filter fun f => (P.funcs[f]?).any (·.name.toUTF8.data.toList == b :: r)) = [F])
    (h : DataW.trod (funcToken P) P w base sp true fuel tS cs = some (.agg [.lit (.int .i64 n), .held (b :: r)], q)) : cs = [.int .i64 n, .func (.func F) #[] #[]] := by
  obtain ⟨y0, y1, m, e, hl, e0, e1⟩ := Go.ChangeShapes.trod_struct2 hs h
  rw [cS] at hl
  obtain ⟨a, c, rfl⟩ : ∃ a c, cs = [a, c] := by
    match cs, hl with
    | [a, c], _ => exact ⟨a, c, rfl⟩
  simp only [Prod.mk.injEq, DataW.agg.injEq, List.cons.injEq, and_true] at e
  obtain ⟨⟨g0, g1⟩, _⟩ := e
  rw [h0.1, h0.2, cE] at e0
  rw [h1.1, h1.2, cF] at e1
  simp only [List.drop_zero, List.take_succ_cons, List.take_zero, List.drop_succ_cons] at e0 e1
  obtain ⟨v, k1, k2, _⟩ := DataW.trod_int hE e0
  have hv : v = n := by rw [k2] at g0; simpa using g0.symm
  have e1' : DataW.trod (funcToken P) P w base sp true m tF [c] = some (.held (b :: r), y1.2) := by rw [e1]; congr 1; rw [g1]
  have k3 := Go.func_of_trod hF hone e1'
  simp only [List.cons.injEq, and_true] at k1
  rw [k1, k3, hv]
/-- A table of them. -/
theorem tests_of_trod {P : Program} {w : World} {base : Nat} {sp : Nat → Bool} {fuel tA tS : Nat} {l : List (Int × List UInt8)} {g : Int → List UInt8 → List Value → Prop} {cs : List Value} {q : List MemPlace}
    (ht : P.underlying tA = some (.array l.length tS)) (cS : P.cellsOf tS = 2) (cA : P.cellsOf tA = l.length * 2)
    (h : DataW.trod (funcToken P) P w base sp true fuel tA cs = some (.agg (l.map fun p => .agg [.lit (.int .i64 p.1), .held p.2]), q)) (out : List (List Value)) (hout : out.length = l.length)
    (one : ∀ i (hi : i < l.length) m c q, DataW.trod (funcToken P) P w base sp true m tS c = some (.agg [.lit (.int .i64 l[i].1), .held l[i].2], q) → out[i]? = some c) : cs = out.flatten := by
  obtain ⟨xs, m, rfl, hx, hlen, hn, hel⟩ := DataW.trod_array ht h
  simp only [Prod.mk.injEq, DataW.agg.injEq] at hx
  rw [cA] at hlen
  have key : ∀ i, i < l.length → out[i]? = some ((cs.drop (i * 2)).take 2) := by
    intro i hi
    have h1 := hel i hi
    rw [cS, List.getElem?_eq_getElem (show i < xs.length by omega)] at h1
    have h2 : (xs.map (·.1))[i]? = (l.map fun p => DataW.agg [.lit (.int .i64 p.1), .held p.2])[i]? := by rw [hx.1]
    rw [List.getElem?_map, List.getElem?_map, List.getElem?_eq_getElem (show i < xs.length by omega), List.getElem?_eq_getElem hi] at h2
    simp only [Option.map_some, Option.some.injEq] at h2
    refine one i hi m _ (xs[i].2) ?_
    rw [h1, ← h2]
  have : ∀ (out : List (List Value)) (cs : List Value), cs.length = out.length * 2 → (∀ i, i < out.length → out[i]? = some ((cs.drop (i * 2)).take 2)) → cs = out.flatten := by
    intro out
    induction out with
    | nil => intro cs hl _; simp at hl; simp [hl]
    | cons o out ih =>
      intro cs hl hk
      have h0 := hk 0 (by simp)
      simp at h0
      have h1 := ih (cs.drop 2) (by simp at hl ⊢; omega) (fun i hi => by
        have := hk (i + 1) (by simp; omega)
        rw [List.getElem?_cons_succ] at this
        rw [this, List.drop_drop]
        congr 3; omega)
      rw [List.flatten_cons, ← h1, h0, List.take_append_drop]
  exact this out cs (by omega) (fun i hi => key i (by omega))
end Go.Proofs.YtdpbbagllhfjbaaDoorW.AI

import Derived.Test.YtdbdmnhnijpdcaaDoorAIW
import Derived.WalkKit
import Derived.ProofKit
import Derived.OpenShut
import Derived.Carry
import Derived.ChangeOld
/-! Arguments of whatever plain types, opened: as values and blocks of the interpreter. -/
namespace Go.Proofs.YtdbdmnhnijpdcaaDoorW.AI
open Go Go.ChangeShapes Go.WideShapes Go.RowKit
set_option linter.unusedVariables false
set_option linter.unusedSimpArgs false

inductive CK where
  | i (k : IntKind)
  | b
  | s
  | sl (l : List CK)
  deriving Inhabited

mutual
def Fits (w : World) : CK → Value → Prop
  | .i k, v => ∃ n, v = .int k n ∧ k.min ≤ n ∧ n ≤ k.max
  | .b, v => ∃ x, v = .bool x
  | .s, v => ∃ x, v = .string x ∧ x.size ≤ maxLen
  | .sl l, v => v = .slice none 0 0 ∨ ∃ a len cap, v = .slice (some a) len cap ∧ len ≤ cap ∧ cap ≤ maxLen ∧ (cap ≠ 0 → a.spot = none) ∧
      ∀ i, i < len → ∃ us : List Value, us.length = l.length ∧ (∀ j, j < l.length → w.cell? (a.add (i * l.length + j)) = us[j]?) ∧ FitsL w l us
def FitsL (w : World) : List CK → List Value → Prop
  | [], us => us = []
  | k :: ks, us => ∃ v vs, us = v :: vs ∧ Fits w k v ∧ FitsL w ks vs
end

theorem FitsL_length {w : World} : ∀ {ks : List CK} {us : List Value}, FitsL w ks us → us.length = ks.length
  | [], us, h => by simp only [FitsL] at h; subst h; rfl
  | k :: ks, us, h => by
    simp only [FitsL] at h
    obtain ⟨v, vs, rfl, _, h⟩ := h
    simp [FitsL_length h]

theorem FitsL_append {w : World} : ∀ {ks ls : List CK} {us vs : List Value}, FitsL w ks us → FitsL w ls vs → FitsL w (ks ++ ls) (us ++ vs)
  | [], ls, us, vs, h, h' => by simp only [FitsL] at h; subst h; simpa using h'
  | k :: ks, ls, us, vs, h, h' => by
    simp only [FitsL] at h
    obtain ⟨v, us', rfl, h1, h2⟩ := h
    simp only [List.cons_append, FitsL]
    exact ⟨v, us' ++ vs, rfl, h1, FitsL_append h2 h'⟩

def ckFields (f : TypeId → Option (List CK)) (P : Program) : Nat → List Field → Option (List CK)
  | _, [] => some []
  | off, fd :: fs => if fd.offset = off then (f fd.type).bind fun l => if P.cellsOf fd.type = l.length then (ckFields f P (off + l.length) fs).map (l ++ ·) else none else none

def ckOf (P : Program) : Nat → TypeId → Option (List CK)
  | 0, _ => none
  | n + 1, t => match P.underlying t with
    | some .bool => some [.b]
    | some (.int k) => some [.i k]
    | some .string => some [.s]
    | some (.slice e) => (ckOf P n e).bind fun l => if P.cellsOf e = l.length ∧ l ≠ [] then some [.sl l] else none
    | some (.struct fs) => (ckFields (ckOf P n) P 0 fs.toList).bind fun l => if P.cellsOf t = l.length then some l else none
    | some (.array m e) => (ckOf P n e).bind fun l => if P.cellsOf e = l.length ∧ P.cellsOf t = m * l.length then some (List.replicate m l).flatten else none
    | _ => none

section
variable {H : Type} {enc : TypeId × Value → H} {P : Program} {w : World} {held : Bool}

theorem fields_fit {f : TypeId → Option (List CK)} {cs : List Value} : ∀ {fs : List Field} {off : Nat} {ks : List CK}, ckFields f P off fs = some ks → cs.length = off + ks.length →
    (∀ fd ∈ fs, ∀ l, f fd.type = some l → FitsL w l ((cs.drop fd.offset).take (P.cellsOf fd.type))) → FitsL w ks (cs.drop off)
  | [], off, ks, h, hl, hf => by
    simp only [ckFields, Option.some.injEq] at h; subst h
    have : cs.drop off = [] := List.drop_eq_nil_of_le (by simp at hl; omega)
    rw [this]; rfl
  | fd :: fs, off, ks, h, hl, hf => by
    simp only [ckFields] at h
    split at h
    case isFalse => cases h
    rename_i ho
    simp only [Option.bind_eq_some_iff] at h
    obtain ⟨l, h1, h2⟩ := h
    split at h2
    case isFalse => cases h2
    rename_i hc
    simp only [Option.map_eq_some_iff] at h2
    obtain ⟨ks', h3, rfl⟩ := h2
    have a := hf fd List.mem_cons_self l h1
    rw [ho, hc] at a
    have b := fields_fit h3 (by simp at hl; omega) (fun fd' h' => hf fd' (List.mem_cons_of_mem _ h'))
    have e : cs.drop off = (cs.drop off).take l.length ++ cs.drop (off + l.length) := by
      rw [← List.drop_drop, List.take_append_drop]
    rw [e]
    exact FitsL_append a b

theorem rep_fit {l : List CK} : ∀ {m : Nat} {cs : List Value}, cs.length = m * l.length → (∀ i, i < m → FitsL w l ((cs.drop (i * l.length)).take l.length)) → FitsL w (List.replicate m l).flatten cs
  | 0, cs, hl, hf => by
    have : cs = [] := List.eq_nil_of_length_eq_zero (by omega)
    subst this; rfl
  | m + 1, cs, hl, hf => by
    rw [List.replicate_succ, List.flatten_cons, ← List.take_append_drop l.length cs]
    have h0 := hf 0 (by omega)
    simp only [Nat.zero_mul, List.drop_zero] at h0
    refine FitsL_append h0 (rep_fit (by rw [List.length_drop, hl, Nat.add_mul]; omega) fun i hi => ?_)
    have := hf (i + 1) (by omega)
    rw [List.drop_drop]
    have e : l.length + i * l.length = (i + 1) * l.length := by rw [Nat.add_mul]; omega
    rw [e]; exact this

theorem trod_fit : ∀ (n fuel : Nat) (t : TypeId) (ks : List CK) (cs : List Value) (x : DataW H × List MemPlace), ckOf P n t = some ks → DataW.trod enc P w 0 (fun _ => true) held fuel t cs = some x → FitsL w ks cs
  | 0, _, _, _, _, _, h, _ => by cases h
  | n + 1, fuel, t, ks, cs, x, h, ht => by
    rw [ckOf] at h
    split at h
    · rename_i hu
      cases h
      obtain ⟨b, rfl, _⟩ := DataW.trod_bool hu ht
      exact ⟨_, _, rfl, ⟨b, rfl⟩, rfl⟩
    · rename_i k hu
      cases h
      obtain ⟨m, rfl, _, hw⟩ := DataW.trod_int hu ht
      simp only [Lit.wf, Bool.and_eq_true, decide_eq_true_eq] at hw
      exact ⟨_, _, rfl, ⟨m, rfl, hw.1, hw.2⟩, rfl⟩
    · rename_i hu
      cases h
      obtain ⟨s, rfl, _, hs⟩ := DataW.trod_string hu ht
      exact ⟨_, _, rfl, ⟨s, rfl, hs⟩, rfl⟩
    · rename_i e hu
      simp only [Option.bind_eq_some_iff] at h
      obtain ⟨l, h1, h2⟩ := h
      split at h2
      case isFalse => cases h2
      rename_i hc
      obtain ⟨hc, hne⟩ := hc
      cases h2
      rcases DataW.trod_slice hu ht with ⟨rfl, _⟩ | ⟨a, len, cap, elems, rest, m, rfl, rfl, _, _, hlc, hcm, hel, hat, hsp, _⟩
      · exact ⟨_, _, rfl, Or.inl rfl, rfl⟩
      · obtain ⟨hrl, hrest⟩ := hsp rfl
        have elem : ∀ i, (w.cells? 0 (a.add (i * P.cellsOf e)) (P.cellsOf e)).bind (DataW.trod enc P w 0 (fun _ => true) held m e) ≠ none →
            ∃ us : List Value, us.length = l.length ∧ (∀ j, j < l.length → w.cell? ((a.add (i * l.length)).add j) = us[j]?) ∧ FitsL w l us := by
          intro i hi
          cases hcs : w.cells? 0 (a.add (i * P.cellsOf e)) (P.cellsOf e) with
          | none => rw [hcs] at hi; exact absurd rfl hi
          | some us =>
            rw [hcs, Option.bind_some] at hi
            obtain ⟨y, hy⟩ := Option.ne_none_iff_exists'.1 hi
            obtain ⟨_, hlen, hcell⟩ := World.cells?_some hcs
            rw [hc] at hlen hcell
            exact ⟨us, hlen, fun j hj => hcell j hj, trod_fit n m e l us y h1 hy⟩
        have add_add : ∀ (i j : Nat), (a.add i).add j = a.add (i + j) := by
          intro i j
          unfold Addr.add
          by_cases hi : i = 0
          · subst hi; simp
          · by_cases hj : j = 0
            · subst hj; simp [hi]
            · simp [hi, hj, Nat.add_assoc]
        refine ⟨_, _, rfl, Or.inr ⟨a, len, cap, rfl, hlc, hcm, fun hcap => ?_, fun i hi => ?_⟩, rfl⟩
        · have : ∃ us : List Value, us.length = l.length ∧ (∀ j, j < l.length → w.cell? ((a.add (0 * l.length)).add j) = us[j]?) ∧ FitsL w l us := by
            refine elem 0 ?_
            by_cases h0 : 0 < len
            · rw [hat 0 h0, List.getElem?_eq_getElem (by omega)]; simp
            · have hl0 : len = 0 := by omega
              have := hrest 0 (by omega)
              rw [hl0, Nat.zero_add] at this
              rw [this, List.getElem?_eq_getElem (by omega)]; simp
          obtain ⟨us, hlen, hcell, _⟩ := this
          have hl0 : 0 < l.length := List.length_pos_iff.2 hne
          have := hcell 0 hl0
          rw [List.getElem?_eq_getElem (by omega)] at this
          have e : (a.add (0 * l.length)).add 0 = a := by simp [Addr.add]
          rw [e] at this
          unfold World.cell? at this
          split at this
          · split at this
            · cases this
            · rename_i hs; simpa using hs
          · cases this
        · obtain ⟨us, g1, g2, g3⟩ := elem i (by rw [hat i hi, List.getElem?_eq_getElem (by omega)]; simp)
          exact ⟨us, g1, fun j hj => by rw [← add_add]; exact g2 j hj, g3⟩
    · rename_i fs hu
      simp only [Option.bind_eq_some_iff] at h
      obtain ⟨l, h1, h2⟩ := h
      split at h2
      case isFalse => cases h2
      rename_i hc
      cases h2
      obtain ⟨xs, m, rfl, _, hl, hxs, hf⟩ := DataW.trod_struct hu ht
      have := fields_fit (w := w) (cs := cs) h1 (by omega) fun fd hfd l hl => by
        obtain ⟨i, hi⟩ := List.getElem?_of_mem hfd
        have hi' : fs[i]? = some fd := by simpa using hi
        have h3 := hf i fd hi'
        have hlt : i < fs.size := (Array.getElem?_eq_some_iff.1 hi').1
        rw [List.getElem?_eq_getElem (by omega)] at h3
        exact trod_fit n m fd.type l _ _ hl h3
      simpa using this
    · rename_i m' e hu
      simp only [Option.bind_eq_some_iff] at h
      obtain ⟨l, h1, h2⟩ := h
      split at h2
      case isFalse => cases h2
      rename_i hc
      cases h2
      obtain ⟨xs, m, rfl, _, hl, hxs, hf⟩ := DataW.trod_array hu ht
      refine rep_fit (by rw [hl, hc.2]) fun i hi => ?_
      have h3 := hf i hi
      rw [List.getElem?_eq_getElem (by omega), hc.1] at h3
      exact trod_fit n m e l _ _ h1 h3
    · cases h
end

-- ------------------------------------------------------------------ as values of the interpreter
def intK : List CK → Option IntKind
  | .i k :: rest => if rest.all (fun c => match c with | .i k' => decide (k' = k) | _ => false) then some k else none
  | _ => none
def toI : AV → Int
  | .int _ n => n
  | _ => 0
def mkC (l : List CK) (xs : List AV) : ACells :=
  match intK l with
  | some k => .ints k (xs.map toI)
  | none => .vals xs

mutual
def Ty (h : AHeap) : CK → AV → Prop
  | .i k, v => ∃ n, v = .int k n ∧ k.min ≤ n ∧ n ≤ k.max
  | .b, v => ∃ x, v = .bool x
  | .s, v => ∃ x, v = .str x ∧ x.size ≤ maxLen
  | .sl l, v => v = .nils ∨ ∃ (b n c : Nat) (es : List (List AV)), v = .sl b 0 n c ∧ n ≤ c ∧ c ≤ maxLen ∧ es.length = n ∧ (∀ e, e ∈ es → TyL h l e) ∧ h[b]? = some ⟨.ext, mkC l es.flatten⟩
def TyL (h : AHeap) : List CK → List AV → Prop
  | [], us => us = []
  | k :: ks, us => ∃ v vs, us = v :: vs ∧ Ty h k v ∧ TyL h ks vs
end

mutual
theorem Ty_mono {h js : AHeap} : ∀ (k : CK) (v : AV), Ty h k v → Ty (h ++ js) k v
  | .i k, v, hv => by simpa only [Ty] using hv
  | .b, v, hv => by simpa only [Ty] using hv
  | .s, v, hv => by simpa only [Ty] using hv
  | .sl l, v, hv => by
    simp only [Ty] at hv ⊢
    rcases hv with rfl | ⟨b, n, c, es, rfl, h1, h2, h3, h4, h5⟩
    · exact Or.inl rfl
    · exact Or.inr ⟨b, n, c, es, rfl, h1, h2, h3, fun e he => TyL_mono l e (h4 e he), by rw [List.getElem?_append_left (List.getElem?_eq_some_iff.1 h5).1]; exact h5⟩
theorem TyL_mono {h js : AHeap} : ∀ (ks : List CK) (vs : List AV), TyL h ks vs → TyL (h ++ js) ks vs
  | [], vs, hv => by simpa only [TyL] using hv
  | k :: ks, vs, hv => by
    simp only [TyL] at hv ⊢
    obtain ⟨v, vs', rfl, h1, h2⟩ := hv
    exact ⟨v, vs', rfl, Ty_mono k v h1, TyL_mono ks vs' h2⟩
end

theorem Ty_lt {h : AHeap} : ∀ {k : CK} {v : AV}, Ty h k v → v.lt h.length = true ∧ v.isCell = true
  | .i k, v, hv => by simp only [Ty] at hv; obtain ⟨n, rfl, _⟩ := hv; exact ⟨rfl, rfl⟩
  | .b, v, hv => by simp only [Ty] at hv; obtain ⟨n, rfl⟩ := hv; exact ⟨rfl, rfl⟩
  | .s, v, hv => by simp only [Ty] at hv; obtain ⟨n, rfl, _⟩ := hv; exact ⟨rfl, rfl⟩
  | .sl l, v, hv => by
    simp only [Ty] at hv
    rcases hv with rfl | ⟨b, n, c, es, rfl, h1, h2, h3, h4, h5⟩
    · exact ⟨rfl, rfl⟩
    · exact ⟨by simp only [AV.lt, decide_eq_true_eq]; exact (List.getElem?_eq_some_iff.1 h5).1, rfl⟩

theorem TyL_lt {h : AHeap} : ∀ {ks : List CK} {vs : List AV}, TyL h ks vs → AV.lts h.length vs = true ∧ vs.all AV.isCell = true ∧ vs.length = ks.length
  | [], vs, hv => by simp only [TyL] at hv; subst hv; exact ⟨rfl, rfl, rfl⟩
  | k :: ks, vs, hv => by
    simp only [TyL] at hv
    obtain ⟨v, vs', rfl, h1, h2⟩ := hv
    obtain ⟨a, b⟩ := Ty_lt h1
    obtain ⟨c, d, e⟩ := TyL_lt h2
    simp [AV.lts, a, b, c, d, e]

theorem TyL_int {h : AHeap} {k : IntKind} : ∀ {ks : List CK} {vs : List AV}, (ks.all fun c => match c with | .i k' => decide (k' = k) | _ => false) = true → TyL h ks vs → vs = vs.map (fun v => AV.int k (toI v))
  | [], vs, _, hv => by simp only [TyL] at hv; subst hv; rfl
  | c :: ks, vs, ha, hv => by
    simp only [TyL] at hv
    obtain ⟨v, vs', rfl, h1, h2⟩ := hv
    simp only [List.all_cons, Bool.and_eq_true] at ha
    obtain ⟨a1, a2⟩ := ha
    have ih := TyL_int a2 h2
    split at a1
    · rename_i k'
      have : k' = k := by simpa using a1
      subst this
      simp only [Ty] at h1
      obtain ⟨n, rfl, _⟩ := h1
      rw [List.map_cons, ← ih]; rfl
    · cases a1

theorem intK_all {l : List CK} {k : IntKind} (h : intK l = some k) : (l.all fun c => match c with | .i k' => decide (k' = k) | _ => false) = true := by
  unfold intK at h
  split at h
  · split at h
    · rename_i k' rest hr
      cases h
      simp only [List.all_cons, decide_true, Bool.true_and]
      exact hr
    · cases h
  · cases h

theorem mkC_list {h : AHeap} {l : List CK} {es : List (List AV)} (he : ∀ e ∈ es, TyL h l e) : (mkC l es.flatten).list = es.flatten := by
  unfold mkC
  split
  · rename_i k hk
    have ha := intK_all hk
    simp only [ACells.list, List.map_map]
    have : ∀ e ∈ es, e.map (AV.int k ∘ toI) = e := fun e h' => (TyL_int ha (he e h')).symm
    clear he hk ha
    induction es with
    | nil => rfl
    | cons e es ih =>
      rw [List.flatten_cons, List.map_append, this e List.mem_cons_self, ih fun e' h' => this e' (List.mem_cons_of_mem _ h')]
  · rfl

theorem flat_len {l : List CK} : ∀ {es : List (List AV)}, (∀ e ∈ es, e.length = l.length) → es.flatten.length = es.length * l.length
  | [], _ => by simp
  | e :: es, h => by
    rw [List.flatten_cons, List.length_append, h e List.mem_cons_self, flat_len fun e' h' => h e' (List.mem_cons_of_mem _ h'), List.length_cons, Nat.add_mul]; omega

/-- All blocks came in. -/
def Ext (h : AHeap) : Prop := ∀ x ∈ h, x.st = .ext ∨ x.st = .dead

structure Opened (w : World) (ρ : Env) (h : AHeap) : Prop where
  rep : Rep w.heap.size ρ h w
  ext : Ext h

/-- One more block that came in. -/
theorem Opened.add {w : World} {ρ : Env} {h : AHeap} (o : Opened w ρ h) {c : ACells} {blk base sz : Nat} (hc : c.lt h.length = true) (hle : c.len ≤ sz)
    (hz : sz ≠ 0 → ∃ arr T fz, w.heap[blk]? = some (.cells arr T fz) ∧ base + sz ≤ arr.size ∧ ∀ j v, c.get? j = some v → ∃ y, arr[base + j]? = some y ∧ R ρ v y) :
    ∃ ρ', Agree h.length ρ ρ' ∧ ρ'.blk h.length = blk ∧ ρ'.base h.length = base ∧ ρ'.sz h.length = sz ∧ Opened w ρ' (h ++ [⟨.ext, c⟩]) := by
  refine ⟨⟨fun i => if i = h.length then blk else ρ.blk i, fun i => if i = h.length then base else ρ.base i, fun i => if i = h.length then sz else ρ.sz i⟩, ?_, by simp, by simp, by simp, ?_⟩
  · intro i hi
    have : ¬ i = h.length := by omega
    simp [this]
  · have ag : Agree h.length ρ ⟨fun i => if i = h.length then blk else ρ.blk i, fun i => if i = h.length then base else ρ.base i, fun i => if i = h.length then sz else ρ.sz i⟩ := by
      intro i hi
      have : ¬ i = h.length := by omega
      simp [this]
    have get : ∀ (i : Nat) (x : ABlk), (h ++ [⟨BSt.ext, c⟩])[i]? = some x → (i < h.length ∧ h[i]? = some x) ∨ (i = h.length ∧ x = ⟨.ext, c⟩) := by
      intro i x hx
      by_cases hi : i < h.length
      · rw [List.getElem?_append_left hi] at hx; exact Or.inl ⟨hi, hx⟩
      · have hl := (List.getElem?_eq_some_iff.1 hx).1
        simp at hl
        have : i = h.length := by omega
        subst this
        simp at hx
        exact Or.inr ⟨rfl, hx.symm⟩
    have noTip : ∀ (i : Nat) (x : ABlk) (t : Bool), (h ++ [⟨BSt.ext, c⟩])[i]? = some x → x.st = .tip t → False := by
      intro i x t hx ht
      rcases get i x hx with ⟨_, h1⟩ | ⟨_, rfl⟩
      · rcases o.ext x (List.mem_of_getElem? h1) with h2 | h2 <;> rw [h2] at ht <;> cases ht
      · cases ht
    refine ⟨⟨fun i x hx hd => ?_, fun i x t hx ht => ?_, fun i x hx hd => ?_, fun i x t hx ht => (noTip i x t hx ht).elim, fun i x hx ht hsz => ?_, fun i j x y t hx _ _ ht => (noTip i x t hx ht).elim⟩, ?_⟩
    · rw [List.length_append]
      rcases get i x hx with ⟨_, h1⟩ | ⟨_, rfl⟩
      · exact ACells.lt_mono (by omega) (o.rep.wf i x h1 hd)
      · exact ACells.lt_mono (by omega) hc
    · rcases get i x hx with ⟨_, h1⟩ | ⟨_, rfl⟩
      · rcases o.ext x (List.mem_of_getElem? h1) with h2 | h2 <;> rw [h2] at ht <;> cases ht
      · cases ht
    · rcases get i x hx with ⟨hi, h1⟩ | ⟨rfl, rfl⟩
      · obtain ⟨l1, l2⟩ := o.rep.lies i x h1 hd
        obtain ⟨a1, a2, a3⟩ := ag i hi
        refine ⟨by rw [a3]; exact l1, fun hsz => ?_⟩
        rw [a3] at hsz
        obtain ⟨arr, T, fz, g1, g2, g3⟩ := l2 hsz
        refine ⟨arr, T, fz, by rw [a1]; exact g1, by rw [a2, a3]; exact g2, fun j v hv => ?_⟩
        obtain ⟨y, g4, g5⟩ := g3 j v hv
        exact ⟨y, by rw [a2]; exact g4, R_agree ag v y (ACells.get_lt (o.rep.wf i x h1 hd) hv) g5⟩
      · refine ⟨by simpa using hle, fun hsz => ?_⟩
        simp only [if_true] at hsz ⊢
        obtain ⟨arr, T, fz, g1, g2, g3⟩ := hz hsz
        refine ⟨arr, T, fz, g1, g2, fun j v hv => ?_⟩
        obtain ⟨y, g4, g5⟩ := g3 j v hv
        exact ⟨y, g4, R_agree ag v y (ACells.get_lt hc hv) g5⟩
    · rcases get i x hx with ⟨hi, h1⟩ | ⟨rfl, rfl⟩
      · obtain ⟨a1, a2, a3⟩ := ag i hi
        rw [a3] at hsz
        rw [a1]
        exact o.rep.ext i x h1 ht hsz
      · simp only [if_true] at hsz ⊢
        obtain ⟨arr, T, fz, g1, _⟩ := hz hsz
        exact (Array.getElem?_eq_some_iff.1 g1).1
    · intro x hx
      rcases List.mem_append.1 hx with h1 | h1
      · exact o.ext x h1
      · simp at h1; subst h1; exact Or.inl rfl

mutual
theorem open_ck {w : World} : ∀ (k : CK) (v : Value), Fits w k v → ∀ (ρ : Env) (h : AHeap), Opened w ρ h →
    ∃ (ρ' : Env) (js : AHeap) (av : AV), Agree h.length ρ ρ' ∧ Opened w ρ' (h ++ js) ∧ R ρ' av v ∧ Ty (h ++ js) k av
  | .i k, v, hv, ρ, h, o => by
    simp only [Fits] at hv
    obtain ⟨n, rfl, h1, h2⟩ := hv
    exact ⟨ρ, [], .int k n, Agree.refl _ _, by simpa using o, rfl, by simp only [Ty]; exact ⟨n, rfl, h1, h2⟩⟩
  | .b, v, hv, ρ, h, o => by
    simp only [Fits] at hv
    obtain ⟨n, rfl⟩ := hv
    exact ⟨ρ, [], .bool n, Agree.refl _ _, by simpa using o, rfl, by simp only [Ty]; exact ⟨n, rfl⟩⟩
  | .s, v, hv, ρ, h, o => by
    simp only [Fits] at hv
    obtain ⟨n, rfl, h1⟩ := hv
    exact ⟨ρ, [], .str n, Agree.refl _ _, by simpa using o, rfl, by simp only [Ty]; exact ⟨n, rfl, h1⟩⟩
  | .sl l, v, hv, ρ, h, o => by
    simp only [Fits] at hv
    rcases hv with rfl | ⟨a, len, cap, rfl, hlc, hcm, hsp, hel⟩
    · exact ⟨ρ, [], .nils, Agree.refl _ _, by simpa using o, rfl, by simp [Ty]⟩
    · have key : ∀ m, m ≤ len → ∃ (ρ' : Env) (js : AHeap) (es : List (List AV)), Agree h.length ρ ρ' ∧ Opened w ρ' (h ++ js) ∧ es.length = m ∧ (∀ e ∈ es, TyL (h ++ js) l e) ∧
          ∀ (i : Nat) (e : List AV), es[i]? = some e → ∃ us : List Value, us.length = l.length ∧ (∀ j, j < l.length → w.cell? (a.add (i * l.length + j)) = us[j]?) ∧ Rs ρ' e us := by
        intro m
        induction m with
        | zero => exact fun _ => ⟨ρ, [], [], Agree.refl _ _, by simpa using o, rfl, by simp, by simp⟩
        | succ m ih =>
          intro hm
          obtain ⟨ρ1, js1, es1, a1, o1, l1, t1, r1⟩ := ih (by omega)
          obtain ⟨us, u1, u2, u3⟩ := hel m (by omega)
          obtain ⟨ρ2, js2, e2, a2, o2, r2, t2⟩ := open_cks l us u3 ρ1 (h ++ js1) o1
          refine ⟨ρ2, js1 ++ js2, es1 ++ [e2], a1.trans a2 (by simp), by rw [← List.append_assoc]; exact o2, by simp [l1], ?_, ?_⟩
          · intro e he
            rw [← List.append_assoc]
            rcases List.mem_append.1 he with h1 | h1
            · exact TyL_mono l e (t1 e h1)
            · simp at h1; subst h1; exact t2
          · intro i e he
            by_cases hi : i < m
            · rw [List.getElem?_append_left (by omega)] at he
              obtain ⟨us', v1, v2, v3⟩ := r1 i e he
              exact ⟨us', v1, v2, Rs_agree a2 e us' (TyL_lt (t1 e (List.mem_of_getElem? he))).1 v3⟩
            · have hl := (List.getElem?_eq_some_iff.1 he).1
              simp [l1] at hl
              have : i = m := by omega
              subst this
              rw [List.getElem?_append_right (by omega)] at he
              simp [l1] at he
              subst he
              exact ⟨us, u1, u2, r2⟩
      obtain ⟨ρ1, js, es, a1, o1, l1, t1, r1⟩ := key len (Nat.le_refl _)
      have hlist := mkC_list t1
      have hclt : (mkC l es.flatten).lt (h ++ js).length = true := by
        refine ACells.lt_list.2 fun u hu => ?_
        rw [hlist] at hu
        obtain ⟨e, he, hue⟩ := List.mem_flatten.1 hu
        obtain ⟨b1, b2, _⟩ := TyL_lt (t1 e he)
        exact ⟨AV.lts_iff.1 b1 u hue, List.all_eq_true.1 b2 u hue⟩
      have hlen : (mkC l es.flatten).len = len * l.length := by
        rw [ACells.len_list, hlist, flat_len (l := l) fun e he => (TyL_lt (t1 e he)).2.2, l1]
      have hcell : ∀ (j : Nat) (u : AV), (mkC l es.flatten).get? j = some u → ∃ y, w.cell? (a.add j) = some y ∧ R ρ1 u y := by
        intro j u hu
        have hj : j < len * l.length := by rw [← hlen]; exact ACells.get_none hu
        rw [ACells.get_list, hlist] at hu
        have hl0 : 0 < l.length := by
          rcases Nat.eq_zero_or_pos l.length with h0 | h0
          · rw [h0] at hj; simp at hj
          · exact h0
        have hq : j / l.length < len := (Nat.div_lt_iff_lt_mul hl0).2 hj
        have hr : j % l.length < l.length := Nat.mod_lt _ hl0
        have hjd : j / l.length * l.length + j % l.length = j := by rw [Nat.mul_comm]; exact Nat.div_add_mod _ _
        obtain ⟨us, v1, v2, v3⟩ := r1 (j / l.length) es[j / l.length] (List.getElem?_eq_getElem (by omega))
        have hfl : ∀ (es : List (List AV)) (q r : Nat) (hq : q < es.length), (∀ e ∈ es, e.length = l.length) → r < l.length → es.flatten[q * l.length + r]? = es[q][r]? := by
          intro es
          induction es with
          | nil => intro q r hq; simp at hq
          | cons e es ih =>
            intro q r hq he hr
            rw [List.flatten_cons]
            have e1 := he e List.mem_cons_self
            cases q with
            | zero => rw [Nat.zero_mul, Nat.zero_add, List.getElem?_append_left (by omega)]; rfl
            | succ q =>
              rw [List.getElem?_append_right (by rw [Nat.add_mul]; omega)]
              have : (q + 1) * l.length + r - e.length = q * l.length + r := by rw [Nat.add_mul]; omega
              rw [this]
              simpa using ih q r (by simpa using hq) (fun e' h' => he e' (List.mem_cons_of_mem _ h')) hr
        have h3 := hfl es (j / l.length) (j % l.length) (by omega) (fun e he => (TyL_lt (t1 e he)).2.2) hr
        rw [hjd, hu] at h3
        obtain ⟨y, g1, g2⟩ := Rs_get v3 h3.symm
        exact ⟨y, by have := v2 _ hr; rw [hjd] at this; rw [this, g1], g2⟩
      obtain ⟨ρ2, a2, k1, k2, k3, o2⟩ := o1.add (c := mkC l es.flatten) (blk := a.block) (base := a.off) (sz := len * l.length) hclt (by omega) (by
        intro hz
        have hcap : cap ≠ 0 := by rintro rfl; have : len = 0 := by omega
                                  subst this; simp at hz
        have hspot := hsp hcap
        have cellAt : ∀ j, j < len * l.length → ∃ u y, (mkC l es.flatten).get? j = some u ∧ w.cell? (a.add j) = some y ∧ R ρ1 u y := by
          intro j hj
          obtain ⟨u, hu⟩ := ACells.get_some (c := mkC l es.flatten) (j := j) (by omega)
          obtain ⟨y, g1, g2⟩ := hcell j u hu
          exact ⟨u, y, hu, g1, g2⟩
        have raw : ∀ j y, w.cell? (a.add j) = some y → ∃ arr T fz, w.heap[a.block]? = some (.cells arr T fz) ∧ arr[a.off + j]? = some y := by
          intro j y hy
          have e1 : (a.add j).block = a.block := by unfold Addr.add; split <;> rfl
          have e2 : (a.add j).off = a.off + j := by unfold Addr.add; split <;> simp_all
          unfold World.cell? at hy
          rw [e1] at hy
          split at hy
          · rename_i arr T fz hb
            split at hy
            · cases hy
            · exact ⟨arr, T, fz, hb, by rw [← e2]; exact hy⟩
          · cases hy
        obtain ⟨_, y0, _, g1, _⟩ := cellAt (len * l.length - 1) (by omega)
        obtain ⟨arr, T, fz, g2, g3⟩ := raw _ _ g1
        refine ⟨arr, T, fz, g2, ?_, fun j v hv => ?_⟩
        · have := (Array.getElem?_eq_some_iff.1 g3).1; omega
        · obtain ⟨y, g4, g5⟩ := hcell j v hv
          obtain ⟨arr', T', fz', g6, g7⟩ := raw _ _ g4
          rw [g2] at g6; cases g6
          exact ⟨y, g7, g5⟩)
      refine ⟨ρ2, js ++ [⟨.ext, mkC l es.flatten⟩], .sl (h ++ js).length 0 len cap, a1.trans a2 (by simp), by rw [← List.append_assoc]; exact o2, ?_, ?_⟩
      · simp only [R]
        refine ⟨a, rfl, fun hne => ?_, hlc⟩
        rw [k1, k2]
        have := hsp hne
        obtain ⟨b, off, spot⟩ := a
        simp only at this
        subst this
        rfl
      · simp only [Ty]
        refine Or.inr ⟨_, len, cap, es, rfl, hlc, hcm, l1, fun e he => ?_, ?_⟩
        · rw [← List.append_assoc]; exact TyL_mono l e (t1 e he)
        · rw [← List.append_assoc, List.getElem?_append_right (Nat.le_refl _)]; simp
theorem open_cks {w : World} : ∀ (ks : List CK) (vs : List Value), FitsL w ks vs → ∀ (ρ : Env) (h : AHeap), Opened w ρ h →
    ∃ (ρ' : Env) (js : AHeap) (avs : List AV), Agree h.length ρ ρ' ∧ Opened w ρ' (h ++ js) ∧ Rs ρ' avs vs ∧ TyL (h ++ js) ks avs
  | [], vs, hv, ρ, h, o => by
    simp only [FitsL] at hv; subst hv
    exact ⟨ρ, [], [], Agree.refl _ _, by simpa using o, rfl, rfl⟩
  | k :: ks, vs, hv, ρ, h, o => by
    simp only [FitsL] at hv
    obtain ⟨v, vs', rfl, h1, h2⟩ := hv
    obtain ⟨ρ1, js1, av, a1, o1, r1, t1⟩ := open_ck k v h1 ρ h o
    obtain ⟨ρ2, js2, avs, a2, o2, r2, t2⟩ := open_cks ks vs' h2 ρ1 (h ++ js1) o1
    refine ⟨ρ2, js1 ++ js2, av :: avs, a1.trans a2 (by simp), by rw [← List.append_assoc]; exact o2, ?_, ?_⟩
    · simp only [Rs]
      exact ⟨v, vs', rfl, R_agree a2 av v (Ty_lt t1).1 r1, r2⟩
    · simp only [TyL]
      rw [← List.append_assoc]
      exact ⟨av, avs, rfl, Ty_mono k av t1, t2⟩
end

-- ------------------------------------------------------------------ the arguments of a call
inductive AK where
  | one (k : CK)
  | agg (l : List CK)
  deriving Inhabited

def akOf (P : Program) (n : Nat) (t : TypeId) : Option AK :=
  match P.underlying t with
  | some (.struct _) => (ckOf P n t).map .agg
  | some (.array _ _) => (ckOf P n t).map .agg
  | _ => match ckOf P n t with
    | some [k] => some (.one k)
    | _ => none

def aksOf (P : Program) (n : Nat) : List TypeId → Option (List AK)
  | [] => some []
  | t :: ts => (akOf P n t).bind fun k => (aksOf P n ts).map (k :: ·)

def TyA (h : AHeap) : List AK → List AV → Prop
  | [], vs => vs = []
  | .one k :: ks, vs => ∃ v vs', vs = v :: vs' ∧ Ty h k v ∧ TyA h ks vs'
  | .agg l :: ks, vs => ∃ cs vs', vs = .agg cs :: vs' ∧ TyL h l cs ∧ TyA h ks vs'

theorem TyA_lt {h : AHeap} : ∀ {ks : List AK} {vs : List AV}, TyA h ks vs → AV.lts h.length vs = true
  | [], vs, hv => by simp only [TyA] at hv; subst hv; rfl
  | .one k :: ks, vs, hv => by
    simp only [TyA] at hv
    obtain ⟨v, vs', rfl, h1, h2⟩ := hv
    simp [AV.lts, (Ty_lt h1).1, TyA_lt h2]
  | .agg l :: ks, vs, hv => by
    simp only [TyA] at hv
    obtain ⟨cs, vs', rfl, h1, h2⟩ := hv
    simp [AV.lts, AV.lt, (TyL_lt h1).1, TyA_lt h2]

section
variable {H : Type} {enc : TypeId × Value → H} {P : Program} {w : World} {held : Bool}

theorem arg_fit {n base : Nat} {t : TypeId} {k : AK} {v : Value} {d : DataW H} {ps : List MemPlace} (hk : akOf P n t = some k) (hw : Value.okWide P w .any base t v) (ht : DataW.Trod enc P w 0 (fun _ => true) held t v d ps) :
    (∃ c, k = .one c ∧ Fits w c v) ∨ ∃ l cs, k = .agg l ∧ v = .agg cs ∧ FitsL w l cs.toList := by
  obtain ⟨fuel, ht⟩ := ht
  have agg : ∀ l, k = .agg l → ckOf P n t = some l → (∃ cs, v = .agg cs) → ∃ l cs, k = .agg l ∧ v = .agg cs ∧ FitsL w l cs.toList := by
    rintro l rfl hl ⟨cs, rfl⟩
    exact ⟨l, cs, rfl, rfl, trod_fit n fuel t l _ _ hl ht⟩
  unfold akOf at hk
  split at hk
  · rename_i fs hu
    simp only [Option.map_eq_some_iff] at hk
    obtain ⟨l, h1, rfl⟩ := hk
    simp only [Value.okWide, hu] at hw
    obtain ⟨cs, rfl, _⟩ := hw
    exact Or.inr (agg l rfl h1 ⟨cs, rfl⟩)
  · rename_i m e hu
    simp only [Option.map_eq_some_iff] at hk
    obtain ⟨l, h1, rfl⟩ := hk
    simp only [Value.okWide, hu] at hw
    obtain ⟨cs, rfl, _⟩ := hw
    exact Or.inr (agg l rfl h1 ⟨cs, rfl⟩)
  · split at hk
    case h_2 => cases hk
    rename_i c hc
    cases hk
    have hf := trod_fit n fuel t [c] _ _ hc ht
    simp only [FitsL] at hf
    obtain ⟨u, us, h1, h2, rfl⟩ := hf
    refine Or.inl ⟨c, rfl, ?_⟩
    have hnagg : ∀ cs, v ≠ .agg cs := by
      rintro cs rfl
      cases n with
      | zero => cases hc
      | succ n =>
        rw [ckOf] at hc
        split at hc <;> rename_i hu <;> first
          | (simp only [Value.okWide, hu, Cell.okWide, Cell.ok] at hw; done)
          | (simp [Value.okWide, hu, Cell.okWide, Cell.ok] at hw; done)
          | (simp_all; done)
          | (rename_i hn1 hn2 _; exact absurd hu (by first | exact hn1 _ | exact hn2 _ _))
          | (rename_i hn1 hn2; exact absurd hu (by first | exact hn1 _ | exact hn2 _ _))
          | cases hc
    have : v.cells.toList = [v] := by
      cases v <;> first | rfl | exact absurd rfl (hnagg _)
    rw [this] at h1
    cases h1
    exact h2

theorem open_args {n base : Nat} : ∀ {ts : List TypeId} {vs : List Value} {ds : List (DataW H)} {ps : List MemPlace} {aks : List AK}, DataW.TrodAll enc P w 0 (fun _ => true) held ts vs ds ps →
    (∀ (j : Nat) t v, ts[j]? = some t → vs[j]? = some v → Value.okWide P w .any base t v) → aksOf P n ts = some aks → ∀ (ρ : Env) (h : AHeap), Opened w ρ h →
    ∃ (ρ' : Env) (js : AHeap) (avs : List AV), Agree h.length ρ ρ' ∧ Opened w ρ' (h ++ js) ∧ Rs ρ' avs vs ∧ TyA (h ++ js) aks avs
  | [], vs, ds, ps, aks, ht, hw, hk, ρ, h, o => by
    obtain ⟨rfl, _, _⟩ := trodAll_nil ht
    simp only [aksOf, Option.some.injEq] at hk; subst hk
    exact ⟨ρ, [], [], Agree.refl _ _, by simpa using o, rfl, rfl⟩
  | t :: ts, vs, ds, ps, aks, ht, hw, hk, ρ, h, o => by
    obtain ⟨v, vs', d, ds', p, q, rfl, rfl, rfl, h1, h2⟩ := trodAll_cons ht
    simp only [aksOf, Option.bind_eq_some_iff, Option.map_eq_some_iff] at hk
    obtain ⟨k, hk1, ks, hk2, rfl⟩ := hk
    have hw' : ∀ (j : Nat) t' v', ts[j]? = some t' → vs'[j]? = some v' → Value.okWide P w .any base t' v' := fun j t' v' a b => hw (j + 1) t' v' (by simpa using a) (by simpa using b)
    rcases arg_fit hk1 (hw 0 t v rfl rfl) h1 with ⟨c, rfl, hf⟩ | ⟨l, cs, rfl, rfl, hf⟩
    · obtain ⟨ρ1, js1, av, a1, o1, r1, t1⟩ := open_ck c v hf ρ h o
      obtain ⟨ρ2, js2, avs, a2, o2, r2, t2⟩ := open_args h2 hw' hk2 ρ1 (h ++ js1) o1
      refine ⟨ρ2, js1 ++ js2, av :: avs, a1.trans a2 (by simp), by rw [← List.append_assoc]; exact o2, ?_, ?_⟩
      · simp only [Rs]
        exact ⟨v, vs', rfl, R_agree a2 av v (Ty_lt t1).1 r1, r2⟩
      · simp only [TyA]
        rw [← List.append_assoc]
        exact ⟨av, avs, rfl, Ty_mono c av t1, t2⟩
    · obtain ⟨ρ1, js1, av, a1, o1, r1, t1⟩ := open_cks l cs.toList hf ρ h o
      obtain ⟨ρ2, js2, avs, a2, o2, r2, t2⟩ := open_args h2 hw' hk2 ρ1 (h ++ js1) o1
      refine ⟨ρ2, js1 ++ js2, .agg av :: avs, a1.trans a2 (by simp), by rw [← List.append_assoc]; exact o2, ?_, ?_⟩
      · simp only [Rs]
        refine ⟨.agg cs, vs', rfl, ?_, r2⟩
        simp only [R]
        exact ⟨cs, rfl, Rs_agree a2 av cs.toList (TyL_lt t1).1 r1⟩
      · simp only [TyA]
        rw [← List.append_assoc]
        exact ⟨av, avs, rfl, TyL_mono l av t1, t2⟩
end

/-- A law, whatever it is handed. -/
theorem calls_law {X : Ctx} (C : Cfg) (hm : X.P.follows .mixedOrders = true) (hgl : C.gl.all isDead = true) (hG : C.gl.length = X.G) (hmp : ∀ f m, C.mp f = some m → chkFunc X f m = true) (hp : PrimOk X C) {f n base : Nat} {aks : List AK}
    (hlaw : ∀ (js : AHeap) (avs : List AV), Ext js → TyA (C.gl ++ js) aks avs → ∃ h' ws, W C f avs (C.gl ++ js) = some (.bool true, h', ws))
    {H : Type} {enc : TypeId × Value → H} {w : World} {ts : List TypeId} {args : Array Value} {ds : List (DataW H)} {ps : List MemPlace} (hk : aksOf X.P n ts = some aks)
    (ht : DataW.TrodAll enc X.P w 0 (fun _ => true) true ts args.toList ds ps) (hw : ∀ (j : Nat) t v, ts[j]? = some t → args.toList[j]? = some v → Value.okWide X.P w .any base t v) :
    Calls X.P f args w fun e w' => e = .returned (.bool true) ∧ Below w.heap.size w w' := by
  have hd : ∀ (i : Nat) (x : ABlk), C.gl[i]? = some x → x.st = .dead := fun i x hi => isDead_elim hgl hi
  have hrep : Rep w.heap.size ⟨X.gid, fun _ => 0, fun _ => 0⟩ C.gl w :=
    ⟨fun i x hi hn => absurd (hd i x hi) hn, fun i x t hi ht => (by rw [hd i x hi] at ht; cases ht), fun i x hi hn => absurd (hd i x hi) hn, fun i x o hi ht => (by rw [hd i x hi] at ht; cases ht), fun i x hi ht => (by rw [hd i x hi] at ht; cases ht), fun i j x y o hi _ _ ht => (by rw [hd i x hi] at ht; cases ht)⟩
  have hop : Opened w ⟨X.gid, fun _ => 0, fun _ => 0⟩ C.gl := ⟨hrep, fun x hx => by obtain ⟨i, hi⟩ := List.getElem?_of_mem hx; exact Or.inr (hd i x hi)⟩
  obtain ⟨ρ, js, avs, ag, o, hr, hty⟩ := open_args ht hw hk _ _ hop
  have hext : Ext js := fun x hx => o.ext x (List.mem_append_right _ hx)
  obtain ⟨h', ws, e⟩ := hlaw js avs hext hty
  obtain ⟨fuel, e⟩ := W_eq.1 e
  have hok := acall_sound C (B := w.heap.size) (ρg := ⟨X.gid, fun _ => 0, fun _ => 0⟩) hm hG hmp hp.1 (hp.2 _ _) fuel f avs (C.gl ++ js) _ e
  have hst : St w.heap.size ⟨X.gid, fun _ => 0, fun _ => 0⟩ C.gl X.gid ρ (C.gl ++ js) w :=
    ⟨o.rep, hrep, fun i x hi => Or.inr (hd i x hi), Nat.le_refl _, fun i hi => ⟨by simp; omega, (ag i hi).1, (ag i hi).2.1⟩, fun i hi => ⟨rfl, rfl⟩⟩
  refine Calls.mono (hok.2 ρ w args hst (TyA_lt hty) hr) fun e w' he => ?_
  obtain ⟨x, rfl, ρ', ag', hx, _, _, fr, _⟩ := he
  simp only [R] at hx
  subst hx
  refine ⟨rfl, fr.os, fr.tape, fr.output, fr.size, fun k hk => fr.keep k hk ?_⟩
  rintro ⟨i, y, t, hi, ht, _⟩
  rcases o.ext y (List.mem_of_getElem? hi) with h1 | h1 <;> rw [h1] at ht <;> cases ht

/-- The arguments, read again. -/
theorem trodAll_stays {H : Type} {enc : TypeId × Value → H} {P : Program} (hl : laidOutB P = true) {W W' : World} (hb : Below W.heap.size W W') : ∀ {ts : List TypeId} {vs : List Value} {ds : List (DataW H)} {ps : List MemPlace},
    (ts.all fun t => P.readableRec t && decide (t < P.types.size)) = true → DataW.TrodAll enc P W 0 (fun _ => true) true ts vs ds ps → DataW.TrodAll enc P W' 0 (fun b => decide (b < W.heap.size)) true ts vs ds ps
  | [], vs, ds, ps, _, h => by
    obtain ⟨rfl, rfl, rfl⟩ := trodAll_nil h
    exact trodAll_mk0
  | t :: ts, vs, ds, ps, ha, h => by
    obtain ⟨v, vs', d, ds', p, q, rfl, rfl, rfl, h1, h2⟩ := trodAll_cons h
    simp only [List.all_cons, Bool.and_eq_true, decide_eq_true_eq] at ha
    have hlt : ∀ x ∈ p, x.block < W.heap.size := by obtain ⟨m, hm⟩ := h1; exact DataW.trod_lt m _ _ _ hm
    exact trodAll_cons_mk (Below.trod hl ha.1.1 ha.1.2 h1 hb hlt) (trodAll_stays hl hb ha.2 h2)

theorem Ext.good {js : AHeap} (h : Ext js) : Good js := good_lit (List.all_eq_true.2 fun x hx => by unfold notOld; rcases h x hx with e | e <;> rw [e])

/-- A slice that came in: what its elements' cells are. -/
def SlAt (h : AHeap) (l : List CK) (v : AV) (es : List (List AV)) : Prop :=
  (v = .nils ∧ es = []) ∨ ∃ b c, v = .sl b 0 es.length c ∧ es.length ≤ c ∧ c ≤ maxLen ∧ b < h.length ∧ h[b]? = some ⟨.ext, mkC l es.flatten⟩
theorem Ty_sl {h : AHeap} {l : List CK} {v : AV} (hv : Ty h (.sl l) v) : ∃ es, SlAt h l v es ∧ ∀ e ∈ es, TyL h l e := by
  simp only [Ty] at hv
  rcases hv with rfl | ⟨b, n, c, es, rfl, h1, h2, rfl, h4, h5⟩
  · exact ⟨[], Or.inl ⟨rfl, rfl⟩, by simp⟩
  · exact ⟨es, Or.inr ⟨b, c, rfl, h1, h2, (List.getElem?_eq_some_iff.1 h5).1, h5⟩, h4⟩
theorem SlAt.len {h l v es} (s : SlAt h l v es) : slen v = some es.length := by
  rcases s with ⟨rfl, rfl⟩ | ⟨b, c, rfl, _⟩ <;> rfl
theorem SlAt.le {h l v es} (s : SlAt h l v es) : es.length ≤ 9223372036854775807 := by
  rcases s with ⟨rfl, rfl⟩ | ⟨b, c, rfl, h1, h2, _⟩
  · simp
  · unfold maxLen at h2; omega
end Go.Proofs.YtdbdmnhnijpdcaaDoorW.AI

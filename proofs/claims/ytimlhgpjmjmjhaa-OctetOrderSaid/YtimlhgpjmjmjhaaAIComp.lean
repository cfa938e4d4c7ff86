import Derived.Test.YtimlhgpjmjmjhaaAISem18
import Derived.Laws.Externs
/-! bytealg.Compare: what the model's entry answers. -/
namespace Go.Proofs.YtimlhgpjmjmjhaaW.AI
open Go
set_option linter.unusedVariables false
set_option linter.unusedSimpArgs false
/-- The bytes that a slice says. -/
def byteL (h : AHeap) (x : AV) : Option (List Int) :=
  match x with
  | .nils => some []
  | x => match sliceCells h 1 x with
    | some (.ints .u8 l) => some l
    | _ => none
def bsA (l : List Int) : ByteArray := ⟨(l.map fun n => n.toNat.toUInt8).toArray⟩
theorem load_ok {P : Program} {w : World} (a : Addr) : (∃ v, (load a).run P w = .ok v w) ∨ ∃ h w', (load a).run P w = .halt h w' := by
  rw [run_load]
  split
  · exact Or.inl ⟨_, rfl⟩
  · split
    · exact Or.inl ⟨_, rfl⟩
    · exact Or.inr ⟨_, _, rfl⟩
theorem loads_inv {P : Program} {w : World} {a : Addr} : ∀ (n i : Nat) (acc r : Array Value), (loadCellsFrom a i n acc).run P w = .ok r w → ∃ us : List Value, us.length = n ∧ r = acc ++ us.toArray ∧ ∀ j u, us[j]? = some u → (load (a.add (i + j))).run P w = .ok u w
  | 0, i, acc, r, h => by
    simp only [loadCellsFrom, Sem.run_pure, Result.ok.injEq, and_true] at h
    exact ⟨[], rfl, by simp [h], fun j u hj => by simp at hj⟩
  | n + 1, i, acc, r, h => by
    simp only [loadCellsFrom, Sem.run_bind] at h
    rcases load_ok (P := P) (w := w) (a.add i) with ⟨v, e⟩ | ⟨q, w', e⟩
    · rw [e] at h
      simp only [Result.andThen_ok] at h
      obtain ⟨us, h1, h2, h3⟩ := loads_inv n (i + 1) (acc.push v) r h
      refine ⟨v :: us, by simp [h1], by rw [h2]; simp, fun j u hj => ?_⟩
      cases j with
      | zero =>
        simp at hj
        subst hj
        exact e
      | succ j =>
        have := h3 j u (by simpa using hj)
        rw [show i + (j + 1) = i + 1 + j by omega]
        exact this
    · rw [e] at h
      simp [Result.andThen] at h
theorem add_one (a : Addr) (i : Nat) : (a.add i).add 1 = a.add (i + 1) := by
  unfold Addr.add
  by_cases h : i = 0
  · subst h; simp
  · simp [h, Nat.add_assoc]
theorem run_loadBytes {P : Program} {w : World} {a : Addr} : ∀ (l : List Int) (i : Nat) (acc : ByteArray), (∀ j d, l[j]? = some d → (load (a.add (i + j))).run P w = .ok (.int .u8 d) w) →
    (Extern.Bytes.loadBytes (a.add i) l.length acc).run P w = .ok ⟨(acc.data.toList ++ l.map fun n => n.toNat.toUInt8).toArray⟩ w
  | [], i, acc, h => by simp [Extern.Bytes.loadBytes]
  | d :: l, i, acc, h => by
    have h0 := h 0 d rfl
    simp only [List.length_cons, Extern.Bytes.loadBytes, Sem.run_bind]
    rw [Nat.add_zero] at h0
    rw [h0]
    simp only [Result.andThen_ok]
    rw [add_one, run_loadBytes l (i + 1) (acc.push d.toNat.toUInt8) fun j u hj => by
      rw [show i + 1 + j = i + (j + 1) by omega]
      exact h (j + 1) u (by simpa using hj)]
    simp [ByteArray.push]
section
variable {X : Ctx} {B : Nat} {ρg : Env} {gl : AHeap} {ρ : Env} {h : AHeap} {w : World}
theorem bytesOf_run (hst : Rep B ρ h w) {x : AV} {l : List Int} (hx : byteL h x = some l) {v : Value} (hr : R ρ x v) (P : Program) : (Extern.Bytes.bytesOf v).run P w = .ok (bsA l) w := by
  have hcase : (x = .nils ∧ l = []) ∨ sliceCells h 1 x = some (.ints .u8 l) := by
    unfold byteL at hx
    split at hx
    · simp only [Option.some.injEq] at hx
      exact Or.inl ⟨rfl, hx.symm⟩
    · split at hx
      · rename_i l' hl'
        simp only [Option.some.injEq] at hx
        subst hx
        exact Or.inr hl'
      · cases hx
  rcases hcase with ⟨rfl, rfl⟩ | hc
  · simp only [R] at hr
    subst hr
    simp [Extern.Bytes.bytesOf, bsA]
    rfl
  · have hn : ∃ n, slen x = some n := by cases x <;> simp [sliceCells] at hc <;> exact ⟨_, rfl⟩
    obtain ⟨n, hn⟩ := hn
    obtain ⟨us, k1, k2, k3, q, cap, rfl, k5⟩ := slice_cells hst hc hn hr
    have hu : us = l.map (Value.int .u8) := by
      have k1' : Rs ρ (l.map (AV.int .u8)) us := by simpa [ACells.list] using k1
      clear k1 k2 k3 k5 hc hx hn hr
      induction l generalizing us with
      | nil => simpa [Rs] using k1'
      | cons d l ih =>
        simp only [List.map_cons, Rs, R] at k1'
        obtain ⟨v, vs, rfl, rfl, h2⟩ := k1'
        rw [ih vs h2]; rfl
    have hl : l.length = n := by rw [hu] at k2; simpa using k2
    have := k5 P w rfl
    rw [Nat.mul_one] at this
    cases q with
    | none =>
      simp only [Sem.run_pure, Result.ok.injEq, and_true] at this
      have hus : us = [] := by simpa using this.symm
      have hl0 : l = [] := by rw [hus] at hu; simpa using hu.symm
      subst hl0
      simp [Extern.Bytes.bytesOf, bsA]
      rfl
    | some ad =>
      simp only at this
      unfold loadCells at this
      obtain ⟨vs, h1, h2, h3⟩ := loads_inv _ _ _ _ this
      have hvs : vs = us := by
        have := congrArg Array.toList h2
        simpa using this.symm
      subst hvs
      have := run_loadBytes (P := P) (w := w) (a := ad) l 0 ByteArray.empty fun j d hj => by
        refine h3 j (.int .u8 d) ?_
        rw [hu, List.getElem?_map, hj]; rfl
      rw [hl] at this
      have ha : ad.add 0 = ad := by unfold Addr.add; simp
      rw [ha] at this
      simp only [Extern.Bytes.bytesOf]
      rw [this]
      simp [bsA]
/-- What Compare answers. -/
def cmpV (l m : List Int) : Int := Extern.BytealgCompare.cmp (bsA l) (bsA m)
theorem run_compare (hst : Rep B ρ h w) {x y : AV} {l m : List Int} (hx : byteL h x = some l) (hy : byteL h y = some m) {v u : Value} (hv : R ρ x v) (hu : R ρ y u) (P : Program) :
    (Extern.BytealgCompare.compare #[v, u]).run P w = .ok (.int .i64 (cmpV l m)) w := by
  change Sem.run P (do
    let b ← Extern.Bytes.bytesOf v
    let c ← Extern.Bytes.bytesOf u
    pure (goInt (Extern.BytealgCompare.cmp b c))) w = _
  simp only [Sem.run_bind, bytesOf_run hst hx hv P, Result.andThen_ok, bytesOf_run hst hy hu P, Sem.run_pure]
  rfl
end
end Go.Proofs.YtimlhgpjmjmjhaaW.AI

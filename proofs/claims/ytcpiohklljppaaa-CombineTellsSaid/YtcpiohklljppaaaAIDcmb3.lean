import Derived.Test.YtcpiohklljppaaaAIDcmb2
import Derived.Test.YtcpiohklljppaaaAIDbase
import Derived.RangeFuncBox
import Derived.RangeFuncLeaves
namespace Go.Proofs.YtcpiohklljppaaaW.AI.D
open Go Go.Proofs.YtcpiohklljppaaaW.AI Go.RowKit
set_option maxRecDepth 100000
set_option linter.unusedSimpArgs false
set_option linter.unusedVariables false
set_option linter.unusedSectionVars false
/-- Whole numbers lie in the world. -/
def Cel (w : World) (b o : Nat) (l : List Int) : Prop := ∀ (j : Nat) (x : Int), l[j]? = some x → w.cell? ⟨b, o + j, none⟩ = some (.int .i64 x)
theorem cel_arr {w : World} {b o : Nat} {l : List Int} (h : Cel w b o l) (hl : l ≠ []) : ∃ arr T fz, w.heap[b]? = some (.cells arr T fz) ∧ o + l.length ≤ arr.size ∧ ∀ (j : Nat) (x : Int), l[j]? = some x → arr[o + j]? = some (.int .i64 x) := by
  have h0 : 0 < l.length := List.length_pos_iff.2 hl
  have key : ∀ (j : Nat) (x : Int), l[j]? = some x → ∃ arr T fz, w.heap[b]? = some (.cells arr T fz) ∧ arr[o + j]? = some (.int .i64 x) := by
    intro j x hx
    have := h j x hx
    unfold World.cell? at this
    split at this
    · rename_i c T fz hb
      simp at this
      exact ⟨c, T, fz, hb, this⟩
    · cases this
  obtain ⟨arr, T, fz, hb, _⟩ := key 0 (l[0]) (by simp [h0])
  have all : ∀ (j : Nat) (x : Int), l[j]? = some x → arr[o + j]? = some (.int .i64 x) := by
    intro j x hx
    obtain ⟨arr', T', fz', hb', e⟩ := key j x hx
    rw [hb] at hb'
    cases hb'
    exact e
  refine ⟨arr, T, fz, hb, ?_, all⟩
  have := all (l.length - 1) (l[l.length - 1]) (by rw [List.getElem?_eq_getElem (by omega)])
  have := (Array.getElem?_eq_some_iff.1 this).1
  omega
theorem Cel.lt {w : World} {b o : Nat} {l : List Int} (h : Cel w b o l) (hl : l ≠ []) : b < w.heap.size := by
  obtain ⟨arr, T, fz, hb, _⟩ := cel_arr h hl
  exact (Array.getElem?_eq_some_iff.1 hb).1
theorem Cel.of_block {w w' : World} {b o : Nat} {l : List Int} (h : Cel w b o l) (e : w'.heap[b]? = w.heap[b]?) : Cel w' b o l := fun j x hx => (World.cell?_of_block (w := w) (a := ⟨b, o + j, none⟩) e).trans (h j x hx)
/-- The blocks of a call: where they lie, what they hold. -/
abbrev Bks := List (Nat × Nat × List Int)
def bkB (b : Nat × Nat × List Int) : ABlk := ⟨.ext, .ints .i64 b.2.2⟩
noncomputable def envB (bs : Bks) : Env := ⟨fun i => if i < 2 then X.gid i else ((bs[i - 2]?).getD (0, 0, [])).1, fun i => if i < 2 then 0 else ((bs[i - 2]?).getD (0, 0, [])).2.1, fun i => if i < 2 then 0 else ((bs[i - 2]?).getD (0, 0, [])).2.2.length⟩
theorem raw_st {w : World} {bs : Bks} (hc : ∀ b ∈ bs, Cel w b.1 b.2.1 b.2.2) : St w.heap.size ⟨X.gid, fun _ => 0, fun _ => 0⟩ CP.gl X.gid (envB bs) (CP.gl ++ bs.map bkB) w := by
  have hd : ∀ (i : Nat) (x : ABlk), CP.gl[i]? = some x → x.st = .dead := fun i x hi => isDead_elim (l := CP.gl) rfl hi
  have hrep : Rep w.heap.size ⟨X.gid, fun _ => 0, fun _ => 0⟩ CP.gl w :=
    ⟨fun i x hi hn => absurd (hd i x hi) hn, fun i x t hi ht => (by rw [hd i x hi] at ht; cases ht), fun i x hi hn => absurd (hd i x hi) hn, fun i x o hi ht => (by rw [hd i x hi] at ht; cases ht), fun i x hi ht => (by rw [hd i x hi] at ht; cases ht), fun i j x y o hi _ _ ht => (by rw [hd i x hi] at ht; cases ht)⟩
  have hcl : ∀ (i : Nat) (x : ABlk), (CP.gl ++ bs.map bkB)[i]? = some x → (x.st = .dead ∧ i < 2) ∨ ∃ b, bs[i - 2]? = some b ∧ x = bkB b ∧ ¬ i < 2 := by
    intro i x hi
    by_cases c : i < 2
    · rw [List.getElem?_append_left (show i < CP.gl.length from c)] at hi
      exact Or.inl ⟨hd i x hi, c⟩
    · rw [List.getElem?_append_right (show CP.gl.length ≤ i from by show 2 ≤ i; omega), List.getElem?_map] at hi
      have h2 : CP.gl.length = 2 := rfl
      rw [h2] at hi
      cases hb : bs[i - 2]? with
      | none => rw [hb] at hi; cases hi
      | some b =>
        rw [hb] at hi
        simp only [Option.map_some, Option.some.injEq] at hi
        exact Or.inr ⟨b, rfl, hi.symm, c⟩
  have hex : ∀ (i : Nat) (x : ABlk), (CP.gl ++ bs.map bkB)[i]? = some x → x.st = .dead ∨ x.st = .ext := by
    intro i x hi
    rcases hcl i x hi with ⟨h, _⟩ | ⟨b, _, rfl, _⟩
    · exact Or.inl h
    · exact Or.inr rfl
  have notip : ∀ (i : Nat) (x : ABlk) (o : Bool), (CP.gl ++ bs.map bkB)[i]? = some x → x.st ≠ .tip o := by
    intro i x o hi e
    rcases hex i x hi with h | h <;> rw [h] at e <;> cases e
  refine ⟨⟨?_, ?_, ?_, ?_, ?_, ?_⟩, hrep, fun i x hi => Or.inr (hd i x hi), Nat.le_refl _, fun i hi => ⟨by simp; omega, ?_, ?_⟩, fun i hi => ⟨rfl, rfl⟩⟩
  · intro i x hi hn
    rcases hcl i x hi with ⟨h, _⟩ | ⟨b, _, rfl, _⟩
    · exact absurd h hn
    · rfl
  · intro i x t hi ht
    rcases hex i x hi with h | h <;> rw [h] at ht <;> cases ht
  · intro i x hi hn
    rcases hcl i x hi with ⟨h, _⟩ | ⟨b, hb, rfl, hi2⟩
    · exact absurd h hn
    · have hcb := hc b (List.mem_of_getElem? hb)
      have e1 : (envB bs).blk i = b.1 := by show (if i < 2 then X.gid i else ((bs[i - 2]?).getD (0, 0, [])).1) = _; rw [if_neg hi2, hb]; rfl
      have e2 : (envB bs).base i = b.2.1 := by show (if i < 2 then 0 else ((bs[i - 2]?).getD (0, 0, [])).2.1) = _; rw [if_neg hi2, hb]; rfl
      have e3 : (envB bs).sz i = b.2.2.length := by show (if i < 2 then 0 else ((bs[i - 2]?).getD (0, 0, [])).2.2.length) = _; rw [if_neg hi2, hb]; rfl
      refine ⟨by rw [e3]; exact Nat.le_refl _, fun hz => ?_⟩
      rw [e3] at hz
      obtain ⟨arr, T, fz, h1, h2, h3⟩ := cel_arr hcb (fun e => hz (by rw [e]; rfl))
      refine ⟨arr, T, fz, by rw [e1]; exact h1, by rw [e2, e3]; exact h2, fun j v hj => ?_⟩
      simp only [bkB, ACells.get?, Option.map_eq_some_iff] at hj
      obtain ⟨x, hx, rfl⟩ := hj
      exact ⟨.int .i64 x, by rw [e2]; exact h3 j x hx, by simp [R]⟩
  · exact fun i x o hi ht => absurd ht (notip i x o hi)
  · intro i x hi ht hz
    rcases hcl i x hi with ⟨h, _⟩ | ⟨b, hb, rfl, hi2⟩
    · rw [h] at ht; cases ht
    · have hcb := hc b (List.mem_of_getElem? hb)
      have e1 : (envB bs).blk i = b.1 := by show (if i < 2 then X.gid i else ((bs[i - 2]?).getD (0, 0, [])).1) = _; rw [if_neg hi2, hb]; rfl
      have e3 : (envB bs).sz i = b.2.2.length := by show (if i < 2 then 0 else ((bs[i - 2]?).getD (0, 0, [])).2.2.length) = _; rw [if_neg hi2, hb]; rfl
      rw [e1]
      exact hcb.lt fun e => hz (by rw [e3, e]; rfl)
  · exact fun i j x y o hi _ _ ht => absurd ht (notip i x o hi)
  · have h2 : i < 2 := hi
    show (if i < 2 then X.gid i else ((bs[i - 2]?).getD (0, 0, [])).1) = _
    rw [if_pos h2]
  · have h2 : i < 2 := hi
    show (if i < 2 then 0 else ((bs[i - 2]?).getD (0, 0, [])).2.1) = _
    rw [if_pos h2]
/-- What a contract says of a call in the world. -/
theorem raw {f : Nat} {args : List AV} {r : AV} {bs : Bks} {js : AHeap} {ws : List Nat} (e : W CP f args (CP.gl ++ bs.map bkB) = some (r, CP.gl ++ bs.map bkB ++ js, ws)) {w : World} (hc : ∀ b ∈ bs, Cel w b.1 b.2.1 b.2.2) {xs : Array Value}
    (hl : AV.lts (CP.gl ++ bs.map bkB).length args = true) (hr : Rs (envB bs) args xs.toList) : Calls Go.Proofs.Try.prog f xs w fun e w' => ∃ x ρ', e = .returned x ∧ Agree (CP.gl ++ bs.map bkB).length (envB bs) ρ' ∧ R ρ' r x ∧ Rep w.heap.size ρ' (CP.gl ++ bs.map bkB ++ js) w' ∧ Below w.heap.size w w' := by
  obtain ⟨n, e⟩ := W_eq.1 e
  have hok := acall_sound CP (X := X) (B := w.heap.size) (ρg := ⟨X.gid, fun _ => 0, fun _ => 0⟩) follows rfl mp_chk (noPrim (X := X) rfl).1 ((noPrim (X := X) (C := CP) rfl).2 _ _) n f args (CP.gl ++ bs.map bkB) _ e
  have hst := raw_st hc
  refine Calls.mono (hok.2 _ w xs hst hl hr) fun e w' he => ?_
  obtain ⟨x, rfl, ρ', ag, hx, _, hst', fr, _⟩ := he
  refine ⟨x, ρ', rfl, ag, hx, hst'.rep, fr.os, fr.tape, fr.output, fr.size, fun k hk => fr.keep k hk ?_⟩
  rintro ⟨i, y, o, hi, ht, _⟩
  by_cases c : i < 2
  · rw [List.getElem?_append_left (show i < CP.gl.length from c)] at hi
    rw [isDead_elim (l := CP.gl) rfl hi] at ht; cases ht
  · rw [List.getElem?_append_right (show CP.gl.length ≤ i from by show 2 ≤ i; omega), List.getElem?_map] at hi
    cases hb : bs[i - CP.gl.length]? with
    | none => rw [hb] at hi; cases hi
    | some b =>
      rw [hb] at hi
      simp only [Option.map_some, Option.some.injEq] at hi
      rw [← hi] at ht
      cases ht
/-- An answer that bears no address. -/
theorem raw_int {f : Nat} {args : List AV} {k : IntKind} {z : Int} {bs : Bks} (e : W CP f args (CP.gl ++ bs.map bkB) = some (.int k z, CP.gl ++ bs.map bkB, [])) {w : World} (hc : ∀ b ∈ bs, Cel w b.1 b.2.1 b.2.2) {xs : Array Value}
    (hl : AV.lts (CP.gl ++ bs.map bkB).length args = true) (hr : Rs (envB bs) args xs.toList) : Calls Go.Proofs.Try.prog f xs w fun e w' => e = .returned (.int k z) ∧ Below w.heap.size w w' := by
  refine (raw (js := []) (by rw [List.append_nil]; exact e) hc hl hr).mono ?_
  rintro e w' ⟨x, ρ', rfl, _, hx, _, hb⟩
  simp only [R] at hx
  exact ⟨by rw [hx], hb⟩
theorem raw_bool {f : Nat} {args : List AV} {z : Bool} {bs : Bks} (e : W CP f args (CP.gl ++ bs.map bkB) = some (.bool z, CP.gl ++ bs.map bkB, [])) {w : World} (hc : ∀ b ∈ bs, Cel w b.1 b.2.1 b.2.2) {xs : Array Value}
    (hl : AV.lts (CP.gl ++ bs.map bkB).length args = true) (hr : Rs (envB bs) args xs.toList) : Calls Go.Proofs.Try.prog f xs w fun e w' => e = .returned (.bool z) ∧ Below w.heap.size w w' := by
  refine (raw (js := []) (by rw [List.append_nil]; exact e) hc hl hr).mono ?_
  rintro e w' ⟨x, ρ', rfl, _, hx, _, hb⟩
  simp only [R] at hx
  exact ⟨by rw [hx], hb⟩
theorem raw_two {f : Nat} {args : List AV} {k k' : IntKind} {z z' : Int} {bs : Bks} (e : W CP f args (CP.gl ++ bs.map bkB) = some (.tup [.int k z, .int k' z'], CP.gl ++ bs.map bkB, [])) {w : World} (hc : ∀ b ∈ bs, Cel w b.1 b.2.1 b.2.2) {xs : Array Value}
    (hl : AV.lts (CP.gl ++ bs.map bkB).length args = true) (hr : Rs (envB bs) args xs.toList) : Calls Go.Proofs.Try.prog f xs w fun e w' => e = .returned (.tuple #[.int k z, .int k' z']) ∧ Below w.heap.size w w' := by
  refine (raw (js := []) (by rw [List.append_nil]; exact e) hc hl hr).mono ?_
  rintro e w' ⟨x, ρ', rfl, _, hx, _, hb⟩
  simp only [R, Rs] at hx
  obtain ⟨vs, rfl, v1, r1, e1, rfl, v2, r2, rfl, rfl, rfl⟩ := hx
  obtain ⟨l⟩ := vs
  simp only at e1
  subst e1
  exact ⟨rfl, hb⟩
end Go.Proofs.YtcpiohklljppaaaW.AI.D

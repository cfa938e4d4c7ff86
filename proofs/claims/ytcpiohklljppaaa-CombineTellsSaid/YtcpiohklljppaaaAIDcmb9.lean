import Derived.Test.YtcpiohklljppaaaAIDcmb8
namespace Go.Proofs.YtcpiohklljppaaaW.AI.D
open Go Go.Proofs.YtcpiohklljppaaaW.AI Go.RowKit Go.Shelf
set_option maxRecDepth 100000
set_option linter.unusedSimpArgs false
set_option linter.unusedVariables false
set_option linter.unusedSectionVars false
-- ------------------------------------------------------------------ what a slice of spans says
def un3 : List Int → List Sp
  | a :: b :: c :: r => (a, b, c) :: un3 r
  | _ => []
theorem un3_flat : ∀ L : List Sp, un3 (flat3 L) = L
  | [] => rfl
  | s :: L => by rw [flat3_cons, un3, un3_flat L]
theorem flat_un3 : ∀ (n : Nat) (l : List Int), l.length = n * 3 → flat3 (un3 l) = l ∧ (un3 l).length = n
  | 0, l, h => by
    have : l = [] := List.length_eq_zero_iff.1 (by omega)
    subst this
    exact ⟨rfl, rfl⟩
  | n + 1, l, h => by
    match l, h with
    | a :: b :: c :: r, h =>
      obtain ⟨h1, h2⟩ := flat_un3 n r (by simp only [List.length_cons] at h; omega)
      rw [un3, flat3_cons, h1, List.length_cons, h2]
      exact ⟨rfl, rfl⟩
    | [], h => simp at h
    | [_], h => simp at h; omega
    | [_, _], h => simp at h; omega
def liv : BSt → Bool
  | .ext => true
  | .tip _ => true
  | _ => false
theorem liv_iff {st : BSt} : liv st = true ↔ BLiv st := by
  unfold BLiv
  cases st <;> simp [liv]
def rowsAt (h : AHeap) (b n : Nat) : Option (List Sp) := match h[b]? with
  | some ⟨st, .ints .i64 l⟩ => if liv st = true ∧ n * 3 ≤ l.length then some (un3 (l.take (n * 3))) else none
  | _ => none
def spansOf (h : AHeap) : AV → Option (List Sp)
  | .nils => some []
  | .sl b 0 n c => if n ≤ c then rowsAt h b n else none
  | .gsl b 0 n 3 _ => rowsAt h b n
  | _ => none
theorem rowsAt_some {h : AHeap} {b n : Nat} {L : List Sp} (e : rowsAt h b n = some L) : ∃ st l, h[b]? = some ⟨st, .ints .i64 l⟩ ∧ BLiv st ∧ L.length = n ∧ l.take (n * 3) = flat3 L := by
  unfold rowsAt at e
  split at e
  · rename_i st l hb
    split at e
    · rename_i hc
      cases e
      obtain ⟨h1, h2⟩ := flat_un3 n (l.take (n * 3)) (by rw [List.length_take]; omega)
      exact ⟨st, l, hb, liv_iff.1 hc.1, h2, h1.symm⟩
    · cases e
  · cases e
theorem rowsAt_of {h : AHeap} {b : Nat} {L : List Sp} {st : BSt} {l : List Int} (hb : h[b]? = some ⟨st, .ints .i64 l⟩) (hs : BLiv st) (ht : l.take (L.length * 3) = flat3 L) : rowsAt h b L.length = some L := by
  have hl : L.length * 3 ≤ l.length := by
    have := congrArg List.length ht
    rw [List.length_take, flat3_len] at this
    omega
  unfold rowsAt
  rw [hb]
  simp only
  rw [if_pos ⟨liv_iff.2 hs, hl⟩, ht, un3_flat]
theorem spansOf_SV {h : AHeap} {v : AV} {L : List Sp} (e : spansOf h v = some L) : SV h v L := by
  unfold spansOf at e
  split at e
  · cases e
    exact Or.inl ⟨rfl, rfl⟩
  · rename_i b n c
    split at e
    · obtain ⟨st, l, h1, h2, rfl, h4⟩ := rowsAt_some e
      exact Or.inr ⟨b, c, st, l, false, h1, h2, h4, Or.inl ⟨rfl, by assumption⟩⟩
    · cases e
  · rename_i b n mn
    obtain ⟨st, l, h1, h2, rfl, h4⟩ := rowsAt_some e
    exact Or.inr ⟨b, 0, st, l, mn, h1, h2, h4, Or.inr rfl⟩
  · cases e
theorem SV_spansOf {h : AHeap} {v : AV} {L : List Sp} (u : SV h v L) : spansOf h v = some L := by
  obtain ⟨rfl, rfl⟩ | ⟨b, c, st, l, mn, e, hst, ht, ⟨rfl, hc⟩ | rfl⟩ := u
  · rfl
  · simp only [spansOf, if_pos hc]
    exact rowsAt_of e hst ht
  · exact rowsAt_of e hst ht
-- ------------------------------------------------------------------ Mean, answered by its contract
def mnA (L : List Sp) (H : Sp) : AV := .tup [.int .i64 (mnV L H).1, .int .i64 (mnV L H).2.1, .int .i64 (mnV L H).2.2]
def primM (f : Nat) (xs : List AV) (h : AHeap) : Option (Option (AV × AHeap × List Nat)) :=
  if f = 34 then match xs with
    | [v, .agg [.int .i64 a, .int .i64 l, .int .i64 u]] => some ((spansOf h v).bind fun L => if L.length ≤ 9223372036854775806 then some (mnA L (a, l, u), h, []) else none)
    | _ => some none
  else none
def CM : Cfg := { mp := MP, gl := [⟨.dead, .vals []⟩, ⟨.dead, .vals []⟩], prim := primM }
/-- Nothing that lay has changed. -/
theorem post_below {X : Ctx} {B : Nat} {ρg : Env} {gl h : AHeap} {ρ : Env} {w w' : World} {v : AV} {x : Value} (hst : St B ρg gl X.gid ρ h w) (hb : Below w.heap.size w w') (hl : v.lt h.length = true) (hr : R ρ v x) : Post X B ρg gl ρ h w v h x w' :=
  post_mem hst (Agree.refl _ _) hr hl (hst.rep.same fun i x hi hd hz => by
    obtain ⟨arr, T, fz, h1, _⟩ := (hst.rep.lies i x hi hd).2 hz
    exact hb.block _ (Array.getElem?_eq_some_iff.1 h1).1) ⟨hb.os, hb.tape, hb.output, hb.size, fun x hx _ => hb.block x hx, fun x h => Or.inr h, fun x h => Or.inr h⟩ (Nat.le_refl _)
theorem primM_some {f : Nat} {vs : List AV} {h : AHeap} {r : AV × AHeap × List Nat} (hr : primM f vs h = some (some r)) : f = 34 ∧ ∃ v a l u L, vs = [v, .agg [.int .i64 a, .int .i64 l, .int .i64 u]] ∧ SV h v L ∧ L.length ≤ 9223372036854775806 ∧ r = (mnA L (a, l, u), h, []) := by
  unfold primM at hr
  split at hr
  case isFalse => cases hr
  rename_i hf
  refine ⟨hf, ?_⟩
  split at hr
  case h_2 => cases hr
  rename_i v a l u
  simp only [Option.some.injEq, Option.bind_eq_some_iff] at hr
  obtain ⟨L, h1, h2⟩ := hr
  split at h2
  · cases h2
    exact ⟨v, a, l, u, L, rfl, spansOf_SV h1, by assumption, rfl⟩
  · cases h2
theorem primOkM : PrimOkX X CM := by
  refine ⟨fun f vs h r hr => ?_, fun B ρg f vs h r hr => Or.inl ⟨?_, fun ρ w xs hst hl hrs => ?_⟩⟩
  · obtain ⟨_, _, _, _, _, _, _, _, _, rfl⟩ := primM_some hr
    exact Steady.refl _ _
  · rw [(primM_some hr).1]
    kernel_rfl
  · obtain ⟨rfl, v, a, l, u, L, rfl, hv, hL, rfl⟩ := primM_some hr
    obtain ⟨xl⟩ := xs
    simp only [Rs] at hrs
    obtain ⟨sv, _, rfl, h1, _, _, rfl, h2, rfl⟩ := hrs
    simp only [R, Rs] at h2
    obtain ⟨⟨vl⟩, rfl, _, _, rfl, rfl, _, _, rfl, rfl, _, _, rfl, rfl, rfl⟩ := h2
    have hs := hv.spans h1 hst.rep
    have k := mean_raw (H := (a, l, u)) hs hL
    refine Calls.mono k ?_
    rintro e w' ⟨rfl, hb⟩
    refine ⟨_, rfl, post_below hst hb rfl ?_⟩
    simp only [mnA, R, Rs]
    exact ⟨_, rfl, _, _, rfl, rfl, _, _, rfl, rfl, _, _, rfl, rfl, rfl⟩
theorem acall_up : ∀ n, Sub (acall CP n) (acall CM n)
  | 0, _, _, _, _, e => by cases e
  | n + 1, f, vs, h, r, e => by
    have ih := acall_up n
    rw [acall] at e ⊢
    have h1 : CP.prim f vs h = none := rfl
    rw [h1] at e
    simp only at e
    have hm : CM.mp = CP.mp := rfl
    have hg : CM.gl = CP.gl := rfl
    by_cases hf : f = 34
    · subst hf
      have : CP.mp 34 = none := rfl
      rw [this] at e
      cases e
    have h2 : CM.prim f vs h = none := if_neg hf
    rw [h2, hm, hg]
    simp only
    split at e
    · cases e
    split at e
    · rw [if_pos (by assumption)]
      simp only [Option.bind_eq_some_iff] at e ⊢
      obtain ⟨x, e1, e2⟩ := e
      refine ⟨x, abody_sub ih (Nat.le_refl _) e1, ?_⟩
      obtain ⟨v, h', ws⟩ := x
      simp only at e2 ⊢
      split at e2
      · rw [if_pos (by assumption)]; exact e2
      · rw [if_neg (by assumption)]
        simp only [Option.map_eq_some_iff] at e2 ⊢
        obtain ⟨y, e3, e4⟩ := e2
        exact ⟨y, abody_sub ih (Nat.le_refl _) e3, e4⟩
    · rw [if_neg (by assumption)]
      simp only [Option.map_eq_some_iff] at e ⊢
      obtain ⟨y, e3, e4⟩ := e
      exact ⟨y, abody_sub ih (Nat.le_refl _) e3, e4⟩
/-- Every contract holds here, too. -/
theorem up {f : Nat} {vs : List AV} {h : AHeap} {r : AV × AHeap × List Nat} (e : W CP f vs h = some r) : W CM f vs h = some r := by
  obtain ⟨n, e⟩ := W_eq.1 e
  exact W_eq.2 ⟨n, acall_up n _ _ _ _ e⟩
theorem mean_c {h : AHeap} {v : AV} {L : List Sp} (H : Sp) (u : SV h v L) (hl : L.length ≤ 9223372036854775806) : W CM 34 [v, spV H] h = some (mnA L H, h, []) := by
  refine W_eq.2 ⟨1, ?_⟩
  have : CM.prim 34 [v, spV H] h = some (some (mnA L H, h, [])) := by
    change primM 34 [v, .agg [.int .i64 H.1, .int .i64 H.2.1, .int .i64 H.2.2]] h = _
    unfold primM
    rw [if_pos rfl]
    simp only [SV_spansOf u, Option.bind_some, if_pos hl]
  rw [acall, this]
/-- A law of this seat. -/
theorem law_walkM {f n : Nat} (hne : f ≠ 34) {aks : List AK} (hlaw : ∀ (js : AHeap) (avs : List AV), Ext js → TyA (CM.gl ++ js) aks avs → ∃ h' ws, W CM f avs (CM.gl ++ js) = some (.bool true, h', ws)) {ts : List TypeId} (hk : aksOf X.P n ts = some aks)
    {H : Type} {enc : TypeId × Value → H} {w : World} {base : Nat} {args : Array Value} {ds : List (DataW H)} {ps : List MemPlace}
    (ht : DataW.TrodAll enc Go.Proofs.Try.prog w 0 (fun _ => true) true ts args.toList ds ps) (hw : ∀ (j : Nat) t v, ts[j]? = some t → args.toList[j]? = some v → Value.okWide Go.Proofs.Try.prog w .any base t v) :
    Calls Go.Proofs.Try.prog f args w fun e w' => e = .returned (.bool true) ∧ Below w.heap.size w w' :=
  calls_lawX (X := X) CM follows rfl rfl mp_chk primOkM (fun vs h => if_neg hne) hlaw hk ht hw
end Go.Proofs.YtcpiohklljppaaaW.AI.D

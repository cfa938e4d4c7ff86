import Derived.Test.YtdbdmnhnijpdcaaDoorAICard
/-! A law over laid variables, that is told of which arguments its values are. -/
namespace Go.Proofs.YtdbdmnhnijpdcaaDoorW.AI
open Go Go.RowKit
set_option linter.unusedVariables false
theorem law_laid_r {X : Ctx} (C : Cfg) (hm : X.P.follows .mixedOrders = true) (hG : C.gl.length = X.G) (hmp : ∀ f m, C.mp f = some m → chkFunc X f m = true) (hp : PrimOk X C) {f n base : Nat} {aks : List AK}
    {H : Type} {enc : TypeId × Value → H} {w : World} (hl : Laid C.gl X.gid w) {ts : List TypeId} {args : Array Value} {ds : List (DataW H)} {ps : List MemPlace} (hk : aksOf X.P n ts = some aks)
    (hlaw : ∀ (js : AHeap) (avs : List AV) (ρ : Env), Ext js → TyA (C.gl ++ js) aks avs → Rs ρ avs args.toList → ∃ h' ws, W C f avs (C.gl ++ js) = some (.bool true, h', ws))
    (ht : DataW.TrodAll enc X.P w 0 (fun _ => true) true ts args.toList ds ps) (hw : ∀ (j : Nat) t v, ts[j]? = some t → args.toList[j]? = some v → Value.okWide X.P w .any base t v) :
    Calls X.P f args w fun e w' => e = .returned (.bool true) ∧ Below w.heap.size w w' := by
  have hop : Opened w (glEnv C.gl X.gid) C.gl := ⟨hl.rep, fun x hx => by obtain ⟨i, hi⟩ := List.getElem?_of_mem hx; exact hl.ext i x hi⟩
  obtain ⟨ρ, js, avs, ag, o, hr, hty⟩ := open_args ht hw hk _ _ hop
  have hext : Ext js := fun x hx => o.ext x (List.mem_append_right _ hx)
  obtain ⟨h', ws, e⟩ := hlaw js avs ρ hext hty hr
  obtain ⟨fuel, e⟩ := W_eq.1 e
  have hok := acall_sound C (B := w.heap.size) (ρg := glEnv C.gl X.gid) hm hG hmp hp.1 (hp.2 _ _) fuel f avs (C.gl ++ js) _ e
  have hst : St w.heap.size (glEnv C.gl X.gid) C.gl X.gid ρ (C.gl ++ js) w :=
    ⟨o.rep, hl.rep, hl.ext, Nat.le_refl _, fun i hi => ⟨by simp; omega, (ag i hi).1, (ag i hi).2.1⟩, fun i hi => ⟨rfl, rfl⟩⟩
  refine Calls.mono (hok.2 ρ w args hst (TyA_lt hty) hr) fun e w' he => ?_
  obtain ⟨x, rfl, ρ', ag', hx, _, _, fr, _⟩ := he
  simp only [R] at hx
  subst hx
  refine ⟨rfl, fr.os, fr.tape, fr.output, fr.size, fun k hk => fr.keep k hk ?_⟩
  rintro ⟨i, y, t, hi, ht, _⟩
  rcases o.ext y (List.mem_of_getElem? hi) with h1 | h1 <;> rw [h1] at ht <;> cases ht
end Go.Proofs.YtdbdmnhnijpdcaaDoorW.AI

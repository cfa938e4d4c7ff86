import Derived.Test.YtdpbbagllhfjbaaDoorAISem16
/-! Functions; calls. -/
namespace Go.Proofs.YtdpbbagllhfjbaaDoorW.AI
open Go
set_option linter.unusedVariables false
set_option linter.unusedSimpArgs false

section
variable {X : Ctx} {B : Nat} {ρg : Env} {gl : AHeap} {call : CallT}

theorem look_argsA : ∀ {vs : List AV} {i t : Nat}, look (argsA i vs) t = if i ≤ t then vs[t - i]? else none
  | [], i, t => by simp [argsA, look]
  | v :: vs, i, t => by
    simp only [argsA, look]
    by_cases h : i = t
    · subst h; simp
    · rw [if_neg h, look_argsA]
      by_cases h2 : i ≤ t
      · have h3 : i + 1 ≤ t := by omega
        rw [if_pos h3, if_pos h2]
        have : t - i = (t - (i + 1)) + 1 := by omega
        rw [this, List.getElem?_cons_succ]
      · rw [if_neg h2, if_neg (by omega)]

theorem abody_sound (hm : X.P.follows .mixedOrders = true) (hG : gl.length = X.G) (hcall : CallOk X B ρg gl call) (hsc : SteadyCall call) {n f : Nat} {m : MFunc} (hc : chkFunc X f m = true) {args : List AV} {h : AHeap} {r : AV × AHeap × List Nat} (hr : abody call n m args h = some r)
    {ρ : Env} {w : World} {xs : Array Value} (hst : St B ρg gl X.gid ρ h w) (hl : AV.lts h.length args = true) (hrs : Rs ρ args xs.toList) :
    Calls X.P f xs w fun e w' => ∃ x, e = .returned x ∧ Post X B ρg gl ρ h w r.1 r.2.1 x w' := by
  unfold chkFunc at hc
  split at hc
  case h_2 => cases hc
  rename_i fn hf
  simp only [Bool.and_eq_true] at hc
  obtain ⟨⟨hc1, hc2⟩, hc3⟩ := hc
  split at hc1
  case h_2 => cases hc1
  rename_i c hb
  simp only [abody, Option.bind_eq_some_iff] at hr
  obtain ⟨⟨e, a1, h1, ws1⟩, hx, hr⟩ := hr
  refine calls_of_wp hf hb (code_wp hm hG hcall hsc hc1 hx hst ?_ ?_)
  · refine ⟨by simp; omega, rfl, fun t v hv => ?_⟩
    rw [look_argsA, if_pos (Nat.zero_le _), Nat.sub_zero] at hv
    refine ⟨AV.lts_iff.1 hl v (List.mem_of_getElem? hv), ?_⟩
    obtain ⟨u, hu, hru⟩ := Rs_get hrs hv
    have hu' : xs[t]? = some u := by simpa using hu
    have hlt : t < xs.size := (Array.getElem?_eq_some_iff.1 hu').1
    have : (xs ++ Array.replicate (fn.ntmps - xs.size) undef).getD t undef = u := by
      simp only [Array.getD_eq_getD_getElem?]
      rw [Array.getElem?_append_left hlt, hu']; rfl
    rw [this]; exact hru
  · intro A' w' hR
    have fin : ∀ v, ares a1 h1 m.res = some v → r = (v, h1, ws1) → A'.defers = [] ∧ ∃ u, (results fn A'.tmps).run X.P w' = .ok u w' ∧ ∃ x, (Ending.returned u) = .returned x ∧ Post X B ρg gl ρ h w r.1 r.2.1 x w' := by
      intro v hv hrv
      subst hrv
      obtain ⟨ρ', ag, ha', hst', fr, hle⟩ := hR
      obtain ⟨u, k1, k2, k3⟩ := results_sound hst' hG ha' hc3 hv
      exact ⟨ha'.defers, u, k1, u, rfl, ρ', ag, k2, k3, hst', fr, hle⟩
    cases e
    · simp only [Option.map_eq_some_iff] at hr
      obtain ⟨v, hv, hrv⟩ := hr
      exact fin v hv hrv.symm
    · cases hr
    · simp only [Option.map_eq_some_iff] at hr
      obtain ⟨v, hv, hrv⟩ := hr
      exact fin v hv hrv.symm
    · cases hr

theorem trim_sound {ρ : Env} {h : AHeap} {w : World} {r : AV × AHeap × List Nat} {x : Value} {w' : World} (hst : St B ρg gl X.gid ρ h w) (hs : Steady h r.2.1 r.2.2) (hp : Post X B ρg gl ρ h w r.1 r.2.1 x w') :
    Post X B ρg gl ρ h w (trimR h.length r).1 (trimR h.length r).2.1 x w' := by
  unfold trimR
  split
  case isFalse => exact hp
  rename_i hc
  simp only [Bool.and_eq_true, List.all_eq_true] at hc
  obtain ⟨⟨c1, c2⟩, c3⟩ := hc
  obtain ⟨ρ', ag, hr, hl, hst', fr, hle⟩ := hp
  have hlen : (r.2.1.take h.length).length = h.length := by simp; omega
  have hget : ∀ (i : Nat) (y : ABlk), (r.2.1.take h.length)[i]? = some y → i < h.length ∧ r.2.1[i]? = some y := by
    intro i y hy
    have hi := (List.getElem?_eq_some_iff.1 hy).1
    rw [hlen] at hi
    rw [List.getElem?_take_of_lt hi] at hy
    exact ⟨hi, hy⟩
  refine ⟨ρ', ag, hr, by rw [hlen]; exact c1, ?_, ?_, by rw [hlen]; exact Nat.le_refl _⟩
  · refine ⟨?_, hst'.grep, hst'.gext, hst'.le, fun i hi => ?_, hst'.gpre⟩
    · refine ⟨fun i y hy hd => ?_, fun i y t hy ht => ?_, fun i y hy hd => hst'.rep.lies i y (hget i y hy).2 hd, fun i y o hy ht hz => hst'.rep.own i y o (hget i y hy).2 ht hz, fun i y hy ht hz => hst'.rep.ext i y (hget i y hy).2 ht hz,
        fun i j y z o hy hz hij => hst'.rep.sep i j y z o (hget i y hy).2 (hget j z hz).2 hij⟩
      · rw [hlen]
        obtain ⟨hi, hy'⟩ := hget i y hy
        by_cases hw : i ∈ r.2.2
        · have := c2 i hw
          rw [hy'] at this
          exact this
        · obtain ⟨y', g1, g2, g3⟩ := hs.2 i _ (List.getElem?_eq_getElem hi) hw
          rw [hy'] at g1; cases g1
          rw [g2]
          refine hst.rep.wf i _ (List.getElem?_eq_getElem hi) ?_
          intro hdd
          rcases g3 with g3 | ⟨t, g3⟩
          · exact hd (g3.trans hdd)
          · rw [hdd] at g3; cases g3
      · rw [hlen]
        have := c3 y (List.mem_of_getElem? hy)
        unfold oldIn at this
        rw [ht] at this
        simpa using this
    · obtain ⟨g1, g2⟩ := hst'.pre i hi
      obtain ⟨g3, _⟩ := hst.pre i hi
      exact ⟨by rw [hlen]; exact g3, g2⟩
  · exact ⟨fr.os, fr.tape, fr.output, fr.size, fr.keep, fun y hy => fr.fresh y (by
      obtain ⟨i, b, o, g1, g2, g3, g4⟩ := hy
      exact ⟨i, b, o, (hget i b g1).2, g2, g3, g4⟩), fun y hy => fr.face y (by
      obtain ⟨i, b, g1, g2, g3, g4⟩ := hy
      exact ⟨i, b, (hget i b g1).2, g2, g3, g4⟩)⟩

/-- The whole: whatever the interpreter answers is what the program's function answers. -/
theorem acall_both (C : Cfg) (hm : X.P.follows .mixedOrders = true) (hG : C.gl.length = X.G) (hmp : ∀ f m, C.mp f = some m → chkFunc X f m = true) (hp : ∀ f vs h r, C.prim f vs h = some (some r) → Steady h r.2.1 r.2.2)
    (hprim : ∀ f vs h r, C.prim f vs h = some (some r) → CallsOk X B ρg C.gl f vs h r ∨ RunsOk X B ρg C.gl f vs h r) : ∀ n (f : Nat) (vs : List AV) (h : AHeap) (r : AV × AHeap × List Nat), acall C n f vs h = some r → (C.prim f vs h = none → CallsOk X B ρg C.gl f vs h r) ∧ (CallsOk X B ρg C.gl f vs h r ∨ RunsOk X B ρg C.gl f vs h r)
  | 0 => fun f vs h r hr => by cases hr
  | n + 1 => fun f vs h r hr => by
    have ih : CallOk X B ρg C.gl (acall C n) := fun f vs h r e => (acall_both C hm hG hmp hp hprim n f vs h r e).2
    have hsc := acall_steady (C := C) hp n
    simp only [acall] at hr
    split at hr
    · rename_i r' hr'
      subst hr
      exact ⟨fun e => (by rw [e] at hr'; cases hr'), hprim f vs h r hr'⟩
    · split at hr
      · cases hr
      · rename_i m hfm
        have hck := hmp f m hfm
        have hcal : chkCallee X f = true := by
          unfold chkFunc at hck
          unfold chkCallee
          split at hck
          · rename_i fn hf
            simp only [Bool.and_eq_true] at hck
            split at hck
            · rename_i c hb
              have h2 := hck.1.2
              rw [hf]
              simp only [hb, h2]; rfl
            · exact absurd hck.1.1 (by simp)
          · cases hck
        have main : (Option.map (fun r => if m.trim = true then trimR h.length r else r) (abody (acall C n) n m vs h)) = some r → ∀ (ρ : Env) (w : World) (xs : Array Value), St B ρg C.gl X.gid ρ h w → AV.lts h.length vs = true → Rs ρ vs xs.toList →
            Calls X.P f xs w fun e w' => ∃ x, e = .returned x ∧ Post X B ρg C.gl ρ h w r.1 r.2.1 x w' := by
          intro hr ρ w xs hst hl hrs
          simp only [Option.map_eq_some_iff] at hr
          obtain ⟨r1, h1, rfl⟩ := hr
          refine Calls.mono (abody_sound hm hG ih hsc hck h1 hst hl hrs) fun e w' he => ?_
          obtain ⟨x, rfl, hpst⟩ := he
          refine ⟨x, rfl, ?_⟩
          split
          · exact trim_sound hst (abody_steady hsc h1) hpst
          · exact hpst
        have goal : CallsOk X B ρg C.gl f vs h r := by
          refine ⟨hcal, ?_⟩
          split at hr
          · rename_i h0
            simp only [Option.bind_eq_some_iff] at hr
            obtain ⟨r1, h1, hr⟩ := hr
            split at hr
            · rename_i hv0
              cases hr
              intro ρ w xs hst hl hrs
              have hg : St B ρg C.gl X.gid ρg C.gl w := ⟨hst.grep, hst.grep, hst.gext, hst.le, fun i hi => ⟨hi, (hst.gpre i hi).1, (hst.gpre i hi).2⟩, hst.gpre⟩
              have hnt : ∀ x, ¬ Tips ρg C.gl x := by
                rintro x ⟨i, y, o, g1, g2, _⟩
                rcases hst.gext i y g1 with h | h <;> rw [h] at g2 <;> cases g2
              refine Calls.mono (abody_sound hm hG ih hsc hck h1 hg (AV.lts_mono (Nat.zero_le _) _ h0) (Rs_agree (n := 0) (fun i hi => by omega) _ _ h0 hrs)) fun e w' he => ?_
              obtain ⟨x, rfl, ρ'', ag, hr', hl', hst', fr, hle⟩ := he
              have hkeep : ∀ b, b < w.heap.size → w'.heap[b]? = w.heap[b]? := fun b hb => fr.keep b hb (hnt b)
              refine ⟨x, rfl, ρ, Agree.refl _ _, R_agree (n := 0) (fun i hi => by omega) _ _ hv0 hr', AV.lt_mono (Nat.zero_le _) _ hv0, ?_, ⟨fr.os, fr.tape, fr.output, fr.size, fun b hb _ => hkeep b hb, fun _ h => Or.inr h, fun _ h => Or.inr h⟩, Nat.le_refl _⟩
              refine ⟨hst.rep.same fun i y hi hd hz => ?_, hst'.grep, hst.gext, Nat.le_trans hst.le fr.size, hst.pre, hst.gpre⟩
              obtain ⟨arr, T, fz, g1, _⟩ := (hst.rep.lies i y hi hd).2 hz
              exact hkeep _ (Array.getElem?_eq_some_iff.1 g1).1
            · exact main hr
          · exact main hr
        exact ⟨fun _ => goal, Or.inl goal⟩
theorem acall_sound (C : Cfg) (hm : X.P.follows .mixedOrders = true) (hG : C.gl.length = X.G) (hmp : ∀ f m, C.mp f = some m → chkFunc X f m = true) (hp : ∀ f vs h r, C.prim f vs h = some (some r) → Steady h r.2.1 r.2.2)
    (hprim : ∀ f vs h r, C.prim f vs h = some (some r) → CallsOk X B ρg C.gl f vs h r) (n : Nat) (f : Nat) (vs : List AV) (h : AHeap) (r : AV × AHeap × List Nat) (e : acall C n f vs h = some r) : CallsOk X B ρg C.gl f vs h r := by
  obtain ⟨h1, h2⟩ := acall_both C hm hG hmp hp (fun f vs h r e => Or.inl (hprim f vs h r e)) n f vs h r e
  cases hq : C.prim f vs h with
  | none => exact h1 hq
  | some q =>
    have : q = some r := by
      cases n with
      | zero => cases e
      | succ n =>
        simp only [acall, hq] at e
        exact e
    exact hprim f vs h r (by rw [hq, this])

end
end Go.Proofs.YtdpbbagllhfjbaaDoorW.AI

import Derived.Test.YtdpbbagllhfjbaaDoorAISem11
/-! What stays as it was; operations one after the other. -/
namespace Go.Proofs.YtdpbbagllhfjbaaDoorW.AI
open Go
set_option linter.unusedVariables false
set_option linter.unusedSimpArgs false

/-- Blocks outside ws keep their cells, and how they stand (but for elder faces). -/
def Steady (h h' : AHeap) (ws : List Nat) : Prop :=
  h.length ≤ h'.length ∧ ∀ (i : Nat) (x : ABlk), h[i]? = some x → i ∉ ws → ∃ x' : ABlk, h'[i]? = some x' ∧ x'.c = x.c ∧ (x'.st = x.st ∨ ∃ t, x.st = .old t)

theorem Steady.refl (h : AHeap) (ws : List Nat) : Steady h h ws := ⟨Nat.le_refl _, fun i x hi _ => ⟨x, hi, rfl, Or.inl rfl⟩⟩

theorem Steady.append (h k : AHeap) (ws : List Nat) : Steady h (h ++ k) ws :=
  ⟨by simp, fun i x hi _ => ⟨x, by rw [List.getElem?_append_left (List.getElem?_eq_some_iff.1 hi).1]; exact hi, rfl, Or.inl rfl⟩⟩

theorem Steady.trans {h h₁ h₂ : AHeap} {ws ws₁ ws₂ : List Nat} (a : Steady h h₁ ws) (b : Steady h₁ h₂ ws₁) (hw : ∀ i, i < h.length → i ∉ ws₂ → i ∉ ws ∧ i ∉ ws₁) : Steady h h₂ ws₂ := by
  refine ⟨Nat.le_trans a.1 b.1, fun i x hi hn => ?_⟩
  obtain ⟨n1, n2⟩ := hw i (List.getElem?_eq_some_iff.1 hi).1 hn
  obtain ⟨x', h1, h2, h3⟩ := a.2 i x hi n1
  obtain ⟨x'', k1, k2, k3⟩ := b.2 i x' h1 n2
  refine ⟨x'', k1, k2.trans h2, ?_⟩
  rcases h3 with h3 | h3
  · rcases k3 with k3 | ⟨t, k3⟩
    · exact Or.inl (k3.trans h3)
    · exact Or.inr ⟨t, h3 ▸ k3⟩
  · exact Or.inr h3

theorem mem_wadd {base i : Nat} (hi : i < base) : ∀ {new ws : List Nat}, i ∉ wadd base ws new → i ∉ ws ∧ i ∉ new := by
  intro new
  induction new with
  | nil => intro ws h; exact ⟨h, by simp⟩
  | cons b new ih =>
    intro ws h
    simp only [wadd, List.foldl_cons] at h
    obtain ⟨h1, h2⟩ := ih (ws := if b < base ∧ b ∉ ws then ws ++ [b] else ws) h
    split at h1
    · rename_i hc
      simp only [List.mem_append, List.mem_singleton, not_or] at h1
      exact ⟨h1.1, by simp only [List.mem_cons, not_or]; exact ⟨h1.2, h2⟩⟩
    · rename_i hc
      refine ⟨h1, ?_⟩
      simp only [List.mem_cons, not_or]
      refine ⟨fun e => ?_, h2⟩
      subst e
      exact hc ⟨hi, h1⟩

theorem Steady.kill (b : Nat) (h : AHeap) (ws : List Nat) : Steady h (kill b h) ws := by
  refine ⟨by simp [AI.kill], fun i x hi _ => ?_⟩
  refine ⟨_, by simp only [AI.kill, List.getElem?_map, hi, Option.map_some]; rfl, ?_, ?_⟩
  · split <;> rfl
  · split
    · rename_i hs; exact Or.inr ⟨b, hs⟩
    · exact Or.inl rfl

theorem Steady.reTip (b j : Nat) (h : AHeap) (ws : List Nat) : Steady h (reTip b j h) ws := by
  refine ⟨by simp [AI.reTip], fun i x hi _ => ?_⟩
  refine ⟨_, by simp only [AI.reTip, List.getElem?_map, hi, Option.map_some]; rfl, ?_, ?_⟩
  · split <;> rfl
  · split
    · rename_i hs; exact Or.inr ⟨b, hs⟩
    · exact Or.inl rfl

theorem Steady.set (b : Nat) (h : AHeap) (y : ABlk) : Steady h (h.set b y) [b] := by
  refine ⟨by simp, fun i x hi hn => ⟨x, ?_, rfl, Or.inl rfl⟩⟩
  simp only [List.mem_singleton] at hn
  rw [List.getElem?_set_ne (fun e => hn e.symm)]; exact hi

theorem change_steady {h h' : AHeap} {b : Nat} {f : ACells → Option ACells} (hc : change h b f = some h') : Steady h h' [b] := by
  unfold change at hc
  split at hc
  · simp only [Option.map_eq_some_iff] at hc
    obtain ⟨c', _, rfl⟩ := hc
    split
    · exact (Steady.kill b h []).trans (Steady.set b _ _) (fun i _ hn => ⟨by simp, hn⟩)
    · exact Steady.set b _ _
  · cases hc

theorem retip_steady (h : AHeap) (o : Bool) (b j : Nat) (y z : ABlk) : Steady h ((if o then reTip b j h else h).set b y ++ [z]) [b] := by
  have s1 : Steady h (if o then AI.reTip b j h else h) [] := by
    split
    · exact Steady.reTip _ _ _ _
    · exact Steady.refl _ _
  exact (s1.trans (Steady.set b _ y) (ws₂ := [b]) (fun i _ hn => ⟨by simp, hn⟩)).trans (Steady.append _ _ []) (fun i _ hn => ⟨hn, by simp⟩)

theorem aappend_steady {h : AHeap} {z : ACells} {bytes : Nat} {s : AV} {xs : ACells} {m : Nat} {r : AV × AHeap × List Nat} (hr : aappend h z bytes s xs m = some r) : Steady h r.2.1 r.2.2 := by
  unfold aappend at hr
  split at hr
  · split at hr
    · simp only [Option.some.injEq] at hr; subst hr; exact Steady.refl _ _
    · split at hr
      · simp only [Option.some.injEq] at hr; subst hr; exact Steady.append _ _ _
      · cases hr
  · split at hr
    · simp only [Option.map_eq_some_iff] at hr
      obtain ⟨h', h1, rfl⟩ := hr
      exact change_steady h1
    · simp only [Option.bind_eq_some_iff] at hr
      obtain ⟨_, _, _, _, hr⟩ := hr
      split at hr
      · simp only [Option.some.injEq] at hr; subst hr; exact Steady.append _ _ _
      · cases hr
  · split at hr
    · split at hr
      · split at hr
        · simp only [Option.bind_eq_some_iff] at hr
          obtain ⟨_, _, hr⟩ := hr
          split at hr
          · simp only [Option.some.injEq] at hr; subst hr
            exact retip_steady _ _ _ _ _ _
          · cases hr
        · cases hr
      · cases hr
    · cases hr
  · cases hr

def SteadyCall (call : CallT) : Prop := ∀ f vs h r, call f vs h = some r → Steady h r.2.1 r.2.2

theorem aop_steady {call : CallT} (hcall : SteadyCall call) {m : MOp} {a : Acts} {h : AHeap} {r : AV × AHeap × List Nat} (hr : aop call m a h = some r) : Steady h r.2.1 r.2.2 := by
  cases m <;> simp only [aop, Option.bind_eq_some_iff, Option.map_eq_some_iff] at hr
  case mv => obtain ⟨v, _, rfl⟩ := hr; exact Steady.refl _ _
  case pick =>
    obtain ⟨c, _, hr⟩ := hr
    split at hr
    · simp only [Option.map_eq_some_iff] at hr; obtain ⟨v, _, rfl⟩ := hr; exact Steady.refl _ _
    · simp only [Option.map_eq_some_iff] at hr; obtain ⟨v, _, rfl⟩ := hr; exact Steady.refl _ _
    · cases hr
  case bin => obtain ⟨_, _, _, _, _, _, rfl⟩ := hr; exact Steady.refl _ _
  case un => obtain ⟨_, _, _, _, rfl⟩ := hr; exact Steady.refl _ _
  case ci => obtain ⟨_, _, hr⟩ := hr; split at hr <;> cases hr; exact Steady.refl _ _
  case cid => obtain ⟨_, _, hr⟩ := hr; split at hr <;> cases hr; exact Steady.refl _ _
  case cstr =>
    obtain ⟨_, _, hr⟩ := hr
    split at hr
    · cases hr; exact Steady.refl _ _
    · simp only [Option.bind_eq_some_iff, Option.map_eq_some_iff] at hr; obtain ⟨_, _, _, _, rfl⟩ := hr; exact Steady.refl _ _
  case ld =>
    obtain ⟨_, _, hr⟩ := hr
    split at hr
    · simp only [Option.bind_eq_some_iff, Option.map_eq_some_iff] at hr; obtain ⟨_, _, _, _, rfl⟩ := hr; exact Steady.refl _ _
    · cases hr
  case st =>
    obtain ⟨_, _, _, _, hr⟩ := hr
    split at hr
    · split at hr
      · simp only [Option.map_eq_some_iff] at hr; obtain ⟨h', h1, rfl⟩ := hr; exact change_steady h1
      · cases hr
    · cases hr
  case fa => obtain ⟨_, _, hr⟩ := hr; split at hr <;> cases hr; exact Steady.refl _ _
  case fld =>
    obtain ⟨_, _, hr⟩ := hr
    split at hr
    · simp only [Option.map_eq_some_iff] at hr; obtain ⟨v, _, rfl⟩ := hr; exact Steady.refl _ _
    · cases hr
  case ixa =>
    obtain ⟨_, _, _, _, _, _, hr⟩ := hr
    split at hr
    · split at hr
      · simp only [Option.map_eq_some_iff] at hr; obtain ⟨v, _, rfl⟩ := hr; exact Steady.refl _ _
      · cases hr
    · cases hr
  case ixs =>
    obtain ⟨_, _, _, _, _, _, hr⟩ := hr
    split at hr
    · simp only [Option.map_eq_some_iff] at hr; obtain ⟨v, _, rfl⟩ := hr; exact Steady.refl _ _
    · cases hr
  case ia =>
    obtain ⟨_, _, _, _, _, _, hr⟩ := hr
    split at hr <;> first | (cases hr; done) | skip
    all_goals (split at hr <;> cases hr; exact Steady.refl _ _)
  case slc =>
    obtain ⟨_, _, _, _, _, _, _, _, hr⟩ := hr
    split at hr <;> first | (cases hr; done) | skip
    · simp only [Option.map_eq_some_iff] at hr; obtain ⟨v, _, rfl⟩ := hr; exact Steady.refl _ _
    · simp only [Option.bind_eq_some_iff] at hr
      obtain ⟨_, _, hr⟩ := hr
      split at hr
      · cases hr; exact Steady.refl _ _
      · split at hr <;> cases hr; exact Steady.refl _ _
    · simp only [Option.map_eq_some_iff] at hr; obtain ⟨v, _, rfl⟩ := hr; exact Steady.refl _ _
    · split at hr
      · split at hr
        · simp only [Option.map_eq_some_iff] at hr; obtain ⟨v, _, rfl⟩ := hr; exact Steady.refl _ _
        · split at hr
          · simp only [Option.map_eq_some_iff] at hr; obtain ⟨v, _, rfl⟩ := hr; exact Steady.refl _ _
          · cases hr
      · cases hr
  case slstr =>
    obtain ⟨_, _, _, _, _, _, hr⟩ := hr
    split at hr
    · simp only [Option.map_eq_some_iff] at hr; obtain ⟨v, _, rfl⟩ := hr; exact Steady.refl _ _
    · cases hr
  case al => cases hr; exact Steady.append _ _ _
  case bx => obtain ⟨_, _, _, _, hr⟩ := hr; split at hr <;> cases hr; exact Steady.append _ _ _
  case bld => obtain ⟨_, _, _, _, rfl⟩ := hr; exact Steady.refl _ _
  case bsl => obtain ⟨_, _, _, _, hr⟩ := hr; split at hr <;> cases hr; exact Steady.append _ _ _
  case mf => obtain ⟨_, _, rfl⟩ := hr; exact Steady.refl _ _
  case mks => obtain ⟨_, _, _, _, _, _, _, _, hr⟩ := hr; split at hr <;> cases hr; exact Steady.append _ _ _
  case ex =>
    obtain ⟨_, _, hr⟩ := hr
    split at hr
    · simp only [Option.map_eq_some_iff] at hr; obtain ⟨v, _, rfl⟩ := hr; exact Steady.refl _ _
    · cases hr
  case nc => obtain ⟨_, _, hr⟩ := hr; split at hr <;> cases hr <;> exact Steady.refl _ _
  case call => obtain ⟨_, _, hr⟩ := hr; exact hcall _ _ _ _ hr
  case calld =>
    obtain ⟨_, _, _, _, hr⟩ := hr
    split at hr
    · exact hcall _ _ _ _ hr
    · cases hr
  case len =>
    obtain ⟨_, _, hr⟩ := hr
    split at hr
    · cases hr; exact Steady.refl _ _
    · simp only [Option.map_eq_some_iff] at hr; obtain ⟨v, _, rfl⟩ := hr; exact Steady.refl _ _
  case lens => obtain ⟨_, _, hr⟩ := hr; split at hr <;> cases hr; exact Steady.refl _ _
  case mnx =>
    obtain ⟨_, _, hr⟩ := hr
    split at hr
    · cases hr
    · simp only [Option.map_eq_some_iff] at hr; obtain ⟨v, _, rfl⟩ := hr; exact Steady.refl _ _
  case app => obtain ⟨_, _, _, _, _, _, _, _, hr⟩ := hr; exact aappend_steady hr
  case appz =>
    obtain ⟨_, _, _, _, hr⟩ := hr
    split at hr
    · split at hr
      · exact aappend_steady hr
      · cases hr
    · cases hr
  case bad => cases hr
  case cpy =>
    obtain ⟨_, _, _, _, _, _, hr⟩ := hr
    split at hr
    · split at hr
      · split at hr
        · simp only [Option.map_eq_some_iff] at hr; obtain ⟨h', h1, rfl⟩ := hr; exact change_steady h1
        · cases hr
      · cases hr
    · simp only [Option.bind_eq_some_iff] at hr
      obtain ⟨_, _, _, _, hr⟩ := hr
      split at hr
      · simp only [Option.map_eq_some_iff] at hr; obtain ⟨h', h1, rfl⟩ := hr; exact change_steady h1
      · cases hr

theorem aoper_steady {call : CallT} (hcall : SteadyCall call) {o : MOper} {a : Acts} {h : AHeap} {r : AV × AHeap × List Nat} (hr : aoper call o a h = some r) : Steady h r.2.1 r.2.2 := by
  simp only [aoper, Option.bind_eq_some_iff] at hr
  obtain ⟨b, _, hr⟩ := hr
  cases b
  · cases hr; exact Steady.refl _ _
  · exact aop_steady hcall hr

theorem aops_steady {call : CallT} (hcall : SteadyCall call) {h₀ : AHeap} : ∀ {os : List MOper} {a : Acts} {h : AHeap} {ws : List Nat} {r : Acts × AHeap × List Nat}, Steady h₀ h ws → aops call h₀.length os a h ws = some r → Steady h₀ r.2.1 r.2.2
  | [], a, h, ws, r, hs, hr => by simp only [aops, Option.some.injEq] at hr; subst hr; exact hs
  | o :: os, a, h, ws, r, hs, hr => by
    simp only [aops, Option.bind_eq_some_iff] at hr
    obtain ⟨r1, h1, h2⟩ := hr
    exact aops_steady hcall (hs.trans (aoper_steady hcall h1) (fun i hi hn => mem_wadd hi hn)) h2

theorem aopsR_steady {call : CallT} (hcall : SteadyCall call) {h₀ : AHeap} : ∀ {os : List (Nat × MOper)} {a : Acts} {h : AHeap} {ws : List Nat} {rs : List Rec} {r : Acts × AHeap × List Nat × List Rec}, Steady h₀ h ws → aopsR call h₀.length os a h ws rs = some r → Steady h₀ r.2.1 r.2.2.1
  | [], a, h, ws, rs, r, hs, hr => by simp only [aopsR, Option.some.injEq] at hr; subst hr; exact hs
  | (_, o) :: os, a, h, ws, rs, r, hs, hr => by
    simp only [aopsR, Option.bind_eq_some_iff] at hr
    obtain ⟨r1, h1, h2⟩ := hr
    exact aopsR_steady hcall (hs.trans (aoper_steady hcall h1) (fun i hi hn => mem_wadd hi hn)) h2

theorem aexec_steady {call : CallT} (hcall : SteadyCall call) {h₀ : AHeap} {n : Nat} : ∀ {m : MCode} {a : Acts} {h : AHeap} {ws : List Nat} {r : AOut}, Steady h₀ h ws → aexec call h₀.length n m a h ws = some r → Steady h₀ r.2.2.1 r.2.2.2
  | .skip, a, h, ws, r, hs, hr => by simp only [aexec, Option.some.injEq] at hr; subst hr; exact hs
  | .reg ops, a, h, ws, r, hs, hr => by
    simp only [aexec, Option.map_eq_some_iff] at hr
    obtain ⟨r1, h1, rfl⟩ := hr
    exact aops_steady hcall hs h1
  | .regd ops un, a, h, ws, r, hs, hr => by
    simp only [aexec, Option.bind_eq_some_iff] at hr
    obtain ⟨r1, h1, hr⟩ := hr
    split at hr <;> cases hr
    exact aopsR_steady hcall hs h1
  | .seq x y, a, h, ws, r, hs, hr => by
    simp only [aexec, Option.bind_eq_some_iff] at hr
    obtain ⟨r1, h1, hr⟩ := hr
    have s1 := aexec_steady hcall hs h1
    split at hr
    · exact aexec_steady hcall s1 hr
    · cases hr; exact s1
  | .cond c x y, a, h, ws, r, hs, hr => by
    simp only [aexec, Option.bind_eq_some_iff] at hr
    obtain ⟨v, _, hr⟩ := hr
    split at hr
    · exact aexec_steady hcall hs hr
    · exact aexec_steady hcall hs hr
    · cases hr
  | .block id keep body, a, h, ws, r, hs, hr => by
    simp only [aexec, Option.bind_eq_some_iff] at hr
    obtain ⟨r1, h1, hr⟩ := hr
    have s1 := aexec_steady hcall hs h1
    split at hr
    · cases hr; exact s1
    · split at hr <;> cases hr <;> exact s1
    · cases hr; exact s1
  | .loop keep body, a, h, ws, r, hs, hr => by
    simp only [aexec] at hr
    have : ∀ k a h ws, Steady h₀ h ws → iter (aexec call h₀.length n body) keep k a h ws = some r → Steady h₀ r.2.2.1 r.2.2.2 := by
      intro k
      induction k with
      | zero => intro a h ws _ hr; cases hr
      | succ k ih =>
        intro a h ws hs hr
        simp only [iter, Option.bind_eq_some_iff] at hr
        obtain ⟨r1, h1, hr⟩ := hr
        have s1 := aexec_steady hcall hs h1
        split at hr
        · exact ih _ _ _ s1 hr
        · cases hr; exact s1
    exact this n a h ws hs hr
  | .exit id, a, h, ws, r, hs, hr => by simp only [aexec, Option.some.injEq] at hr; subst hr; exact hs
  | .ret, a, h, ws, r, hs, hr => by simp only [aexec, Option.some.injEq] at hr; subst hr; exact hs
  | .goto l, a, h, ws, r, hs, hr => by simp only [aexec, Option.some.injEq] at hr; subst hr; exact hs
  | .scope keep l1 r1 l2 r2 body, a, h, ws, r, hs, hr => by
    simp only [aexec] at hr
    have key : ∀ k (o : Option AOut), (∀ r', o = some r' → Steady h₀ r'.2.2.1 r'.2.2.2) → giter (aexec call h₀.length n r1) (aexec call h₀.length n r2) keep l1 l2 k o = some r → Steady h₀ r.2.2.1 r.2.2.2 := by
      intro k
      induction k with
      | zero => intro o _ hr; cases hr
      | succ k ih =>
        intro o ho hr
        simp only [giter, Option.bind_eq_some_iff] at hr
        obtain ⟨r', h1, hr⟩ := hr
        have s1 := ho r' h1
        split at hr
        · split at hr
          · exact ih _ (fun r2 h2 => aexec_steady hcall s1 h2) hr
          · split at hr
            · exact ih _ (fun r2 h2 => aexec_steady hcall s1 h2) hr
            · cases hr
        · cases hr; exact s1
    exact key n _ (fun r' h1 => aexec_steady hcall hs h1) hr

theorem abody_steady {call : CallT} (hcall : SteadyCall call) {n : Nat} {m : MFunc} {args : List AV} {h : AHeap} {r : AV × AHeap × List Nat} (hr : abody call n m args h = some r) : Steady h r.2.1 r.2.2 := by
  simp only [abody, Option.bind_eq_some_iff] at hr
  obtain ⟨r1, h1, hr⟩ := hr
  have s1 := aexec_steady hcall (Steady.refl h []) h1
  split at hr
  · cases hr
  · cases hr
  · simp only [Option.map_eq_some_iff] at hr
    obtain ⟨v, _, rfl⟩ := hr
    exact s1

theorem trimR_steady {h : AHeap} {r : AV × AHeap × List Nat} (hs : Steady h r.2.1 r.2.2) : Steady h (trimR h.length r).2.1 (trimR h.length r).2.2 := by
  unfold trimR
  split
  · refine ⟨by have := hs.1; simp; omega, fun i x hi hn => ?_⟩
    obtain ⟨x', h1, h2⟩ := hs.2 i x hi hn
    exact ⟨x', by rw [List.getElem?_take_of_lt (List.getElem?_eq_some_iff.1 hi).1]; exact h1, h2⟩
  · exact hs

theorem acall_steady {C : Cfg} (hp : ∀ f vs h r, C.prim f vs h = some (some r) → Steady h r.2.1 r.2.2) : ∀ n, SteadyCall (acall C n)
  | 0 => fun f vs h r hr => by cases hr
  | n + 1 => fun f vs h r hr => by
    simp only [acall] at hr
    split at hr
    · rename_i r' hr'
      subst hr
      exact hp f vs h r hr'
    · split at hr
      · cases hr
      · rename_i m _
        have main : (Option.map (fun r => if m.trim = true then trimR h.length r else r) (abody (acall C n) n m vs h)) = some r → Steady h r.2.1 r.2.2 := by
          intro hr
          simp only [Option.map_eq_some_iff] at hr
          obtain ⟨r1, h1, rfl⟩ := hr
          have s1 := abody_steady (acall_steady hp n) h1
          split
          · exact trimR_steady s1
          · exact s1
        split at hr
        · simp only [Option.bind_eq_some_iff] at hr
          obtain ⟨r1, h1, hr⟩ := hr
          split at hr
          · cases hr; exact Steady.refl _ _
          · exact main hr
        · exact main hr

end Go.Proofs.YtdpbbagllhfjbaaDoorW.AI

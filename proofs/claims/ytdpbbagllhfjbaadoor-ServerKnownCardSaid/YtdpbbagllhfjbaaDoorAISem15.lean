import Derived.Test.YtdpbbagllhfjbaaDoorAISem14
/-! The checker of drawn regions; code. -/
namespace Go.Proofs.YtdpbbagllhfjbaaDoorW.AI
open Go
set_option linter.unusedVariables false
set_option linter.unusedSimpArgs false

section
variable (X : Ctx) (nt : Nat) (ops : Array Oper)

def posOf : List (Nat × MOper) → Nat → Option Nat
  | [], _ => none
  | (j, _) :: E, i => if j = i then some 0 else (posOf E i).map (· + 1)

def ancOf (E : List (Nat × MOper)) (acc : List (List Nat)) (o : Oper) : List Nat :=
  o.after.toList.foldl (fun s e => if Region.binds .any e then match posOf E e.on with
    | some j => (j :: (acc[j]?).getD []).foldl (fun s x => if s.contains x then s else x :: s) s
    | none => s else s) []

def ancsFrom (E : List (Nat × MOper)) : List (Nat × MOper) → List (List Nat) → List (List Nat)
  | [], acc => acc
  | (i, _) :: rest, acc => ancsFrom E rest (acc ++ [match ops[i]? with | some o => ancOf E acc o | none => []])

def getBs (bs : List (List Nat)) (k : Nat) : List Nat := (bs[k]?).getD []

def justB (E : List (Nat × MOper)) (bs : List (List Nat)) (o : Oper) (j : Nat) : Bool :=
  o.after.any fun e => Region.binds .any e && (match posOf E e.on with | some j' => j' == j || (getBs bs j').contains j | none => false)

def oneB (E : List (Nat × MOper)) (bs : List (List Nat)) (k : Nat) : Bool :=
  match E[k]? with
  | some (i, m) => match ops[i]? with
    | some o => m.op.okx X.G && chkOper X nt ops o m && m.rds.all (fun t => (o.looksAt ops).contains t) && (getBs bs k).all (fun j => decide (j < k) && justB E bs o j) &&
        o.after.all (fun e => !Region.binds .any e || match posOf E e.on with | some j => decide (j < k) | none => false)
    | none => false
  | none => false

def pairB (E : List (Nat × MOper)) (un : List (Nat × Nat)) (j k : Nat) : Bool :=
  match E[j]?, E[k]? with
  | some (i, m), some (i', m') => match ops[i]?, ops[i']? with
    | some o, some o' => o.apart ops o' && !(m.op.heap && m'.op.actor) && (!(m.op.reads && m'.op.actor) || un.contains (j, k)) && (!(m.op.actor && m'.op.reads) || un.contains (k, j))
    | _, _ => false
  | _, _ => false

def chkDrawnW (E : List (Nat × MOper)) (un : List (Nat × Nat)) (bs : List (List Nat)) : Bool :=
  decide (E.length = ops.size) && decide (E.map (·.1)).Nodup && (List.range ops.size).all (fun i => (posOf E i).isSome) &&
  (List.range E.length).all (fun k => oneB X nt ops E bs k) &&
  (List.range E.length).all (fun k => (List.range k).all fun j => (getBs bs k).contains j || pairB ops E un j k)

def chkDrawn (E : List (Nat × MOper)) (un : List (Nat × Nat)) : Bool := chkDrawnW X nt ops E un (ancsFrom ops E E [])
end

theorem posOf_spec : ∀ {E : List (Nat × MOper)} {i k : Nat}, posOf E i = some k → ∃ m, E[k]? = some (i, m)
  | [], _, _, h => by cases h
  | (j, m) :: E, i, k, h => by
    simp only [posOf] at h
    split at h
    · rename_i hj; subst hj; cases h; exact ⟨m, rfl⟩
    · simp only [Option.map_eq_some_iff] at h
      obtain ⟨k', h1, rfl⟩ := h
      obtain ⟨m', h2⟩ := posOf_spec h1
      exact ⟨m', by simpa using h2⟩

def exAt (E : List (Nat × MOper)) (k : Nat) : Nat × MOper := (E[k]?).getD (0, ⟨none, .bad, none⟩)

section
variable {X : Ctx} {B : Nat} {ρg : Env} {gl : AHeap} {nt : Nat} {call : CallT} {ops : Array Oper}

theorem chkDrawnW_sound {E : List (Nat × MOper)} {un : List (Nat × Nat)} {bs : List (List Nat)} (h : chkDrawnW X nt ops E un bs = true) :
    Drawn X nt ops E.length (fun k => (exAt E k).1) (fun k => (exAt E k).2) (fun k => (ops[(exAt E k).1]?).getD default) (getBs bs) (fun j q => (j, q) ∈ un) ∧ ∀ k, k < E.length → ∀ j ∈ getBs bs k, j < E.length := by
  simp only [chkDrawnW, Bool.and_eq_true, decide_eq_true_eq, List.all_eq_true, List.mem_range] at h
  obtain ⟨⟨⟨⟨h1, h2⟩, h3⟩, h4⟩, h5⟩ := h
  have hex : ∀ k, k < E.length → E[k]? = some (exAt E k) := fun k hk => by unfold exAt; rw [List.getElem?_eq_getElem hk]; rfl
  have one : ∀ k, k < E.length → ∃ o, ops[(exAt E k).1]? = some o ∧ (exAt E k).2.op.okx X.G = true ∧ chkOper X nt ops o (exAt E k).2 = true ∧ (∀ t ∈ (exAt E k).2.rds, t ∈ o.looksAt ops) ∧ (∀ j ∈ getBs bs k, j < k ∧ justB E bs o j = true) ∧
      (∀ e ∈ o.after, Region.binds .any e = true → ∃ j, j < k ∧ posOf E e.on = some j) := by
    intro k hk
    have := h4 k hk
    unfold oneB at this
    rw [hex k hk] at this
    simp only at this
    split at this
    case h_2 => cases this
    rename_i o ho
    simp only [Bool.and_eq_true, List.all_eq_true, List.contains_iff_mem, Array.all_eq_true_iff_forall_mem, decide_eq_true_eq] at this
    obtain ⟨⟨⟨⟨g0, g1⟩, g2⟩, g3⟩, g4⟩ := this
    refine ⟨o, ho, g0, g1, g2, g3, fun e he hb => ?_⟩
    have := g4 e he
    rw [hb] at this
    simp only [Bool.not_true, Bool.false_or] at this
    split at this
    · exact ⟨_, by simpa using this, by assumption⟩
    · cases this
  have hat : ∀ {i j}, posOf E i = some j → j < E.length ∧ (exAt E j).1 = i := by
    intro i j hp
    obtain ⟨m, hm⟩ := posOf_spec hp
    have hlt := (List.getElem?_eq_some_iff.1 hm).1
    rw [hex j hlt, Option.some.injEq] at hm
    exact ⟨hlt, by rw [hm]⟩
  refine ⟨⟨fun k hk => ?_, fun j k hj hk he => ?_, fun i hi => ?_, fun k hk => ?_, fun k hk => ?_, fun k hk j hj => ?_, fun k hk e he hb => ?_, fun k hk => ?_, fun j k hjk hk => ?_⟩, fun k hk j hj => ?_⟩
  · obtain ⟨o, ho, _⟩ := one k hk
    show ops[(exAt E k).1]? = some ((ops[(exAt E k).1]?).getD default)
    rw [ho]; rfl
  · have hj1 : (E.map (·.1))[j]? = some (exAt E j).1 := by rw [List.getElem?_map, hex j hj]; rfl
    have hk1 : (E.map (·.1))[k]? = some (exAt E k).1 := by rw [List.getElem?_map, hex k hk]; rfl
    have he' : (exAt E j).1 = (exAt E k).1 := he
    exact (List.getElem?_inj (by simpa using hj) h2).1 (by rw [hj1, hk1, he'])
  · have := h3 i hi
    rw [Option.isSome_iff_exists] at this
    obtain ⟨k, hk⟩ := this
    obtain ⟨g1, g2⟩ := hat hk
    exact ⟨k, g1, g2⟩
  · obtain ⟨o, ho, _, g1, _⟩ := one k hk
    show chkOper X nt ops ((ops[(exAt E k).1]?).getD default) _ = true
    rw [ho]; exact g1
  · obtain ⟨o, ho, _, _, g1, _⟩ := one k hk
    show ∀ t ∈ _, t ∈ ((ops[(exAt E k).1]?).getD default).looksAt ops
    rw [ho]; exact g1
  · obtain ⟨o, ho, _, _, _, g1, _⟩ := one k hk
    show ∃ e ∈ ((ops[(exAt E k).1]?).getD default).after, _
    rw [ho]
    have := (g1 j hj).2
    obtain ⟨e, he, hb⟩ := Array.any_eq_true'.1 this
    simp only [Bool.and_eq_true] at hb
    refine ⟨e, he, hb.1, ?_⟩
    have hb2 := hb.2
    split at hb2
    · rename_i j' hp
      obtain ⟨q1, q2⟩ := hat hp
      simp only [Bool.or_eq_true, beq_iff_eq, List.contains_iff_mem] at hb2
      exact ⟨j', q1, q2, hb2⟩
    · cases hb2
  · obtain ⟨o, ho, _, _, _, _, g1⟩ := one k hk
    have he' : e ∈ o.after := by
      have he2 : e ∈ ((ops[(exAt E k).1]?).getD default).after := he
      rw [ho] at he2; exact he2
    obtain ⟨j, q1, q2⟩ := g1 e he' hb
    exact ⟨j, q1, (hat q2).2⟩
  · obtain ⟨o, ho, g0, _⟩ := one k hk
    exact g0
  · have := h5 k hk j hjk
    simp only [Bool.or_eq_true, List.contains_iff_mem] at this
    rcases this with h | h
    · exact Or.inl h
    · refine Or.inr ?_
      obtain ⟨o, ho, _⟩ := one k hk
      obtain ⟨o', ho', _⟩ := one j (by omega)
      unfold pairB at h
      rw [hex k hk, hex j (by omega)] at h
      simp only at h
      rw [ho, ho'] at h
      simp only [Bool.and_eq_true, Bool.or_eq_true, Bool.not_eq_true', List.contains_iff_mem, Bool.and_eq_false_iff] at h
      obtain ⟨⟨⟨q1, q2⟩, q3⟩, q4⟩ := h
      show ((ops[(exAt E j).1]?).getD default).apart ops ((ops[(exAt E k).1]?).getD default) = true ∧ _
      rw [ho, ho']
      refine ⟨q1, ?_, ?_, ?_⟩
      · rintro ⟨a1, a2⟩; rcases q2 with q2 | q2
        · rw [a1] at q2; cases q2
        · rw [a2] at q2; cases q2
      · intro a1 a2; rcases q3 with (q3 | q3) | q3
        · rw [a1] at q3; cases q3
        · rw [a2] at q3; cases q3
        · exact q3
      · intro a1 a2; rcases q4 with (q4 | q4) | q4
        · rw [a1] at q4; cases q4
        · rw [a2] at q4; cases q4
        · exact q4
  · obtain ⟨o, ho, _, _, _, g1, _⟩ := one k hk
    have := (g1 j hj).1
    omega

theorem aopsR_run {base : Nat} : ∀ {E : List (Nat × MOper)} {a : Acts} {h : AHeap} {ws : List Nat} {rs₀ : List Rec} {r : Acts × AHeap × List Nat × List Rec}, aopsR call base E a h ws rs₀ = some r →
    ∃ (as : Nat → Acts) (hs : Nat → AHeap) (vs : Nat → AV) (wss : Nat → List Nat), as 0 = a ∧ hs 0 = h ∧ as E.length = r.1 ∧ hs E.length = r.2.1 ∧
      (∀ k i m, E[k]? = some (i, m) → aoper call m (as k) (hs k) = some (vs k, hs (k + 1), wss k) ∧ as (k + 1) = putA (as k) m.dst (vs k) ∧ r.2.2.2[rs₀.length + k]? = some (recOf m (as k) (hs k) (wss k) (hs (k + 1)).length)) ∧
      (∀ j, j < rs₀.length → r.2.2.2[j]? = rs₀[j]?)
  | [], a, h, ws, rs₀, r, hr => by
    simp only [aopsR, Option.some.injEq] at hr; subst hr
    exact ⟨fun _ => a, fun _ => h, fun _ => .any, fun _ => [], rfl, rfl, rfl, rfl, fun k i m hk => by simp at hk, fun j hj => rfl⟩
  | (i, m) :: E, a, h, ws, rs₀, r, hr => by
    simp only [aopsR, Option.bind_eq_some_iff] at hr
    obtain ⟨⟨v, h1, ws1⟩, e1, e2⟩ := hr
    obtain ⟨as, hs, vs, wss, g1, g2, g3, g4, g5, g6⟩ := aopsR_run e2
    refine ⟨fun k => match k with | 0 => a | k + 1 => as k, fun k => match k with | 0 => h | k + 1 => hs k, fun k => match k with | 0 => v | k + 1 => vs k, fun k => match k with | 0 => ws1 | k + 1 => wss k, rfl, rfl, g3, g4, ?_, ?_⟩
    · intro k i' m' hk
      cases k with
      | zero =>
        simp only [List.getElem?_cons_zero, Option.some.injEq, Prod.mk.injEq] at hk
        obtain ⟨rfl, rfl⟩ := hk
        simp only [g1, g2]
        refine ⟨e1, trivial, ?_⟩
        have := g6 rs₀.length (by simp)
        simp only [Nat.add_zero]
        rw [this]; simp
      | succ k =>
        obtain ⟨q1, q2, q3⟩ := g5 k i' m' (by simpa using hk)
        refine ⟨q1, q2, ?_⟩
        have : rs₀.length + (k + 1) = (rs₀ ++ [recOf m a h ws1 h1.length]).length + k := by simp; omega
        rw [this]; exact q3
    · intro j hj
      rw [g6 j (by simp; omega), List.getElem?_append_left hj]

theorem drawn_run {base : Nat} {E : List (Nat × MOper)} {un : List (Nat × Nat)} {a : Acts} {h : AHeap} {ws : List Nat} {r : Acts × AHeap × List Nat × List Rec} (hr : aopsR call base E a h ws [] = some r) (hu : apartR r.2.2.2 un = true) :
    ∃ (as : Nat → Acts) (hs : Nat → AHeap) (vs : Nat → AV) (wss : Nat → List Nat), as 0 = a ∧ hs 0 = h ∧ as E.length = r.1 ∧ hs E.length = r.2.1 ∧ RunD call E.length (fun k => (exAt E k).2) as hs vs wss (fun j q => (j, q) ∈ un) := by
  obtain ⟨as, hs, vs, wss, g1, g2, g3, g4, g5, _⟩ := aopsR_run hr
  have hex : ∀ k, k < E.length → E[k]? = some (exAt E k) := fun k hk => by unfold exAt; rw [List.getElem?_eq_getElem hk]; rfl
  have hst : ∀ k, k < E.length → _ := fun k hk => g5 k (exAt E k).1 (exAt E k).2 (hex k hk)
  refine ⟨as, hs, vs, wss, g1, g2, g3, g4, ⟨fun k hk => ⟨(hst k hk).1, (hst k hk).2.1⟩, fun j q hjq hj hq b hb => ?_⟩⟩
  have hrj := (hst j hj).2.2
  have hrq := (hst q hq).2.2
  simp only [List.length_nil, Nat.zero_add] at hrj hrq
  simp only [apartR, List.all_eq_true] at hu
  have := hu (j, q) hjq
  simp only [hrj, hrq, hb, Bool.and_eq_true, Bool.not_eq_true', List.contains_eq_mem, decide_eq_false_iff_not, Bool.and_eq_false_iff, decide_eq_true_eq] at this
  obtain ⟨⟨t1, t2⟩, t3⟩ := this
  have hst' : (recOf (exAt E j).2 (as j) (hs j) (wss j) (hs (j + 1)).length).st = faceOk (hs j) b := by
    unfold recOf at hb ⊢
    by_cases hg : guardOf (as j) (exAt E j).2.guard = some true
    · rw [if_pos hg] at hb ⊢
      cases hrb : readB (exAt E j).2.op (as j) with
      | none => rw [hrb] at hb; cases hb
      | some b' => rw [hrb] at hb; cases hb; rfl
    · rw [if_neg hg] at hb; cases hb
  rw [hst'] at t1
  have e := (hst q hq).1
  -- a guard that says no: nothing was done
  by_cases hgd : guardOf (as q) (exAt E q).2.guard = some true
  · have hw : (recOf (exAt E q).2 (as q) (hs q) (wss q) (hs (q + 1)).length).ws = wss q ∧ (recOf (exAt E q).2 (as q) (hs q) (wss q) (hs (q + 1)).length).lo = (hs q).length ∧ (recOf (exAt E q).2 (as q) (hs q) (wss q) (hs (q + 1)).length).hi = (hs (q + 1)).length := by
      unfold recOf
      rw [if_pos hgd]
      split <;> exact ⟨rfl, rfl, rfl⟩
    rw [hw.1] at t2
    rw [hw.2.1, hw.2.2] at t3
    exact ⟨t1, t2, fun ⟨u1, u2⟩ => by rcases t3 with t3 | t3; exact t3 u1; exact t3 u2⟩
  · simp only [aoper, Option.bind_eq_some_iff] at e
    obtain ⟨g, hg, e⟩ := e
    cases g
    · simp only [Option.some.injEq, Prod.mk.injEq] at e
      obtain ⟨_, e2, e3⟩ := e
      refine ⟨t1, by rw [← e3]; simp, ?_⟩
      rw [← e2]
      omega
    · exact absurd hg hgd

theorem St.drawn {ρ : Env} {h : AHeap} {w : World} (hst : St B ρg gl X.gid ρ h w) (k : Nat) : St B ρg gl X.gid ρ h { w with drawn := k } :=
  ⟨hst.rep.same fun _ _ _ _ _ => rfl, hst.grep.same fun _ _ _ _ _ => rfl, hst.gext, hst.le, hst.pre, hst.gpre⟩

theorem drawn_wp (hm : X.P.follows .mixedOrders = true) (hG : gl.length = X.G) (hcall : CallOk X B ρg gl call) (hsc : SteadyCall call) {base : Nat} {E : List (Nat × MOper)} {un : List (Nat × Nat)} (hc : chkDrawn X nt ops E un = true) {a : Acts} {h : AHeap} {ws : List Nat} {r : Acts × AHeap × List Nat × List Rec}
    (hr : aopsR call base E a h ws [] = some r) (hu : apartR r.2.2.2 un = true) {ρ : Env} {w : World} {A : Act} (hst : St B ρg gl X.gid ρ h w) (ha : AR ρ h.length nt a A) {Q : Exit → Act → World → Prop} (hQ : ∀ A' w', Reach X B ρg gl nt ρ h w r.1 r.2.1 A' w' → Q .normal A' w') {id : Nat} :
    (Code.region id ops true).wp X.P Q A w := by
  refine wp_region_any hm ?_
  obtain ⟨D, hbs⟩ := chkDrawnW_sound hc
  obtain ⟨as, hs, vs, wss, g1, g2, g3, g4, rd⟩ := drawn_run hr hu
  subst g1; subst g2
  have hn : E.length = ops.size := by
    simp only [chkDrawn, chkDrawnW, Bool.and_eq_true, decide_eq_true_eq] at hc
    exact hc.1.1.1.1
  have hnex : ∀ k, ¬ exOf E.length (fun k => (exAt E k).1) (Array.replicate ops.size false) k := by
    rintro k ⟨_, h2⟩
    simp only [Array.getD_eq_getD_getElem?, Array.getElem?_replicate] at h2
    split at h2 <;> simp at h2
  have hmono : (hs 0).length ≤ (hs E.length).length := by have := rd.length hsc (j := 0) E.length (by omega); rwa [Nat.zero_add] at this
  refine drawn_any (ρ₀ := ρ) (w₀ := w) hG hcall hsc rd D hbs (fun A' w' hR => hQ A' w' (by rw [← g3, ← g4]; exact hR)) ops.size _ 0 (hs 0 ++ List.replicate ((hs E.length).length - (hs 0).length) deadB) ρ A _ (by simp) (Nat.le_trans (List.length_filter_le _ _) (by simp [hn])) ?_
  have hdd : ∀ (i : Nat) (x : ABlk), (hs 0 ++ List.replicate ((hs E.length).length - (hs 0).length) deadB)[i]? = some x → x.st ≠ .dead → (hs 0).length ≤ i → False := by
    intro i x hx hd hi
    rw [List.getElem?_append_right hi] at hx
    have := List.mem_of_getElem? hx
    rw [List.mem_replicate] at this
    exact hd (by rw [this.2]; rfl)
  refine ⟨fun k j _ he _ => absurd he (hnex k), fun k _ _ hk => by omega, fun k _ _ _ he => hnex k he, Nat.zero_le _, ?_, by simp; omega, fun i hi => List.getElem?_append_left hi, fun k _ he => absurd he (hnex k), fun i x h1 h2 h3 => (hdd i x h1 h2 h3).elim, fun i x h1 h2 h3 => (hdd i x h1 h2 h3).elim,
    fun q hq => by have : q = 0 := by omega
                   subst this; exact hst.rep.wfh, (hst.drawn _).pad _, Agree.refl _ _, ⟨rfl, rfl, rfl, Nat.le_refl _, fun _ _ _ => rfl, (Fr.pad (w := w) _).fresh, (Fr.pad (w := w) _).face⟩, ha.defers, ha.size,
    fun k _ he => absurd he (hnex k), fun k t _ he => absurd he (hnex k), fun t v _ hv => ha.get t v hv⟩
  rcases Nat.eq_zero_or_pos gl.length with h0 | h0
  · omega
  · have := (hst.pre (gl.length - 1) (by omega)).1; omega

end
end Go.Proofs.YtdpbbagllhfjbaaDoorW.AI

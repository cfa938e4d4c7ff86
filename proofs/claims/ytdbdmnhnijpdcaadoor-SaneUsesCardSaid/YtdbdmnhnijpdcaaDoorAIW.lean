import Derived.Test.YtdbdmnhnijpdcaaDoorAISem18
import Derived.IntWalk
/-! The interpreter without fuel: equations to walk by. -/
namespace Go.Proofs.YtdbdmnhnijpdcaaDoorW.AI
open Go
set_option linter.unusedVariables false
set_option linter.unusedSimpArgs false

def Sub (f g : CallT) : Prop := ∀ x vs h r, f x vs h = some r → g x vs h = some r

theorem Sub.refl (f : CallT) : Sub f f := fun _ _ _ _ h => h
theorem Sub.trans {f g k : CallT} (a : Sub f g) (b : Sub g k) : Sub f k := fun _ _ _ _ h => b _ _ _ _ (a _ _ _ _ h)

theorem aop_sub {f g : CallT} (hs : Sub f g) {o : MOp} {a : Acts} {h : AHeap} {r} (e : aop f o a h = some r) : aop g o a h = some r := by
  cases o <;> first
    | exact e
    | (simp only [aop, Option.bind_eq_some_iff] at e ⊢
       obtain ⟨vs, h1, h2⟩ := e
       exact ⟨vs, h1, hs _ _ _ _ h2⟩)
    | (simp only [aop, Option.bind_eq_some_iff] at e ⊢
       obtain ⟨x, h0, vs, h1, h2⟩ := e
       refine ⟨x, h0, vs, h1, ?_⟩
       split at h2
       · exact hs _ _ _ _ h2
       · cases h2)

theorem aoper_sub {f g : CallT} (hs : Sub f g) {o : MOper} {a : Acts} {h : AHeap} {r} (e : aoper f o a h = some r) : aoper g o a h = some r := by
  unfold aoper at e ⊢
  simp only [Option.bind_eq_some_iff] at e ⊢
  obtain ⟨b, h1, h2⟩ := e
  refine ⟨b, h1, ?_⟩
  cases b
  · exact h2
  · exact aop_sub hs h2

theorem aops_sub {f g : CallT} (hs : Sub f g) {base : Nat} : ∀ {os : List MOper} {a : Acts} {h : AHeap} {ws : List Nat} {r}, aops f base os a h ws = some r → aops g base os a h ws = some r
  | [], a, h, ws, r, e => e
  | o :: os, a, h, ws, r, e => by
    simp only [aops, Option.bind_eq_some_iff] at e ⊢
    obtain ⟨x, h1, h2⟩ := e
    exact ⟨x, aoper_sub hs h1, aops_sub hs h2⟩

theorem aopsR_sub {f g : CallT} (hs : Sub f g) {base : Nat} : ∀ {os : List (Nat × MOper)} {a : Acts} {h : AHeap} {ws : List Nat} {rs : List Rec} {r}, aopsR f base os a h ws rs = some r → aopsR g base os a h ws rs = some r
  | [], a, h, ws, rs, r, e => e
  | (_, o) :: os, a, h, ws, rs, r, e => by
    simp only [aopsR, Option.bind_eq_some_iff] at e ⊢
    obtain ⟨x, h1, h2⟩ := e
    exact ⟨x, aoper_sub hs h1, aopsR_sub hs h2⟩

abbrev Step := Acts → AHeap → List Nat → Option AOut

theorem iter_sub {s t : Step} (hs : ∀ a h ws r, s a h ws = some r → t a h ws = some r) {keep : List Nat} : ∀ {n m : Nat} {a : Acts} {h : AHeap} {ws : List Nat} {r}, n ≤ m → iter s keep n a h ws = some r → iter t keep m a h ws = some r
  | 0, m, a, h, ws, r, _, e => by cases e
  | n + 1, 0, a, h, ws, r, hm, _ => by omega
  | n + 1, m + 1, a, h, ws, r, hm, e => by
    simp only [iter, Option.bind_eq_some_iff] at e ⊢
    obtain ⟨x, h1, h2⟩ := e
    refine ⟨x, hs _ _ _ _ h1, ?_⟩
    split at h2
    · exact iter_sub hs (by omega) h2
    · exact h2

theorem giter_sub {s1 s2 t1 t2 : Step} (h1 : ∀ a h ws r, s1 a h ws = some r → t1 a h ws = some r) (h2 : ∀ a h ws r, s2 a h ws = some r → t2 a h ws = some r) {keep : List Nat} {l1 l2 : Nat} : ∀ {n m : Nat} {o o' : Option AOut} {r}, n ≤ m → (∀ r', o = some r' → o' = some r') → giter s1 s2 keep l1 l2 n o = some r → giter t1 t2 keep l1 l2 m o' = some r
  | 0, m, o, o', r, _, _, e => by cases e
  | n + 1, 0, o, o', r, hm, _, _ => by omega
  | n + 1, m + 1, o, o', r, hm, ho, e => by
    simp only [giter, Option.bind_eq_some_iff] at e ⊢
    obtain ⟨x, e1, e2⟩ := e
    refine ⟨x, ho _ e1, ?_⟩
    split at e2
    · split at e2
      · rename_i hl; rw [if_pos hl]; exact giter_sub h1 h2 (by omega) (fun r' => h1 _ _ _ r') e2
      · rename_i hl
        rw [if_neg hl]
        split at e2
        · rename_i hl2; rw [if_pos hl2]; exact giter_sub h1 h2 (by omega) (fun r' => h2 _ _ _ r') e2
        · cases e2
    · exact e2

theorem aexec_sub {f g : CallT} (hs : Sub f g) {base n m : Nat} (hn : n ≤ m) : ∀ {c : MCode} {a : Acts} {h : AHeap} {ws : List Nat} {r}, aexec f base n c a h ws = some r → aexec g base m c a h ws = some r
  | .skip, a, h, ws, r, e => e
  | .reg ops, a, h, ws, r, e => by
    simp only [aexec, Option.map_eq_some_iff] at e ⊢
    obtain ⟨x, h1, h2⟩ := e
    exact ⟨x, aops_sub hs h1, h2⟩
  | .regd ops un, a, h, ws, r, e => by
    simp only [aexec, Option.bind_eq_some_iff] at e ⊢
    obtain ⟨x, h1, h2⟩ := e
    exact ⟨x, aopsR_sub hs h1, h2⟩
  | .seq x y, a, h, ws, r, e => by
    simp only [aexec, Option.bind_eq_some_iff] at e ⊢
    obtain ⟨o, h1, h2⟩ := e
    refine ⟨o, aexec_sub hs hn h1, ?_⟩
    split at h2
    · exact aexec_sub hs hn h2
    · exact h2
  | .cond c x y, a, h, ws, r, e => by
    simp only [aexec, Option.bind_eq_some_iff] at e ⊢
    obtain ⟨o, h1, h2⟩ := e
    refine ⟨o, h1, ?_⟩
    split at h2
    · exact aexec_sub hs hn h2
    · exact aexec_sub hs hn h2
    · cases h2
  | .block id keep body, a, h, ws, r, e => by
    simp only [aexec, Option.bind_eq_some_iff] at e ⊢
    obtain ⟨o, h1, h2⟩ := e
    exact ⟨o, aexec_sub hs hn h1, h2⟩
  | .loop keep body, a, h, ws, r, e => by
    simp only [aexec] at e ⊢
    exact iter_sub (fun a h ws r h1 => aexec_sub hs hn h1) hn e
  | .exit id, a, h, ws, r, e => e
  | .ret, a, h, ws, r, e => e
  | .goto l, a, h, ws, r, e => e
  | .scope keep l1 r1 l2 r2 body, a, h, ws, r, e => by
    simp only [aexec] at e ⊢
    exact giter_sub (fun a h ws r h1 => aexec_sub hs hn h1) (fun a h ws r h1 => aexec_sub hs hn h1) hn (fun r' h1 => aexec_sub hs hn h1) e

theorem abody_sub {f g : CallT} (hs : Sub f g) {n k : Nat} (hn : n ≤ k) {m : MFunc} {args : List AV} {h : AHeap} {r} (e : abody f n m args h = some r) : abody g k m args h = some r := by
  unfold abody at e ⊢
  simp only [Option.bind_eq_some_iff] at e ⊢
  obtain ⟨o, h1, h2⟩ := e
  exact ⟨o, aexec_sub hs hn h1, h2⟩

theorem acall_succ (C : Cfg) : ∀ n, Sub (acall C n) (acall C (n + 1))
  | 0 => fun f vs h r e => by cases e
  | n + 1 => fun f vs h r e => by
    have ih := acall_succ C n
    rw [acall] at e ⊢
    split at e
    · exact e
    · split at e
      · cases e
      · split at e
        · rename_i hl
          simp only [hl, if_true, Option.bind_eq_some_iff] at e ⊢
          obtain ⟨⟨v, h', ws⟩, h1, h2⟩ := e
          refine ⟨⟨v, h', ws⟩, abody_sub ih (by omega) h1, ?_⟩
          simp only at h2 ⊢
          split at h2
          · rename_i hv; rw [if_pos hv]; exact h2
          · rename_i hv
            rw [if_neg hv]
            simp only [Option.map_eq_some_iff] at h2 ⊢
            obtain ⟨x, h3, h4⟩ := h2
            exact ⟨x, abody_sub ih (by omega) h3, h4⟩
        · rename_i hl
          rw [if_neg hl]
          simp only [Option.map_eq_some_iff] at e ⊢
          obtain ⟨x, h3, h4⟩ := e
          exact ⟨x, abody_sub ih (by omega) h3, h4⟩

theorem acall_sub (C : Cfg) {n m : Nat} (h : n ≤ m) : Sub (acall C n) (acall C m) := by
  induction m with
  | zero => have : n = 0 := by omega
            subst this; exact Sub.refl _
  | succ m ih =>
    by_cases e : n = m + 1
    · subst e; exact Sub.refl _
    · exact (ih (by omega)).trans (acall_succ C m)

-- ------------------------------------------------------------------ limits
open Classical in
noncomputable def lim {α : Type} (g : Nat → Option α) : Option α :=
  if h : ∃ r n, g n = some r then some h.choose else none

theorem lim_eq {α : Type} {g : Nat → Option α} (hm : ∀ n m r, n ≤ m → g n = some r → g m = some r) {r : α} : lim g = some r ↔ ∃ n, g n = some r := by
  unfold lim
  constructor
  · intro h
    split at h
    · rename_i hx
      cases h
      exact hx.choose_spec
    · cases h
  · rintro ⟨n, hn⟩
    have hx : ∃ r n, g n = some r := ⟨r, n, hn⟩
    rw [dif_pos hx]
    obtain ⟨k, hk⟩ := hx.choose_spec
    have h1 := hm n (max n k) r (by omega) hn
    have h2 := hm k (max n k) _ (by omega) hk
    rw [h1] at h2
    exact h2.symm

/-- What a call answers, whatever fuel it needs. -/
noncomputable def W (C : Cfg) : CallT := fun f vs h => lim fun n => acall C n f vs h

theorem W_eq {C : Cfg} {f vs h r} : W C f vs h = some r ↔ ∃ n, acall C n f vs h = some r :=
  lim_eq fun n m r hn e => acall_sub C hn _ _ _ _ e

noncomputable def xiter (s : Step) (keep : List Nat) : Step := fun a h ws => lim fun n => iter s keep n a h ws

theorem xiter_eq {s : Step} {keep a h ws r} : xiter s keep a h ws = some r ↔ ∃ n, iter s keep n a h ws = some r :=
  lim_eq fun n m r hn e => iter_sub (fun _ _ _ _ h => h) hn e

noncomputable def xgiter (s1 s2 : Step) (keep : List Nat) (l1 l2 : Nat) (o : Option AOut) : Option AOut := lim fun n => giter s1 s2 keep l1 l2 n o

theorem xgiter_eq {s1 s2 : Step} {keep l1 l2 o r} : xgiter s1 s2 keep l1 l2 o = some r ↔ ∃ n, giter s1 s2 keep l1 l2 n o = some r :=
  lim_eq fun n m r hn e => giter_sub (fun _ _ _ _ h => h) (fun _ _ _ _ h => h) hn (fun _ h => h) e

noncomputable def xexec (call : CallT) (base : Nat) : MCode → Step
  | .skip, a, h, ws => some (.normal, a, h, ws)
  | .reg ops, a, h, ws => (aops call base ops a h ws).map fun (a, h, ws) => (.normal, a, h, ws)
  | .regd ops un, a, h, ws => (aopsR call base ops a h ws []).bind fun (a, h, ws, rs) => if apartR rs un then some (.normal, a, h, ws) else none
  | .seq x y, a, h, ws => (xexec call base x a h ws).bind fun
    | (.normal, a, h, ws) => xexec call base y a h ws
    | r => some r
  | .cond c x y, a, h, ws => (aeval a c).bind fun
    | .bool true => xexec call base x a h ws
    | .bool false => xexec call base y a h ws
    | _ => none
  | .block id keep body, a, h, ws => (xexec call base body a h ws).bind fun
    | (.normal, a, h, ws) => some (.normal, keepA keep a, h, ws)
    | (.exit id', a, h, ws) => if id' = id then some (.normal, keepA keep a, h, ws) else some (.exit id', a, h, ws)
    | r => some r
  | .loop keep body, a, h, ws => xiter (xexec call base body) keep a h ws
  | .exit id, a, h, ws => some (.exit id, a, h, ws)
  | .ret, a, h, ws => some (.ret, a, h, ws)
  | .goto l, a, h, ws => some (.goto l, a, h, ws)
  | .scope keep l1 r1 l2 r2 body, a, h, ws => xgiter (xexec call base r1) (xexec call base r2) keep l1 l2 (xexec call base body a h ws)

section
variable {C : Cfg}

theorem xop {o : MOp} {a : Acts} {h : AHeap} {r} (e : aop (W C) o a h = some r) : ∃ n, aop (acall C n) o a h = some r := by
  cases o <;> first
    | exact ⟨0, e⟩
    | (simp only [aop, Option.bind_eq_some_iff] at e ⊢
       obtain ⟨vs, h1, h2⟩ := e
       obtain ⟨n, h2⟩ := W_eq.1 h2
       exact ⟨n, vs, h1, h2⟩)
    | (simp only [aop, Option.bind_eq_some_iff] at e ⊢
       obtain ⟨x, h0, vs, h1, h2⟩ := e
       split at h2
       · obtain ⟨n, h2⟩ := W_eq.1 h2
         exact ⟨n, _, h0, vs, h1, h2⟩
       · cases h2)

theorem xoper {o : MOper} {a : Acts} {h : AHeap} {r} (e : aoper (W C) o a h = some r) : ∃ n, aoper (acall C n) o a h = some r := by
  unfold aoper at e ⊢
  simp only [Option.bind_eq_some_iff] at e ⊢
  obtain ⟨b, h1, h2⟩ := e
  cases b
  · exact ⟨0, false, h1, h2⟩
  · obtain ⟨n, h2⟩ := xop h2
    exact ⟨n, true, h1, h2⟩

theorem xops {base : Nat} : ∀ {os : List MOper} {a : Acts} {h : AHeap} {ws : List Nat} {r}, aops (W C) base os a h ws = some r → ∃ n, aops (acall C n) base os a h ws = some r
  | [], a, h, ws, r, e => ⟨0, e⟩
  | o :: os, a, h, ws, r, e => by
    simp only [aops, Option.bind_eq_some_iff] at e ⊢
    obtain ⟨x, h1, h2⟩ := e
    obtain ⟨n, h1⟩ := xoper h1
    obtain ⟨m, h2⟩ := xops h2
    exact ⟨max n m, x, aoper_sub (acall_sub C (by omega)) h1, aops_sub (acall_sub C (by omega)) h2⟩

theorem xopsR {base : Nat} : ∀ {os : List (Nat × MOper)} {a : Acts} {h : AHeap} {ws : List Nat} {rs : List Rec} {r}, aopsR (W C) base os a h ws rs = some r → ∃ n, aopsR (acall C n) base os a h ws rs = some r
  | [], a, h, ws, rs, r, e => ⟨0, e⟩
  | (_, o) :: os, a, h, ws, rs, r, e => by
    simp only [aopsR, Option.bind_eq_some_iff] at e ⊢
    obtain ⟨x, h1, h2⟩ := e
    obtain ⟨n, h1⟩ := xoper h1
    obtain ⟨m, h2⟩ := xopsR h2
    exact ⟨max n m, x, aoper_sub (acall_sub C (by omega)) h1, aopsR_sub (acall_sub C (by omega)) h2⟩

theorem xexec_fuel {base : Nat} : ∀ {c : MCode} {a : Acts} {h : AHeap} {ws : List Nat} {r}, xexec (W C) base c a h ws = some r → ∃ n, aexec (acall C n) base n c a h ws = some r
  | .skip, a, h, ws, r, e => ⟨0, e⟩
  | .reg ops, a, h, ws, r, e => by
    simp only [xexec, aexec, Option.map_eq_some_iff] at e ⊢
    obtain ⟨x, h1, h2⟩ := e
    obtain ⟨n, h1⟩ := xops h1
    exact ⟨n, x, h1, h2⟩
  | .regd ops un, a, h, ws, r, e => by
    simp only [xexec, aexec, Option.bind_eq_some_iff] at e ⊢
    obtain ⟨x, h1, h2⟩ := e
    obtain ⟨n, h1⟩ := xopsR h1
    exact ⟨n, x, h1, h2⟩
  | .seq x y, a, h, ws, r, e => by
    simp only [xexec, aexec, Option.bind_eq_some_iff] at e ⊢
    obtain ⟨⟨ex, a1, hp1, ws1⟩, h1, h2⟩ := e
    obtain ⟨n, h1⟩ := xexec_fuel h1
    cases ex with
    | normal =>
      obtain ⟨m, h2⟩ := xexec_fuel (show xexec (W C) base y a1 hp1 ws1 = some r from h2)
      exact ⟨max n m, _, aexec_sub (acall_sub C (by omega)) (by omega) h1, aexec_sub (acall_sub C (by omega)) (by omega) h2⟩
    | exit i => exact ⟨n, _, h1, h2⟩
    | ret => exact ⟨n, _, h1, h2⟩
    | goto l => exact ⟨n, _, h1, h2⟩
  | .cond c x y, a, h, ws, r, e => by
    simp only [xexec, aexec, Option.bind_eq_some_iff] at e ⊢
    obtain ⟨o, h1, h2⟩ := e
    split at h2
    · obtain ⟨n, h2⟩ := xexec_fuel h2
      exact ⟨n, _, h1, h2⟩
    · obtain ⟨n, h2⟩ := xexec_fuel h2
      exact ⟨n, _, h1, h2⟩
    · cases h2
  | .block id keep body, a, h, ws, r, e => by
    simp only [xexec, aexec, Option.bind_eq_some_iff] at e ⊢
    obtain ⟨o, h1, h2⟩ := e
    obtain ⟨n, h1⟩ := xexec_fuel h1
    exact ⟨n, o, h1, h2⟩
  | .loop keep body, a, h, ws, r, e => by
    simp only [xexec, aexec] at e ⊢
    obtain ⟨k, e⟩ := xiter_eq.1 e
    have key : ∀ k a h ws, iter (xexec (W C) base body) keep k a h ws = some r → ∃ n, iter (aexec (acall C n) base n body) keep n a h ws = some r := by
      intro k
      induction k with
      | zero => intro a h ws e; cases e
      | succ k ih =>
        intro a h ws e
        simp only [iter, Option.bind_eq_some_iff] at e
        obtain ⟨⟨ex, a1, hp1, ws1⟩, h1, h2⟩ := e
        obtain ⟨n, h1⟩ := xexec_fuel h1
        cases ex with
        | normal =>
          obtain ⟨m, h2⟩ := ih a1 hp1 ws1 h2
          refine ⟨max n m + 1, ?_⟩
          simp only [iter, Option.bind_eq_some_iff]
          exact ⟨_, aexec_sub (acall_sub C (by omega)) (by omega) h1, iter_sub (fun a h ws r e => aexec_sub (acall_sub C (by omega)) (by omega) e) (by omega) h2⟩
        | exit i =>
          refine ⟨n + 1, ?_⟩
          simp only [iter, Option.bind_eq_some_iff]
          exact ⟨_, aexec_sub (acall_sub C (by omega)) (by omega) h1, h2⟩
        | ret =>
          refine ⟨n + 1, ?_⟩
          simp only [iter, Option.bind_eq_some_iff]
          exact ⟨_, aexec_sub (acall_sub C (by omega)) (by omega) h1, h2⟩
        | goto l =>
          refine ⟨n + 1, ?_⟩
          simp only [iter, Option.bind_eq_some_iff]
          exact ⟨_, aexec_sub (acall_sub C (by omega)) (by omega) h1, h2⟩
    exact key k a h ws e
  | .exit id, a, h, ws, r, e => ⟨0, e⟩
  | .ret, a, h, ws, r, e => ⟨0, e⟩
  | .goto l, a, h, ws, r, e => ⟨0, e⟩
  | .scope keep l1 r1 l2 r2 body, a, h, ws, r, e => by
    simp only [xexec, aexec] at e ⊢
    obtain ⟨k, e⟩ := xgiter_eq.1 e
    have some_of : ∀ {s1 s2 : Step} {k : Nat} {o : Option AOut} {r}, giter s1 s2 keep l1 l2 k o = some r → ∃ r', o = some r' := by
      intro s1 s2 k o r h
      cases k with
      | zero => cases h
      | succ k => simp only [giter, Option.bind_eq_some_iff] at h; obtain ⟨x, h1, _⟩ := h; exact ⟨x, h1⟩
    have key : ∀ k (o : Option AOut), giter (xexec (W C) base r1) (xexec (W C) base r2) keep l1 l2 k o = some r → ∃ n, giter (aexec (acall C n) base n r1) (aexec (acall C n) base n r2) keep l1 l2 n o = some r := by
      intro k
      induction k with
      | zero => intro o e; cases e
      | succ k ih =>
        intro o e
        simp only [giter, Option.bind_eq_some_iff] at e
        obtain ⟨⟨ex, a1, hp1, ws1⟩, h1, h2⟩ := e
        subst h1
        cases ex with
        | normal => exact ⟨1, h2⟩
        | exit i => exact ⟨1, h2⟩
        | ret => exact ⟨1, h2⟩
        | goto l =>
          simp only at h2
          have jump : ∀ (rr : MCode), (∀ {a h ws r}, xexec (W C) base rr a h ws = some r → ∃ n, aexec (acall C n) base n rr a h ws = some r) → giter (xexec (W C) base r1) (xexec (W C) base r2) keep l1 l2 k (xexec (W C) base rr (keepA keep a1) hp1 ws1) = some r →
              ∃ n, giter (aexec (acall C n) base n r1) (aexec (acall C n) base n r2) keep l1 l2 n (aexec (acall C (n + 1)) base (n + 1) rr (keepA keep a1) hp1 ws1) = some r := by
            intro rr hrr h3
            obtain ⟨r', h4⟩ := some_of h3
            obtain ⟨m, h5⟩ := hrr h4
            obtain ⟨n, h6⟩ := ih _ h3
            refine ⟨max n m, giter_sub (fun a h ws r h1 => aexec_sub (acall_sub C (by omega)) (by omega) h1) (fun a h ws r h1 => aexec_sub (acall_sub C (by omega)) (by omega) h1) (by omega) (fun r'' h7 => ?_) h6⟩
            rw [h4] at h7; cases h7
            exact aexec_sub (acall_sub C (by omega)) (by omega) h5
          split at h2
          · rename_i hl
            obtain ⟨n, h3⟩ := jump r1 (fun e => xexec_fuel e) h2
            refine ⟨n + 1, ?_⟩
            simp only [giter, Option.bind_some, if_pos hl]
            exact giter_sub (fun a h ws r h1 => aexec_sub (acall_sub C (by omega)) (by omega) h1) (fun a h ws r h1 => aexec_sub (acall_sub C (by omega)) (by omega) h1) (by omega) (fun _ h => h) h3
          · rename_i hl
            split at h2
            · rename_i hl2
              obtain ⟨n, h3⟩ := jump r2 (fun e => xexec_fuel e) h2
              refine ⟨n + 1, ?_⟩
              simp only [giter, Option.bind_some, if_neg hl, if_pos hl2]
              exact giter_sub (fun a h ws r h1 => aexec_sub (acall_sub C (by omega)) (by omega) h1) (fun a h ws r h1 => aexec_sub (acall_sub C (by omega)) (by omega) h1) (by omega) (fun _ h => h) h3
            · cases h2
    obtain ⟨r', h1⟩ := some_of e
    obtain ⟨m, h2⟩ := xexec_fuel h1
    obtain ⟨n, h3⟩ := key k _ e
    refine ⟨max n m, giter_sub (fun a h ws r h1 => aexec_sub (acall_sub C (by omega)) (by omega) h1) (fun a h ws r h1 => aexec_sub (acall_sub C (by omega)) (by omega) h1) (by omega) (fun r'' h7 => ?_) h3⟩
    rw [h1] at h7; cases h7
    exact aexec_sub (acall_sub C (by omega)) (by omega) h2

noncomputable def xbody (call : CallT) (m : MFunc) (args : List AV) (h : AHeap) : Option (AV × AHeap × List Nat) :=
  (xexec call h.length m.body (argsA 0 args) h []).bind fun
    | (.exit _, _, _, _) => none
    | (.goto _, _, _, _) => none
    | (_, a, h', ws) => (ares a h' m.res).map fun v => (v, h', ws)

theorem xbody_fuel {m : MFunc} {args : List AV} {h : AHeap} {r} (e : xbody (W C) m args h = some r) : ∃ n, abody (acall C n) n m args h = some r := by
  unfold xbody at e
  simp only [Option.bind_eq_some_iff] at e
  obtain ⟨o, h1, h2⟩ := e
  obtain ⟨n, h1⟩ := xexec_fuel h1
  refine ⟨n, ?_⟩
  unfold abody
  simp only [Option.bind_eq_some_iff]
  exact ⟨o, h1, h2⟩

/-- A function that is handed no address and answers none. -/
theorem W_pure {f : Nat} {m : MFunc} {args : List AV} {v : AV} {h' : AHeap} {ws : List Nat} (hp : ∀ h, C.prim f args h = none) (hm : C.mp f = some m) (h0 : AV.lts 0 args = true) (hv : AV.lt 0 v = true)
    (e : xbody (W C) m args C.gl = some (v, h', ws)) (h : AHeap) : W C f args h = some (v, h, []) := by
  obtain ⟨n, e⟩ := xbody_fuel e
  refine W_eq.2 ⟨n + 1, ?_⟩
  rw [acall, hp h, hm]
  simp only [h0, if_true, e, Option.bind_some, hv]

/-- A function that is handed an address. -/
theorem W_body {f : Nat} {m : MFunc} {args : List AV} {h : AHeap} {r} (hp : C.prim f args h = none) (hm : C.mp f = some m) (h0 : AV.lts 0 args = false)
    (e : xbody (W C) m args h = some r) : W C f args h = some (if m.trim then trimR h.length r else r) := by
  obtain ⟨n, e⟩ := xbody_fuel e
  refine W_eq.2 ⟨n + 1, ?_⟩
  rw [acall, hp, hm]
  simp only [h0, e, Option.map_some, if_false, Bool.false_eq_true]

/-- A function that is handed no address and answers one. -/
theorem W_made {f : Nat} {m : MFunc} {args : List AV} {v : AV} {h' : AHeap} {ws : List Nat} {h : AHeap} {r} (hp : C.prim f args h = none) (hm : C.mp f = some m) (h0 : AV.lts 0 args = true)
    (e0 : xbody (W C) m args C.gl = some (v, h', ws)) (hv : AV.lt 0 v = false) (e : xbody (W C) m args h = some r) : W C f args h = some (if m.trim then trimR h.length r else r) := by
  obtain ⟨n, e0⟩ := xbody_fuel e0
  obtain ⟨k, e⟩ := xbody_fuel e
  refine W_eq.2 ⟨max n k + 1, ?_⟩
  rw [acall, hp, hm]
  simp only [h0, if_true, abody_sub (acall_sub C (show n ≤ max n k by omega)) (show n ≤ max n k by omega) e0, Option.bind_some, hv, Bool.false_eq_true, if_false,
    abody_sub (acall_sub C (show k ≤ max n k by omega)) (show k ≤ max n k by omega) e, Option.map_some]

theorem W_of {n f vs h r} (e : acall C n f vs h = some r) : W C f vs h = some r := W_eq.2 ⟨n, e⟩
end

-- ------------------------------------------------------------------ equations to walk by
section
variable (call : CallT) (base : Nat)

noncomputable def kOps (os : List MOper) (d : Option Nat) (a : Acts) (ws : List Nat) : Option (AV × AHeap × List Nat) → Option (Acts × AHeap × List Nat)
  | some (v, h', ws') => aops call base os (putA a d v) h' (wadd base ws ws')
  | none => none

theorem w_ops_nil (a h ws) : aops call base [] a h ws = some (a, h, ws) := rfl
theorem w_ops_cons (o os a h ws) : aops call base (o :: os) a h ws = kOps call base os o.dst a ws (aoper call o a h) := by
  unfold kOps; rw [aops]; cases aoper call o a h <;> rfl
theorem w_kOps (os d a ws v h' ws') : kOps call base os d a ws (some (v, h', ws')) = aops call base os (putA a d v) h' (wadd base ws ws') := rfl

noncomputable def kOpsR (os : List (Nat × MOper)) (o : MOper) (a : Acts) (h : AHeap) (ws : List Nat) (rs : List Rec) : Option (AV × AHeap × List Nat) → Option (Acts × AHeap × List Nat × List Rec)
  | some (v, h', ws') => aopsR call base os (putA a o.dst v) h' (wadd base ws ws') (rs ++ [recOf o a h ws' h'.length])
  | none => none
theorem w_opsR_nil (a h ws rs) : aopsR call base [] a h ws rs = some (a, h, ws, rs) := rfl
theorem w_opsR_cons (i o os a h ws rs) : aopsR call base ((i, o) :: os) a h ws rs = kOpsR call base os o a h ws rs (aoper call o a h) := by
  unfold kOpsR; rw [aopsR]; cases aoper call o a h <;> rfl
theorem w_kOpsR (os o a h ws rs v h' ws') : kOpsR call base os o a h ws rs (some (v, h', ws')) = aopsR call base os (putA a o.dst v) h' (wadd base ws ws') (rs ++ [recOf o a h ws' h'.length]) := rfl

def gOper (o : MOp) (a : Acts) (h : AHeap) : Option Bool → Option (AV × AHeap × List Nat)
  | some true => aop call o a h
  | some false => some (.tup [], h, [])
  | none => none
theorem w_oper (d o a h) : aoper call ⟨d, o, none⟩ a h = aop call o a h := rfl
theorem w_operG (d o g a h) : aoper call ⟨d, o, some g⟩ a h = gOper call o a h (guardOf a (some g)) := by
  unfold aoper gOper; cases guardOf a (some g) with
  | none => rfl
  | some b => cases b <;> rfl
theorem w_gOperT (o a h) : gOper call o a h (some true) = aop call o a h := rfl
theorem w_gOperF (o a h) : gOper call o a h (some false) = some (.tup [], h, []) := rfl

noncomputable def kReg : Option (Acts × AHeap × List Nat) → Option AOut
  | some (a, h, ws) => some (.normal, a, h, ws)
  | none => none
noncomputable def kRegd (un : List (Nat × Nat)) : Option (Acts × AHeap × List Nat × List Rec) → Option AOut
  | some (a, h, ws, rs) => if apartR rs un then some (.normal, a, h, ws) else none
  | none => none
noncomputable def kSeq (y : MCode) : Option AOut → Option AOut
  | some (.normal, a, h, ws) => xexec call base y a h ws
  | some (.exit i, a, h, ws) => some (.exit i, a, h, ws)
  | some (.ret, a, h, ws) => some (.ret, a, h, ws)
  | some (.goto l, a, h, ws) => some (.goto l, a, h, ws)
  | none => none
noncomputable def kCond (x y : MCode) (a : Acts) (h : AHeap) (ws : List Nat) : Option AV → Option AOut
  | some (.bool true) => xexec call base x a h ws
  | some (.bool false) => xexec call base y a h ws
  | _ => none
def kBlock (id : Nat) (keep : List Nat) : Option AOut → Option AOut
  | some (.normal, a, h, ws) => some (.normal, keepA keep a, h, ws)
  | some (.exit id', a, h, ws) => if id' = id then some (.normal, keepA keep a, h, ws) else some (.exit id', a, h, ws)
  | some (.ret, a, h, ws) => some (.ret, a, h, ws)
  | some (.goto l, a, h, ws) => some (.goto l, a, h, ws)
  | none => none
def kRes (rs : List MRes) : Option AOut → Option (AV × AHeap × List Nat)
  | some (.exit _, _, _, _) => none
  | some (.goto _, _, _, _) => none
  | some (.normal, a, h, ws) => (ares a h rs).map fun v => (v, h, ws)
  | some (.ret, a, h, ws) => (ares a h rs).map fun v => (v, h, ws)
  | none => none

theorem w_skip (a h ws) : xexec call base .skip a h ws = some (.normal, a, h, ws) := rfl
theorem w_exit (i a h ws) : xexec call base (.exit i) a h ws = some (.exit i, a, h, ws) := rfl
theorem w_ret (a h ws) : xexec call base .ret a h ws = some (.ret, a, h, ws) := rfl
theorem w_goto (l a h ws) : xexec call base (.goto l) a h ws = some (.goto l, a, h, ws) := rfl
theorem w_scope (keep l1 r1 l2 r2 body a h ws) : xexec call base (.scope keep l1 r1 l2 r2 body) a h ws = xgiter (xexec call base r1) (xexec call base r2) keep l1 l2 (xexec call base body a h ws) := rfl
theorem w_reg (ops a h ws) : xexec call base (.reg ops) a h ws = kReg (aops call base ops a h ws) := by
  unfold kReg; rw [xexec]; cases aops call base ops a h ws <;> rfl
theorem w_regd (ops un a h ws) : xexec call base (.regd ops un) a h ws = kRegd un (aopsR call base ops a h ws []) := by
  unfold kRegd; rw [xexec]; cases aopsR call base ops a h ws [] <;> rfl
theorem w_seq (x y a h ws) : xexec call base (.seq x y) a h ws = kSeq call base y (xexec call base x a h ws) := by
  unfold kSeq; rw [xexec]
  rcases xexec call base x a h ws with _ | ⟨_ | _ | _ | _, _, _, _⟩ <;> rfl
theorem w_cond (c x y a h ws) : xexec call base (.cond c x y) a h ws = kCond call base x y a h ws (aeval a c) := by
  unfold kCond; rw [xexec]
  cases aeval a c with
  | none => rfl
  | some v => cases v <;> first | rfl | (rename_i b; cases b <;> rfl)
theorem w_block (id keep body a h ws) : xexec call base (.block id keep body) a h ws = kBlock id keep (xexec call base body a h ws) := by
  unfold kBlock; rw [xexec]
  rcases xexec call base body a h ws with _ | ⟨_ | _ | _ | _, _, _, _⟩ <;> rfl
theorem w_loop (keep body a h ws) : xexec call base (.loop keep body) a h ws = xiter (xexec call base body) keep a h ws := rfl
theorem w_regd1 (ops u un a h ws) : xexec call base (.regd ops (u :: un)) a h ws = kRegd (u :: un) (aopsR call base ops a h ws []) := w_regd call base ops (u :: un) a h ws
theorem w_body (m : MFunc) (args h) : xbody call m args h = kRes m.res (xexec call h.length m.body (argsA 0 args) h []) := by
  unfold xbody kRes
  rcases xexec call h.length m.body (argsA 0 args) h [] with _ | ⟨_ | _ | _ | _, _, _, _⟩ <;> rfl

theorem w_kReg (a h ws) : kReg (some (a, h, ws)) = some (.normal, a, h, ws) := rfl
theorem w_kRegd (un a h ws rs) : kRegd un (some (a, h, ws, rs)) = if apartR rs un then some (.normal, a, h, ws) else none := rfl
theorem w_kSeqN (y a h ws) : kSeq call base y (some (.normal, a, h, ws)) = xexec call base y a h ws := rfl
theorem w_kSeqE (y i a h ws) : kSeq call base y (some (.exit i, a, h, ws)) = some (.exit i, a, h, ws) := rfl
theorem w_kSeqG (y l a h ws) : kSeq call base y (some (.goto l, a, h, ws)) = some (.goto l, a, h, ws) := rfl
theorem w_kBlockG (id keep l a h ws) : kBlock id keep (some (.goto l, a, h, ws)) = some (.goto l, a, h, ws) := rfl
theorem w_kSeqR (y a h ws) : kSeq call base y (some (.ret, a, h, ws)) = some (.ret, a, h, ws) := rfl
theorem w_kCondT (x y a h ws) : kCond call base x y a h ws (some (.bool true)) = xexec call base x a h ws := rfl
theorem w_kCondF (x y a h ws) : kCond call base x y a h ws (some (.bool false)) = xexec call base y a h ws := rfl
theorem w_kBlockN (id keep a h ws) : kBlock id keep (some (.normal, a, h, ws)) = some (.normal, keepA keep a, h, ws) := rfl
theorem w_kBlockE (id keep i a h ws) : kBlock id keep (some (.exit i, a, h, ws)) = if i = id then some (.normal, keepA keep a, h, ws) else some (.exit i, a, h, ws) := rfl
theorem w_kBlockR (id keep a h ws) : kBlock id keep (some (.ret, a, h, ws)) = some (.ret, a, h, ws) := rfl
theorem w_kResN (rs a h ws) : kRes rs (some (.normal, a, h, ws)) = (ares a h rs).map fun v => (v, h, ws) := rfl
theorem w_kResR (rs a h ws) : kRes rs (some (.ret, a, h, ws)) = (ares a h rs).map fun v => (v, h, ws) := rfl

/-- Where nothing may come ahead of anything, a drawn region is a region. -/
theorem aopsR_ops : ∀ (os : List (Nat × MOper)) (a : Acts) (h : AHeap) (ws : List Nat) (rs : List Rec), (aopsR call base os a h ws rs).map (fun x => (x.1, x.2.1, x.2.2.1)) = aops call base (os.map (·.2)) a h ws
  | [], a, h, ws, rs => rfl
  | (i, o) :: os, a, h, ws, rs => by
    simp only [aopsR, List.map_cons, aops]
    cases aoper call o a h with
    | none => rfl
    | some x => exact aopsR_ops os _ _ _ _
theorem w_regd0 (ops a h ws) : xexec call base (.regd ops []) a h ws = kReg (aops call base (ops.map (·.2)) a h ws) := by
  rw [← aopsR_ops call base ops a h ws [], xexec]
  cases aopsR call base ops a h ws [] <;> rfl

-- scopes
theorem xg_step (s1 s2 : Step) (keep l1 l2) (ex a h ws) : xgiter s1 s2 keep l1 l2 (some (ex, a, h, ws)) = match ex with
    | .goto l => if l = l1 then xgiter s1 s2 keep l1 l2 (s1 (keepA keep a) h ws) else if l = l2 then xgiter s1 s2 keep l1 l2 (s2 (keepA keep a) h ws) else none
    | ex => some (ex, a, h, ws) := by
  have key : ∀ r, xgiter s1 s2 keep l1 l2 (some (ex, a, h, ws)) = some r ↔ (match ex with
      | .goto l => if l = l1 then xgiter s1 s2 keep l1 l2 (s1 (keepA keep a) h ws) else if l = l2 then xgiter s1 s2 keep l1 l2 (s2 (keepA keep a) h ws) else none
      | ex => some (ex, a, h, ws)) = some r := by
    intro r
    constructor
    · intro e
      obtain ⟨n, e⟩ := xgiter_eq.1 e
      cases n with
      | zero => cases e
      | succ n =>
        simp only [giter, Option.bind_some] at e
        cases ex with
        | normal => exact e
        | exit i => exact e
        | ret => exact e
        | goto l =>
          simp only at e ⊢
          split at e
          · rename_i hl; rw [if_pos hl]; exact xgiter_eq.2 ⟨n, e⟩
          · rename_i hl
            rw [if_neg hl]
            split at e
            · rename_i hl2; rw [if_pos hl2]; exact xgiter_eq.2 ⟨n, e⟩
            · cases e
    · intro e
      refine xgiter_eq.2 ?_
      cases ex with
      | normal => exact ⟨1, e⟩
      | exit i => exact ⟨1, e⟩
      | ret => exact ⟨1, e⟩
      | goto l =>
        simp only at e
        split at e
        · rename_i hl
          obtain ⟨n, e⟩ := xgiter_eq.1 e
          exact ⟨n + 1, by simp only [giter, Option.bind_some, if_pos hl]; exact e⟩
        · rename_i hl
          split at e
          · rename_i hl2
            obtain ⟨n, e⟩ := xgiter_eq.1 e
            exact ⟨n + 1, by simp only [giter, Option.bind_some, if_neg hl, if_pos hl2]; exact e⟩
          · cases e
  exact Option.ext fun r => key r
theorem xg_normal (s1 s2 : Step) (keep l1 l2) (a h ws) : xgiter s1 s2 keep l1 l2 (some (.normal, a, h, ws)) = some (.normal, a, h, ws) := xg_step ..
theorem xg_exit (s1 s2 : Step) (keep l1 l2) (i a h ws) : xgiter s1 s2 keep l1 l2 (some (.exit i, a, h, ws)) = some (.exit i, a, h, ws) := xg_step ..
theorem xg_ret (s1 s2 : Step) (keep l1 l2) (a h ws) : xgiter s1 s2 keep l1 l2 (some (.ret, a, h, ws)) = some (.ret, a, h, ws) := xg_step ..
theorem xg_goto (s1 s2 : Step) (keep l1 l2) (l a h ws) : xgiter s1 s2 keep l1 l2 (some (.goto l, a, h, ws)) = if l = l1 then xgiter s1 s2 keep l1 l2 (s1 (keepA keep a) h ws) else if l = l2 then xgiter s1 s2 keep l1 l2 (s2 (keepA keep a) h ws) else none := xg_step ..

-- loops
theorem xiter_unfold (s : Step) (keep a h ws) : xiter s keep a h ws = (s (keepA keep a) h ws).bind fun
    | (.normal, a', h', ws') => xiter s keep a' h' ws'
    | r => some r := by
  have key : ∀ r, xiter s keep a h ws = some r ↔ ((s (keepA keep a) h ws).bind fun
      | (.normal, a', h', ws') => xiter s keep a' h' ws'
      | r => some r) = some r := by
    intro r
    simp only [Option.bind_eq_some_iff]
    constructor
    · intro h1
      obtain ⟨n, h1⟩ := xiter_eq.1 h1
      cases n with
      | zero => cases h1
      | succ n =>
        simp only [iter, Option.bind_eq_some_iff] at h1
        obtain ⟨⟨ex, a1, hp1, ws1⟩, h2, h3⟩ := h1
        refine ⟨_, h2, ?_⟩
        cases ex with
        | normal => exact xiter_eq.2 ⟨n, h3⟩
        | exit i => exact h3
        | ret => exact h3
        | goto l => exact h3
    · rintro ⟨⟨ex, a1, hp1, ws1⟩, h2, h3⟩
      cases ex with
      | normal =>
        obtain ⟨n, h3⟩ := xiter_eq.1 h3
        refine xiter_eq.2 ⟨n + 1, ?_⟩
        simp only [iter, h2, Option.bind_some]
        exact h3
      | exit i =>
        refine xiter_eq.2 ⟨1, ?_⟩
        simp only [iter, h2, Option.bind_some]
        exact h3
      | ret =>
        refine xiter_eq.2 ⟨1, ?_⟩
        simp only [iter, h2, Option.bind_some]
        exact h3
      | goto l =>
        refine xiter_eq.2 ⟨1, ?_⟩
        simp only [iter, h2, Option.bind_some]
        exact h3
  generalize ((s (keepA keep a) h ws).bind fun
      | (.normal, a', h', ws') => xiter s keep a' h' ws'
      | r => some r) = y at key ⊢
  cases hx : xiter s keep a h ws with
  | none =>
    cases y with
    | none => rfl
    | some r => rw [hx] at key; exact absurd ((key r).2 rfl) (by simp)
  | some r => exact ((key r).1 hx).symm
end

/-- A loop, by what holds at its head: each round ends the loop as Q says, or leads to a head of less. -/
theorem xiter_rule {s : Step} {keep : List Nat} {Q : AOut → Prop} (I : Nat → Acts → AHeap → List Nat → Prop)
    (hstep : ∀ k a h ws, I k a h ws → ∃ o, s (keepA keep a) h ws = some o ∧ ((∃ a' h' ws' k', o = (.normal, a', h', ws') ∧ k' < k ∧ I k' a' h' ws') ∨ (o.1 ≠ .normal ∧ Q o))) :
    ∀ k a h ws, I k a h ws → ∃ o, xiter s keep a h ws = some o ∧ Q o := by
  intro k
  induction k using Nat.strongRecOn with
  | ind k ih =>
    intro a h ws hI
    obtain ⟨o, h1, h2⟩ := hstep k a h ws hI
    rw [xiter_unfold, h1, Option.bind_some]
    rcases h2 with ⟨a', h', ws', k', rfl, hk, hI'⟩ | ⟨hn, hq⟩
    · exact ih k' hk a' h' ws' hI'
    · obtain ⟨e, a', h', ws'⟩ := o
      cases e with
      | normal => exact absurd rfl hn
      | exit i => exact ⟨_, rfl, hq⟩
      | ret => exact ⟨_, rfl, hq⟩
      | goto l => exact ⟨_, rfl, hq⟩

end Go.Proofs.YtdbdmnhnijpdcaaDoorW.AI

namespace Go.Proofs.YtdbdmnhnijpdcaaDoorW.AI
open Go
set_option linter.unusedVariables false
set_option linter.unusedSimpArgs false
-- ------------------------------------------------------------------ contracts
def Good (h : AHeap) : Prop := h.all (oldIn h.length) = true

theorem wadd_nil (base ws) : wadd base ws [] = ws := rfl
theorem wadd_one (base ws b) : wadd base ws [b] = if b < base ∧ b ∉ ws then ws ++ [b] else ws := rfl

theorem wadd_cons (base ws b bs) : wadd base ws (b :: bs) = wadd base (if b < base ∧ b ∉ ws then ws ++ [b] else ws) bs := rfl

theorem wadd_ge {base : Nat} {l : List Nat} : ∀ {ws : List Nat}, (∀ b ∈ ws, base ≤ b) → wadd base l ws = l
  | [], _ => rfl
  | b :: bs, h => by
    rw [wadd_cons, if_neg (by have := h b List.mem_cons_self; omega)]
    exact wadd_ge fun b' h' => h b' (List.mem_cons_of_mem _ h')

theorem oldIn_mono {n m : Nat} (h : n ≤ m) {x : ABlk} (hx : oldIn n x = true) : oldIn m x = true := by
  unfold oldIn at hx ⊢
  split at hx
  · rename_i t ht; simp only [decide_eq_true_eq] at hx ⊢; omega
  · rfl

theorem Good.append {h js : AHeap} (hg : Good h) (hj : js.all (oldIn (h.length + js.length)) = true) : Good (h ++ js) := by
  unfold Good at *
  rw [List.all_append, Bool.and_eq_true, List.length_append]
  exact ⟨List.all_eq_true.2 fun x hx => oldIn_mono (by omega) (List.all_eq_true.1 hg x hx), hj⟩

theorem Good.set {h : AHeap} (hg : Good h) {p : Nat} {b : ABlk} (hb : oldIn h.length b = true) : Good (h.set p b) := by
  unfold Good at *
  rw [List.length_set]
  refine List.all_eq_true.2 fun x hx => ?_
  rcases List.mem_or_eq_of_mem_set hx with h1 | h1
  · exact List.all_eq_true.1 hg x h1
  · rw [h1]; exact hb

theorem trim_of {len : Nat} {X js : AHeap} {v : AV} {ws : List Nat} (hX : X.length = len) (hv : v.lt len = true) (hw : ∀ b ∈ ws, ∃ x : ABlk, X[b]? = some x ∧ x.c.lt len = true) (hg : X.all (oldIn len) = true) :
    trimR len (v, X ++ js, ws) = (v, X, ws) := by
  have ht : (X ++ js).take len = X := by rw [← hX]; simp
  unfold trimR
  rw [if_pos]
  · simp only [ht]
  · simp only [hv, Bool.true_and, ht, hg, Bool.and_true, List.all_eq_true]
    intro b hb
    obtain ⟨x, h1, h2⟩ := hw b hb
    have hl : b < X.length := (List.getElem?_eq_some_iff.1 h1).1
    rw [List.getElem?_append_left hl, h1]
    exact h2

section
variable {C : Cfg}
/-- A function that leaves the heap alone. -/
theorem W_quiet {f : Nat} {m : MFunc} {args : List AV} {h js : AHeap} {v : AV} (hp : C.prim f args h = none) (hm : C.mp f = some m) (h0 : AV.lts 0 args = false) (ht : m.trim = true) (hv : v.lt h.length = true) (hg : Good h)
    (e : xbody (W C) m args h = some (v, h ++ js, [])) : W C f args h = some (v, h, []) := by
  rw [W_body hp hm h0 e, ht, if_pos rfl, trim_of rfl hv (by simp) hg]

theorem W_quiet0 {f : Nat} {m : MFunc} {args : List AV} {h : AHeap} {v : AV} (hp : C.prim f args h = none) (hm : C.mp f = some m) (h0 : AV.lts 0 args = false) (ht : m.trim = true) (hv : v.lt h.length = true) (hg : Good h)
    (e : xbody (W C) m args h = some (v, h, [])) : W C f args h = some (v, h, []) :=
  W_quiet (js := []) hp hm h0 ht hv hg (by rw [e, List.append_nil])

/-- A function that changes blocks. -/
theorem W_sets {f : Nat} {m : MFunc} {args : List AV} {h X js : AHeap} {v : AV} {ws : List Nat} (hp : C.prim f args h = none) (hm : C.mp f = some m) (h0 : AV.lts 0 args = false) (ht : m.trim = true) (hv : v.lt h.length = true)
    (hX : X.length = h.length) (hg : Good X) (hw : ∀ b ∈ ws, ∃ x : ABlk, X[b]? = some x ∧ x.c.lt h.length = true)
    (e : xbody (W C) m args h = some (v, X ++ js, ws)) : W C f args h = some (v, X, ws) := by
  rw [W_body hp hm h0 e, ht, if_pos rfl, trim_of hX hv hw (by unfold Good at hg; rwa [hX] at hg)]

/-- A function that changes one block. -/
theorem W_set {f : Nat} {m : MFunc} {args : List AV} {h js : AHeap} {v : AV} {p : Nat} {b : ABlk} (hp : C.prim f args h = none) (hm : C.mp f = some m) (h0 : AV.lts 0 args = false) (ht : m.trim = true) (hv : v.lt h.length = true) (hg : Good h)
    (hl : p < h.length) (hb : oldIn h.length b = true) (hc : b.c.lt h.length = true)
    (e : xbody (W C) m args h = some (v, h.set p b ++ js, [p])) : W C f args h = some (v, h.set p b, [p]) := by
  rw [W_body hp hm h0 e, ht, if_pos rfl, trim_of (by simp) hv ?_ (by have := hg.set (p := p) hb; unfold Good at this; rwa [List.length_set] at this)]
  intro q hq
  simp only [List.mem_singleton] at hq
  subst hq
  exact ⟨b, by rw [List.getElem?_set_self hl], hc⟩

theorem W_set0 {f : Nat} {m : MFunc} {args : List AV} {h : AHeap} {v : AV} {p : Nat} {b : ABlk} (hp : C.prim f args h = none) (hm : C.mp f = some m) (h0 : AV.lts 0 args = false) (ht : m.trim = true) (hv : v.lt h.length = true) (hg : Good h)
    (hl : p < h.length) (hb : oldIn h.length b = true) (hc : b.c.lt h.length = true)
    (e : xbody (W C) m args h = some (v, h.set p b, [p])) : W C f args h = some (v, h.set p b, [p]) :=
  W_set (js := []) hp hm h0 ht hv hg hl hb hc (by rw [e, List.append_nil])
end

/-- A loop, by what holds at its head (of what is kept). -/
theorem loop_rule {s : Step} {keep : List Nat} {Q : AOut → Prop} (I : Nat → Acts → AHeap → List Nat → Prop)
    (hstep : ∀ k a h ws, I k a h ws → ∃ o, s a h ws = some o ∧ ((∃ a' h' ws' k', o = (.normal, a', h', ws') ∧ k' < k ∧ I k' (keepA keep a') h' ws') ∨ (o.1 ≠ .normal ∧ Q o)))
    (k : Nat) (a : Acts) (h : AHeap) (ws : List Nat) (hI : I k (keepA keep a) h ws) : ∃ o, xiter s keep a h ws = some o ∧ Q o :=
  xiter_rule (fun k a h ws => I k (keepA keep a) h ws) (fun k a h ws hI => hstep k _ h ws hI) k a h ws hI

/-- It answers, and what it answers fits. -/
def Wp {α : Type} (o : Option α) (Q : α → Prop) : Prop := ∃ r, o = some r ∧ Q r
theorem wp_some {α : Type} {r : α} {Q : α → Prop} (h : Q r) : Wp (some r) Q := ⟨r, rfl, h⟩
theorem Wp.mono {α : Type} {o : Option α} {Q Q' : α → Prop} (h : Wp o Q) (hq : ∀ r, Q r → Q' r) : Wp o Q' := by
  obtain ⟨r, e, q⟩ := h; exact ⟨r, e, hq r q⟩
theorem wp_kSeq {call base y} {x : Option AOut} {Q} (h : Wp x fun o => Wp (kSeq call base y (some o)) Q) : Wp (kSeq call base y x) Q := by
  obtain ⟨o, rfl, h⟩ := h; exact h
theorem wp_kBlock {id keep} {x : Option AOut} {Q} (h : Wp x fun o => Wp (kBlock id keep (some o)) Q) : Wp (kBlock id keep x) Q := by
  obtain ⟨o, rfl, h⟩ := h; exact h
theorem wp_kRes {rs} {x : Option AOut} {Q} (h : Wp x fun o => Wp (kRes rs (some o)) Q) : Wp (kRes rs x) Q := by
  obtain ⟨o, rfl, h⟩ := h; exact h
theorem wp_kOps {call base os d a ws} {x : Option (AV × AHeap × List Nat)} {Q} (h : Wp x fun r => Wp (aops call base os (putA a d r.1) r.2.1 (wadd base ws r.2.2)) Q) : Wp (kOps call base os d a ws x) Q := by
  obtain ⟨o, rfl, h⟩ := h; exact h
theorem wp_kReg {x : Option (Acts × AHeap × List Nat)} {Q} (h : Wp x fun r => Q (.normal, r.1, r.2.1, r.2.2)) : Wp (kReg x) Q := by
  obtain ⟨o, rfl, h⟩ := h; exact ⟨_, rfl, h⟩
def LoopPost (keep : List Nat) (I : Nat → Acts → AHeap → List Nat → Prop) (Q : AOut → Prop) (k : Nat) (o : AOut) : Prop :=
  (∃ a' h' ws' k', o = (.normal, a', h', ws') ∧ k' < k ∧ I k' (keepA keep a') h' ws') ∨ (o.1 ≠ .normal ∧ Q o)
theorem loop_next {keep I Q k a h ws} (k' : Nat) (hk : k' < k) (hI : I k' (keepA keep a) h ws) : LoopPost keep I Q k (.normal, a, h, ws) := Or.inl ⟨a, h, ws, k', rfl, hk, hI⟩
theorem loop_exit {keep I Q k i a h ws} (hq : Q (.exit i, a, h, ws)) : LoopPost keep I Q k (.exit i, a, h, ws) := Or.inr ⟨(fun h => by cases h), hq⟩
theorem loop_ret {keep I Q k a h ws} (hq : Q (.ret, a, h, ws)) : LoopPost keep I Q k (.ret, a, h, ws) := Or.inr ⟨(fun h => by cases h), hq⟩
theorem wp_loop {s : Step} {keep : List Nat} {Q : AOut → Prop} {a : Acts} {h : AHeap} {ws : List Nat} (I : Nat → Acts → AHeap → List Nat → Prop) (k : Nat) (hI : I k (keepA keep a) h ws)
    (hstep : ∀ k a h ws, I k a h ws → Wp (s a h ws) (LoopPost keep I Q k)) : Wp (xiter s keep a h ws) Q :=
  loop_rule I hstep k a h ws hI

theorem wp_some_eq {α : Type} (r : α) (Q : α → Prop) : Wp (some r) Q = Q r := by
  apply propext; constructor
  · rintro ⟨_, h, q⟩; cases h; exact q
  · exact wp_some
theorem loop_exit_eq (keep I Q k i a h ws) : LoopPost keep I Q k (.exit i, a, h, ws) = Q (.exit i, a, h, ws) := by
  apply propext; constructor
  · rintro (⟨_, _, _, _, h, _⟩ | h)
    · cases h
    · exact h.2
  · exact loop_exit
theorem loop_goto {keep I Q k l a h ws} (hq : Q (.goto l, a, h, ws)) : LoopPost keep I Q k (.goto l, a, h, ws) := Or.inr ⟨(fun h => by cases h), hq⟩
theorem loop_goto_eq (keep I Q k l a h ws) : LoopPost keep I Q k (.goto l, a, h, ws) = Q (.goto l, a, h, ws) := by
  apply propext; constructor
  · rintro (⟨_, _, _, _, h, _⟩ | h)
    · cases h
    · exact h.2
  · exact loop_goto
theorem loop_ret_eq (keep I Q k a h ws) : LoopPost keep I Q k (.ret, a, h, ws) = Q (.ret, a, h, ws) := by
  apply propext; constructor
  · rintro (⟨_, _, _, _, h, _⟩ | h)
    · cases h
    · exact h.2
  · exact loop_ret

theorem trimR_fst (n : Nat) (r : AV × AHeap × List Nat) : (trimR n r).1 = r.1 := by unfold trimR; split <;> rfl
/-- A law: it answers true (where it is handed no address: on the globals' heap too). -/
theorem W_law {C : Cfg} {f : Nat} {m : MFunc} {args : List AV} {h : AHeap} (hp : ∀ h, C.prim f args h = none) (hm : C.mp f = some m)
    (e : Wp (xbody (W C) m args h) fun r => r.1 = .bool true) (e0 : AV.lts 0 args = true → Wp (xbody (W C) m args C.gl) fun r => r.1 = .bool true) : ∃ h' ws, W C f args h = some (.bool true, h', ws) := by
  cases h0 : AV.lts 0 args with
  | true =>
    obtain ⟨⟨v, h', ws⟩, e, rfl⟩ := e0 h0
    exact ⟨_, _, W_pure hp hm h0 rfl e h⟩
  | false =>
    obtain ⟨⟨v, h', ws⟩, e, rfl⟩ := e
    have := W_body (hp h) hm h0 e
    cases ht : m.trim with
    | false => rw [ht] at this; exact ⟨_, _, this⟩
    | true =>
      rw [ht, if_pos rfl] at this
      have e1 := trimR_fst h.length (.bool true, h', ws)
      generalize trimR h.length (.bool true, h', ws) = r at this e1
      obtain ⟨v, h2, ws2⟩ := r
      simp only at e1
      subst e1
      exact ⟨h2, ws2, this⟩

def noAny : Option AV → Option AV
  | some .any => none
  | r => r
theorem aeval_t (a i) : aeval a (.t i) = noAny (look a i) := by unfold noAny; rw [aeval]; rfl
theorem aeval_c (a v) : aeval a (.c v) = some v := rfl
theorem aeval_f (a f) : aeval a (.f f) = some (.fn f []) := rfl
theorem aeval_g (a i) : aeval a (.g i) = some (.ptr i 0) := rfl
theorem na_none : noAny none = none := rfl
theorem na_int (k n) : noAny (some (.int k n)) = some (.int k n) := rfl
theorem na_bool (b) : noAny (some (.bool b)) = some (.bool b) := rfl
theorem na_str (b) : noAny (some (.str b)) = some (.str b) := rfl
theorem na_nilp : noAny (some .nilp) = some .nilp := rfl
theorem na_ptr (b o) : noAny (some (.ptr b o)) = some (.ptr b o) := rfl
theorem na_nils : noAny (some .nils) = some .nils := rfl
theorem na_sl (b o n c) : noAny (some (.sl b o n c)) = some (.sl b o n c) := rfl
theorem na_gsl (b o n e m) : noAny (some (.gsl b o n e m)) = some (.gsl b o n e m) := rfl
theorem na_nilf : noAny (some .nilf) = some .nilf := rfl
theorem na_fn (f c) : noAny (some (.fn f c)) = some (.fn f c) := rfl
theorem na_agg (c) : noAny (some (.agg c)) = some (.agg c) := rfl
theorem na_tup (c) : noAny (some (.tup c)) = some (.tup c) := rfl
theorem slen_nils : slen .nils = some 0 := rfl
theorem slen_sl (b o n c) : slen (.sl b o n c) = some n := rfl
theorem slen_gsl (b o n e m) : slen (.gsl b o n e m) = some n := rfl
theorem na_slen {v : AV} {n : Nat} (h : slen v = some n) : noAny (some v) = some v := by cases v <;> first | rfl | cases h

theorem lt_self (n : Nat) : (n < n) = False := by simp
theorem lt_add (n k : Nat) : (n + k < n) = False := by simp

theorem lenA {α : Type} (X js : List α) (n : Nat) (h : X.length = n) : (X ++ js).length = n + js.length := by simp [h]
theorem ite_T {α : Type} (a b : α) : (if True then a else b) = a := if_pos trivial
theorem ite_F {α : Type} (a b : α) : (if False then a else b) = b := if_neg (fun h => h)
theorem dec_T : decide True = true := rfl
theorem dec_F : decide False = false := rfl
theorem beqT (b : Bool) : (b == true) = b := by cases b <;> rfl
theorem beqF (b : Bool) : (b == false) = !b := by cases b <;> rfl
theorem beq_int (a b : Int) : (a == b) = decide (a = b) := by
  by_cases h : a = b
  · simp [h]
  · simp [h]
theorem bne_bool {α : Type} [BEq α] (a b : α) : (a != b) = !(a == b) := rfl
theorem mem_nil_F (a : Nat) : (a ∈ ([] : List Nat)) = False := by simp
theorem eq_true_T : (true = true) = True := by simp
theorem eq_FT : (false = true) = False := by simp
theorem eq_TF : (true = false) = False := by simp
theorem some_FT : (some false = some true) = False := by simp
theorem none_T : (none = some true) = False := by simp
theorem ic_int (k n) : (AV.int k n).isCell = true := rfl
theorem ic_bool (b) : (AV.bool b).isCell = true := rfl
theorem ic_ptr (b o) : (AV.ptr b o).isCell = true := rfl
theorem ic_nilp : AV.nilp.isCell = true := rfl
theorem ic_nils : AV.nils.isCell = true := rfl
theorem ic_nilf : AV.nilf.isCell = true := rfl
theorem ic_sl (b o n c) : (AV.sl b o n c).isCell = true := rfl
theorem ic_gsl (b o n c m) : (AV.gsl b o n c m).isCell = true := rfl
theorem ic_fn (b o) : (AV.fn b o).isCell = true := rfl
theorem ic_str (s) : (AV.str s).isCell = true := rfl
theorem not_F : (¬ False) = True := by simp
theorem not_T : (¬ True) = False := by simp
theorem nn_nat (n : Nat) : (0 ≤ (n : Int)) = True := by simp
theorem wr_i64 (n : Int) (h : -9223372036854775808 ≤ n) (h' : n ≤ 9223372036854775807) : IntKind.i64.wrap n = n := IntWalk.i64_in n ⟨h, h'⟩
theorem wr_u64 (n : Int) (h : 0 ≤ n) (h' : n ≤ 18446744073709551615) : IntKind.u64.wrap n = n := IntWalk.u64_in n ⟨h, h'⟩
theorem wr_u32 (n : Int) (h : 0 ≤ n) (h' : n ≤ 4294967295) : IntKind.u32.wrap n = n := IntWalk.u32_in n ⟨h, h'⟩
theorem wr_i32 (n : Int) (h : -2147483648 ≤ n) (h' : n ≤ 2147483647) : IntKind.i32.wrap n = n := IntWalk.i32_in n ⟨h, h'⟩
theorem wr_u16 (n : Int) (h : 0 ≤ n) (h' : n ≤ 65535) : IntKind.u16.wrap n = n := IntWalk.u16_in n ⟨h, h'⟩
theorem wr_u8 (n : Int) (h : 0 ≤ n) (h' : n ≤ 255) : IntKind.u8.wrap n = n := IntWalk.u8_in n ⟨h, h'⟩
theorem wr_i8 (n : Int) (h : -128 ≤ n) (h' : n ≤ 127) : IntKind.i8.wrap n = n := IntWalk.i8_in n ⟨h, h'⟩
theorem asN_eq (k : IntKind) (n : Int) : asN (.int k n) = if 0 ≤ n then some n.toNat else none := rfl
def notOld (b : ABlk) : Bool := match b.st with | .old _ => false | _ => true
theorem oldIn_of {n : Nat} {b : ABlk} (h : notOld b = true) : oldIn n b = true := by
  unfold notOld at h; unfold oldIn
  split at h
  · cases h
  · rename_i hh
    split
    · rename_i t ht; exact absurd ht (hh t)
    · rfl
theorem good_nil : Good [] := rfl
theorem good_set {h : AHeap} {p : Nat} {b : ABlk} (hg : Good h) (hb : notOld b = true) : Good (h.set p b) := hg.set (oldIn_of hb)
theorem good_app {h js : AHeap} (hg : Good h) (hb : js.all notOld = true) : Good (h ++ js) := hg.append (List.all_eq_true.2 fun x hx => oldIn_of (List.all_eq_true.1 hb x hx))
theorem good_lit {js : AHeap} (hb : js.all notOld = true) : Good js := List.all_eq_true.2 fun x hx => oldIn_of (List.all_eq_true.1 hb x hx)
theorem notOld_tip (o c) : notOld ⟨.tip o, c⟩ = true := rfl
theorem notOld_ext (c) : notOld ⟨.ext, c⟩ = true := rfl
theorem beq_nat (a b : Nat) : (a == b) = decide (a = b) := by
  by_cases h : a = b
  · simp [h]
  · simp [h]
theorem le_sadd (n k : Nat) (h : 0 < k) : (n + k ≤ n) = False := by
  apply propext; constructor
  · intro; omega
  · exact False.elim
theorem lt_sadd (n k : Nat) (h : 0 < k) : (n < n + k) = True := by
  apply propext; constructor
  · intro; trivial
  · intro; omega
theorem ge_addF {n p : Nat} (k : Nat) (h : p < n) : (n + k ≤ p) = False := by
  apply propext; constructor
  · intro; omega
  · exact False.elim
theorem Tbeq (b : Bool) : (true == b) = b := by cases b <;> rfl
theorem Fbeq (b : Bool) : (false == b) = !b := by cases b <;> rfl

section
variable {C : Cfg}
/-- What the kernel works out. -/
def pureOf (C : Cfg) (n f : Nat) (args : List AV) : Option AV :=
  match C.prim f args C.gl with
  | some _ => none
  | none => match C.mp f with
    | none => none
    | some m => if AV.lts 0 args then (abody (acall C n) n m args C.gl).bind fun r => if AV.lt 0 r.1 then some r.1 else none else none
theorem W_known {n f : Nat} {args : List AV} {v : AV} (hp : ∀ h, C.prim f args h = none) (e : pureOf C n f args = some v) (h : AHeap) : W C f args h = some (v, h, []) := by
  unfold pureOf at e
  rw [hp] at e
  simp only at e
  cases hm : C.mp f with
  | none => rw [hm] at e; cases e
  | some m =>
    rw [hm] at e
    simp only at e
    split at e
    · rename_i h0
      simp only [Option.bind_eq_some_iff] at e
      obtain ⟨⟨v', h', ws⟩, h1, h2⟩ := e
      split at h2
      · rename_i hv
        cases h2
        refine W_of (n := n + 1) ?_
        rw [acall, hp h, hm]
        simp only [h0, if_true, h1, Option.bind_some, hv]
      · cases h2
    · cases e
end

attribute [push_cast] loop_goto_eq w_goto w_scope w_kSeqG w_kBlockG xg_normal xg_exit xg_ret xg_goto wp_some_eq loop_exit_eq loop_ret_eq w_ops_nil w_ops_cons w_kOps w_oper w_operG w_regd1 good_set good_app notOld_tip notOld_ext w_gOperT w_gOperF w_skip w_exit w_ret w_reg w_regd0 w_seq w_cond w_block w_body w_kReg w_kSeqN w_kSeqE w_kSeqR w_kCondT w_kCondF w_kBlockN w_kBlockE w_kBlockR w_kResN w_kResR
  w_opsR_nil w_opsR_cons w_kOpsR w_kRegd apartR recOf readB faceOk
  aop aeval_t aeval_c aeval_f aeval_g na_none na_int na_bool na_str na_nilp na_ptr na_nils na_sl na_gsl na_nilf na_fn na_agg na_tup aevals look putA guardOf wadd_nil wadd_cons argsA ares aresL ares1 cellsAt loadA loadN ACells.get? ACells.set? ACells.len ACells.list ACells.sub ACells.app abin abinInt abinStr aeq aun nilOf isSlice aminmax apart partsOf fillA fillC spliceL repl mkCells toInts optN bounds slen_nils slen_sl slen_gsl storeL change AV.cells ic_int ic_bool ic_ptr ic_nilp ic_nils ic_nilf ic_sl ic_gsl ic_fn ic_str some_FT none_T keepA lt_self lt_add ite_T ite_F dec_T dec_F asN_eq nn_nat wr_i64 wr_u64 wr_u32 wr_i32 wr_u16 wr_u8 wr_i8 Int.toNat_natCast Int.zero_add Int.add_zero Nat.min_eq_left Nat.min_eq_right IntKind.bits beq_int beq_nat le_sadd lt_sadd ge_addF bne_bool mem_nil_F eq_true_T eq_FT eq_TF not_F not_T eq_self gt_iff_lt ge_iff_le beqT beqF Tbeq Fbeq
  Option.bind_some Option.bind_none Option.map_some Option.map_none List.map_cons List.map_nil List.filterMap_cons List.filterMap_nil List.getElem?_cons_succ List.getElem?_cons_zero List.getElem?_nil List.length_cons List.length_nil List.length_set List.length_append List.cons_append List.nil_append List.append_assoc List.append_nil
  List.set_cons_zero List.set_cons_succ List.set_nil List.set_set List.drop_zero List.drop_succ_cons List.take_succ_cons List.take_zero List.take_nil List.replicate_succ List.replicate_zero List.flatten_cons List.flatten_nil List.mem_cons List.not_mem_nil or_false false_or or_true true_or true_and and_true false_and and_false not_true_eq_false not_false_eq_true ne_eq
  List.getElem?_append_left List.getElem?_append_right List.set_append_left List.set_append_right List.getElem?_set_self List.getElem?_set_ne Nat.le_refl Nat.le_add_right Nat.sub_self Nat.add_sub_cancel_left Nat.zero_add Nat.add_zero Nat.zero_le Nat.zero_mul Nat.mul_zero Nat.sub_zero Nat.mul_one Nat.one_mul List.getElem?_map List.length_map Nat.lt_irrefl Int.lt_irrefl Nat.add_assoc BEq.rfl Bool.not_false Bool.not_true Bool.false_eq_true Bool.true_and Bool.and_true Bool.false_and Bool.and_false Bool.true_or Bool.or_true Bool.false_or Bool.or_false Bool.not_not
  List.all_cons List.all_nil List.all_append List.contains_nil List.contains_cons List.elem_nil List.elem_cons Option.getD_some Option.getD_none
end Go.Proofs.YtdbdmnhnijpdcaaDoorW.AI
